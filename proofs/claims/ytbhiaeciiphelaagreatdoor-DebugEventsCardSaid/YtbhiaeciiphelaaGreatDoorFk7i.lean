/-
  DERIVED. Ways of a fork of the run of the example, by the kernel. No condition.
-/
import Derived.Test.YtbhiaeciiphelaaGreatDoorSt
namespace Go.Proofs.YtbhiaeciiphelaaGreatDoor
namespace Ex
noncomputable section
set_option maxRecDepth 100000
theorem h7x4x4 : chkL C 4 2680 29 (way (runL C 5 2680 34 (way (runL C 6 0 19 s6) 4)) 4) r7 = true := by decide +kernel
theorem h7x5x0 : chkL C 4 2680 35 (way (runL C 5 2680 28 (way (runL C 6 0 19 s6) 5)) 0) r7 = true := by decide +kernel
theorem h7x5x1 : chkL C 4 2680 29 (way (runL C 5 2680 28 (way (runL C 6 0 19 s6) 5)) 1) r7 = true := by decide +kernel
end
end Ex
end Go.Proofs.YtbhiaeciiphelaaGreatDoor
