/-
  DERIVED. Ways of a fork of the run of the example, by the kernel. No condition.
-/
import Derived.Test.YtbhiaeciiphelaaGreatDoorSt
namespace Go.Proofs.YtbhiaeciiphelaaGreatDoor
namespace Ex
noncomputable section
set_option maxRecDepth 100000
theorem h7x5x2 : chkL C 4 2680 35 (way (runL C 5 2680 28 (way (runL C 6 0 19 s6) 5)) 2) r7 = true := by decide +kernel
theorem h7x5x3 : chkL C 4 2680 29 (way (runL C 5 2680 28 (way (runL C 6 0 19 s6) 5)) 3) r7 = true := by decide +kernel
theorem h7x5x4 : chkL C 4 2680 35 (way (runL C 5 2680 28 (way (runL C 6 0 19 s6) 5)) 4) r7 = true := by decide +kernel
end
end Ex
end Go.Proofs.YtbhiaeciiphelaaGreatDoor
