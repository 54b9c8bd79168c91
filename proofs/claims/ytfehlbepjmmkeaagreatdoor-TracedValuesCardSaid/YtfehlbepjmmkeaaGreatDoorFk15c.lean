/-
  DERIVED. Ways of a fork of the run of the example, by the kernel. No condition.
-/
import Derived.Test.YtfehlbepjmmkeaaGreatDoorSt
namespace Go.Proofs.YtfehlbepjmmkeaaGreatDoor
namespace Ex
noncomputable section
set_option maxRecDepth 100000
theorem h15x3x2 : chkL C 4 7528 24 (way (runL C 5 7528 23 (way (runL C 6 0 6 s14) 3)) 2) r15 = true := by decide +kernel
theorem h15x3x3 : chkL C 4 7528 24 (way (runL C 5 7528 23 (way (runL C 6 0 6 s14) 3)) 3) r15 = true := by decide +kernel
theorem h15x4x0 : chkL C 4 7528 24 (way (runL C 5 7528 23 (way (runL C 6 0 6 s14) 4)) 0) r15 = true := by decide +kernel
theorem h15x4x1 : chkL C 4 7528 24 (way (runL C 5 7528 23 (way (runL C 6 0 6 s14) 4)) 1) r15 = true := by decide +kernel
theorem h15x4x2 : chkL C 4 7528 24 (way (runL C 5 7528 23 (way (runL C 6 0 6 s14) 4)) 2) r15 = true := by decide +kernel
theorem h15x4x3 : chkL C 4 7528 24 (way (runL C 5 7528 23 (way (runL C 6 0 6 s14) 4)) 3) r15 = true := by decide +kernel
end
end Ex
end Go.Proofs.YtfehlbepjmmkeaaGreatDoor
