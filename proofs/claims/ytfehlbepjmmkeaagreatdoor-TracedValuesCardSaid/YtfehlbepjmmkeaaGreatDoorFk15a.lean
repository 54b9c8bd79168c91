/-
  DERIVED. Ways of a fork of the run of the example, by the kernel. No condition.
-/
import Derived.Test.YtfehlbepjmmkeaaGreatDoorSt
namespace Go.Proofs.YtfehlbepjmmkeaaGreatDoor
namespace Ex
noncomputable section
set_option maxRecDepth 100000
theorem h15x0x0 : chkL C 4 7528 24 (way (runL C 5 7528 23 (way (runL C 6 0 6 s14) 0)) 0) r15 = true := by decide +kernel
theorem h15x0x1 : chkL C 4 7528 24 (way (runL C 5 7528 23 (way (runL C 6 0 6 s14) 0)) 1) r15 = true := by decide +kernel
theorem h15x0x2 : chkL C 4 7528 24 (way (runL C 5 7528 23 (way (runL C 6 0 6 s14) 0)) 2) r15 = true := by decide +kernel
theorem h15x0x3 : chkL C 4 7528 24 (way (runL C 5 7528 23 (way (runL C 6 0 6 s14) 0)) 3) r15 = true := by decide +kernel
theorem h15x1x0 : chkL C 4 7528 24 (way (runL C 5 7528 23 (way (runL C 6 0 6 s14) 1)) 0) r15 = true := by decide +kernel
theorem h15x1x1 : chkL C 4 7528 24 (way (runL C 5 7528 23 (way (runL C 6 0 6 s14) 1)) 1) r15 = true := by decide +kernel
theorem h15x1x2 : chkL C 4 7528 24 (way (runL C 5 7528 23 (way (runL C 6 0 6 s14) 1)) 2) r15 = true := by decide +kernel
end
end Ex
end Go.Proofs.YtfehlbepjmmkeaaGreatDoor
