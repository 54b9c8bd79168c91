/-
  DERIVED. The forks of the run of the example, by the kernel. No condition.
-/
import Derived.Test.YtfehlbepjmmkeaaGreatDoorSt
namespace Go.Proofs.YtfehlbepjmmkeaaGreatDoor
namespace Ex
noncomputable section
set_option maxRecDepth 100000
theorem f15 : toForkT C 6 7528 6 5 s14 = true := by decide +kernel
theorem g15x0 : toFork C 5 7528 23 4 (way (runL C 6 0 6 s14) 0) = true := by decide +kernel
theorem g15x1 : toFork C 5 7528 23 4 (way (runL C 6 0 6 s14) 1) = true := by decide +kernel
theorem g15x2 : toFork C 5 7528 23 4 (way (runL C 6 0 6 s14) 2) = true := by decide +kernel
theorem g15x3 : toFork C 5 7528 23 4 (way (runL C 6 0 6 s14) 3) = true := by decide +kernel
theorem g15x4 : toFork C 5 7528 23 4 (way (runL C 6 0 6 s14) 4) = true := by decide +kernel
end
end Ex
end Go.Proofs.YtfehlbepjmmkeaaGreatDoor
