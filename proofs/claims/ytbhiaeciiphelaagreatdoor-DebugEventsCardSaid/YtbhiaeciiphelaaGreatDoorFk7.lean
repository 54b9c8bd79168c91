/-
  DERIVED. The forks of the run of the example, by the kernel. No condition.
-/
import Derived.Test.YtbhiaeciiphelaaGreatDoorSt
namespace Go.Proofs.YtbhiaeciiphelaaGreatDoor
namespace Ex
noncomputable section
set_option maxRecDepth 100000
theorem f7 : toForkT C 6 2680 19 6 s6 = true := by decide +kernel
theorem g7x0 : toFork C 5 2680 34 5 (way (runL C 6 0 19 s6) 0) = true := by decide +kernel
theorem g7x1 : toFork C 5 2680 28 5 (way (runL C 6 0 19 s6) 1) = true := by decide +kernel
theorem g7x2 : toFork C 5 2680 34 5 (way (runL C 6 0 19 s6) 2) = true := by decide +kernel
theorem g7x3 : toFork C 5 2680 28 5 (way (runL C 6 0 19 s6) 3) = true := by decide +kernel
theorem g7x4 : toFork C 5 2680 34 5 (way (runL C 6 0 19 s6) 4) = true := by decide +kernel
theorem g7x5 : toFork C 5 2680 28 5 (way (runL C 6 0 19 s6) 5) = true := by decide +kernel
end
end Ex
end Go.Proofs.YtbhiaeciiphelaaGreatDoor
