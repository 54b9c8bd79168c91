/-
  DERIVED. A part of the run of the example, by the kernel. No condition.
-/
import Derived.Test.YtfehlbepjmmkeaaGreatDoorSt
namespace Go.Proofs.YtfehlbepjmmkeaaGreatDoor
namespace Ex
noncomputable section
set_option maxRecDepth 100000
theorem c6 : chkG C 6 42757 s5 s6 = true := by decide +kernel
end
end Ex
end Go.Proofs.YtfehlbepjmmkeaaGreatDoor
