/-
  DERIVED. A part of the run of the example, by the kernel. No condition.
-/
import Derived.Test.YtfehlbepjmmkeaaGreatDoorSt
namespace Go.Proofs.YtfehlbepjmmkeaaGreatDoor
namespace Ex
noncomputable section
set_option maxRecDepth 100000
theorem c7 : chkG C 6 44758 s6 s7 = true := by decide +kernel
end
end Ex
end Go.Proofs.YtfehlbepjmmkeaaGreatDoor
