/-
  DERIVED. A part of the run of the example, by the kernel. No condition.
-/
import Derived.Test.YtfehlbepjmmkeaaGreatDoorSt
namespace Go.Proofs.YtfehlbepjmmkeaaGreatDoor
namespace Ex
noncomputable section
set_option maxRecDepth 100000
theorem c13 : chkG C 6 44988 s12 s13 = true := by decide +kernel
end
end Ex
end Go.Proofs.YtfehlbepjmmkeaaGreatDoor
