/-
  DERIVED. A part of the run of the example, by the kernel. No condition.
-/
import Derived.Test.YtfehlbepjmmkeaaGreatDoorSt
namespace Go.Proofs.YtfehlbepjmmkeaaGreatDoor
set_option maxRecDepth 100000
namespace Ex
noncomputable section
theorem c1:aH4 C 6 44942 s0 s1=true:=by decide+kernel
end
end Ex
end Go.Proofs.YtfehlbepjmmkeaaGreatDoor
