/-
  DERIVED. A part of the run of the example, by the kernel. No condition.
-/
import Derived.Test.YtfehlbepjmmkeaaGreatDoorSt
namespace Go.Proofs.YtfehlbepjmmkeaaGreatDoor
set_option maxRecDepth 100000
namespace Ex
noncomputable section
theorem c6:aH4 C 6 4945 s5 s6=true:=by decide+kernel
end
end Ex
end Go.Proofs.YtfehlbepjmmkeaaGreatDoor
