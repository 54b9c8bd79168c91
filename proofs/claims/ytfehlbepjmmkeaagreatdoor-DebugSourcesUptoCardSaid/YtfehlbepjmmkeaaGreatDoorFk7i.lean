/-
  DERIVED. Ways of a fork of the run of the example, by the kernel. No condition.
-/
import Derived.Test.YtfehlbepjmmkeaaGreatDoorSt
namespace Go.Proofs.YtfehlbepjmmkeaaGreatDoor
set_option maxRecDepth 100000
namespace Ex
noncomputable section
theorem blq:amA C 4 2680 29 (way (afW C 5 2680 34 (way (afW C 6 0 19 s6) 4)) 4) r7=true:=by decide+kernel
theorem blr:amA C 4 2680 35 (way (afW C 5 2680 28 (way (afW C 6 0 19 s6) 5)) 0) r7=true:=by decide+kernel
theorem bls:amA C 4 2680 29 (way (afW C 5 2680 28 (way (afW C 6 0 19 s6) 5)) 1) r7=true:=by decide+kernel
end
end Ex
end Go.Proofs.YtfehlbepjmmkeaaGreatDoor
