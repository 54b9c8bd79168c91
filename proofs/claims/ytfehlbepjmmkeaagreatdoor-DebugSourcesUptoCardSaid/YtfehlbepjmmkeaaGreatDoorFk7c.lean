/-
  DERIVED. Ways of a fork of the run of the example, by the kernel. No condition.
-/
import Derived.Test.YtfehlbepjmmkeaaGreatDoorSt
namespace Go.Proofs.YtfehlbepjmmkeaaGreatDoor
set_option maxRecDepth 100000
namespace Ex
noncomputable section
theorem bkw:amA C 4 2680 35 (way (afW C 5 2680 28 (way (afW C 6 0 19 s6) 1)) 1) r7=true:=by decide+kernel
theorem bkA:amA C 4 2680 29 (way (afW C 5 2680 28 (way (afW C 6 0 19 s6) 1)) 2) r7=true:=by decide+kernel
theorem bkB:amA C 4 2680 35 (way (afW C 5 2680 28 (way (afW C 6 0 19 s6) 1)) 3) r7=true:=by decide+kernel
end
end Ex
end Go.Proofs.YtfehlbepjmmkeaaGreatDoor
