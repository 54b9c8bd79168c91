/-
  DERIVED. The forks of the run of the example, by the kernel. No condition.
-/
import Derived.Test.YtfehlbepjmmkeaaGreatDoorSt
namespace Go.Proofs.YtfehlbepjmmkeaaGreatDoor
set_option maxRecDepth 100000
namespace Ex
noncomputable section
theorem f7:aLJ C 6 2680 19 6 s6=true:=by decide+kernel
theorem bFL:asB C 5 2680 34 5 (way (afW C 6 0 19 s6) 0)=true:=by decide+kernel
theorem bFM:asB C 5 2680 28 5 (way (afW C 6 0 19 s6) 1)=true:=by decide+kernel
theorem bFO:asB C 5 2680 34 5 (way (afW C 6 0 19 s6) 2)=true:=by decide+kernel
theorem bFQ:asB C 5 2680 28 5 (way (afW C 6 0 19 s6) 3)=true:=by decide+kernel
theorem bFY:asB C 5 2680 34 5 (way (afW C 6 0 19 s6) 4)=true:=by decide+kernel
theorem bF3:asB C 5 2680 28 5 (way (afW C 6 0 19 s6) 5)=true:=by decide+kernel
end
end Ex
end Go.Proofs.YtfehlbepjmmkeaaGreatDoor
