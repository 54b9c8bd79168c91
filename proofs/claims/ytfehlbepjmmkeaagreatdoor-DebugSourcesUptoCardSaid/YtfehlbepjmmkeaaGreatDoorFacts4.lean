/-
  DERIVED. The closed facts of the row of DebugSources, each by itself. No condition.
-/
import Derived.Test.YtfehlbepjmmkeaaGreatDoorA0
import Derived.Test.YtfehlbepjmmkeaaGreatDoorRows
import Derived.ProofKit
namespace Go.Proofs.YtfehlbepjmmkeaaGreatDoor
set_option maxRecDepth 100000
open Go.ChangeShapes Go.WideShapes Go.ChangeAt Go.RowKit
theorem aDt:((Rows.debugSourcesUptoRow).wf (OpenSpec.ofChange (Rows.OpenSpec.upto Rows.debugSourcesSpec).bare))=true:=by kernel_rfl
theorem aDx:(laidOutB Tryz.prog)=true:=by kernel_rfl
theorem aDy:(mapsRowed Tryz.prog)=true:=by kernel_rfl
theorem aDz:(Tryz.f4.params.all (Tryz.prog.readableRec ·))=true:=by kernel_rfl
theorem aDD:(namedTie Tryz.prog (Rows.debugSourcesUptoRow).named ((Rows.OpenSpec.upto Rows.debugSourcesSpec).bare).vars)=true:=by kernel_rfl
theorem aDE:(((Rows.debugSourcesUptoRow).stops== []))=true:=by kernel_rfl
theorem aDF:((Tryz.prog.stops== []))=true:=by kernel_rfl
theorem aDK:(((Rows.debugSourcesUptoRow).knobs== []))=true:=by kernel_rfl
theorem aDW:((Tryz.prog.stopKnobs== []))=true:=by kernel_rfl
theorem aDY:(((Rows.debugSourcesUptoRow).inPlace==Tryz.prog.inPlace 4))=true:=by kernel_rfl
theorem ayP:(((Rows.debugSourcesUptoRow).unfollowed==Tryz.prog.unfollowed 4))=true:=by kernel_rfl
theorem ayR:(((Rows.debugSourcesUptoRow).recurses==Tryz.prog.recurses 4))=true:=by kernel_rfl
theorem ayS:(((Rows.debugSourcesUptoRow).named==Tryz.prog.varsNamed 4))=true:=by kernel_rfl
theorem ayV:(((Rows.debugSourcesUptoRow).maps==(Tryz.f4.params.toList++((Rows.OpenSpec.upto Rows.debugSourcesSpec).bare).plain.varTypes Tryz.prog).any (Tryz.prog.mapsRec ·)))=true:=by kernel_rfl
theorem ay1:(((Rows.debugSourcesUptoRow).ifaces==(Tryz.f4.params.toList++((Rows.OpenSpec.upto Rows.debugSourcesSpec).bare).plain.varTypes Tryz.prog).any (Tryz.prog.ifacesRec ·)))=true:=by kernel_rfl
theorem ay6:(((Rows.debugSourcesUptoRow).mapsOut==Tryz.prog.mapsAmong Tryz.f4.resultTypes.toList))=true:=by kernel_rfl
theorem ay9:(((Rows.debugSourcesUptoRow).loops==(Tryz.f4.params.toList++((Rows.OpenSpec.upto Rows.debugSourcesSpec).bare).plain.varTypes Tryz.prog).any (Tryz.prog.loopsFrom ·)))=true:=by kernel_rfl
theorem azd:(((Rows.debugSourcesUptoRow).wideKeys==(Tryz.f4.params.toList++((Rows.OpenSpec.upto Rows.debugSourcesSpec).bare).plain.varTypes Tryz.prog++Tryz.f4.resultTypes.toList).any (Tryz.prog.wideKeysFrom ·)))=true:=by kernel_rfl
theorem azf:(((Rows.OpenSpec.upto Rows.debugSourcesSpec).bare).vars.all (Tryz.prog.varReadable ·))=true:=by kernel_rfl
theorem azg:(Tryz.f4.resultTypes.all (fun t=>Tryz.prog.readableRec t&&decide (t<Tryz.prog.types.size)))=true:=by kernel_rfl
theorem azj:(((Rows.debugSourcesUptoRow).ifacesOut==Tryz.f4.resultTypes.toList.any (Tryz.prog.ifacesRec ·)))=true:=by kernel_rfl
theorem azk:(((Rows.debugSourcesUptoRow).loopsOut==Tryz.f4.resultTypes.toList.any (Tryz.prog.loopsFrom ·)))=true:=by kernel_rfl
theorem azl:(((Rows.debugSourcesUptoRow).plainKeys==Tryz.prog.plainKeys))=true:=by kernel_rfl
theorem azm:((Rows.debugSourcesUptoRow).shortTexts.isNone)=true:=by kernel_rfl
theorem azn:(Tryz.prog.stopsHeard)=true:=by kernel_rfl
theorem azs:(Tryz.prog.mayEnter)=true:=by kernel_rfl
theorem azy:(((Rows.debugSourcesUptoRow).lifted==Tryz.prog.liftsFinal))=true:=by kernel_rfl
theorem azz:((Tryz.prog.make==some (Rows.debugSourcesUptoRow).make))=true:=by kernel_rfl
theorem azA:(((Rows.debugSourcesUptoRow).kinds==(if (Rows.debugSourcesUptoRow).domain.isEmpty then [] else Tryz.f4.params.toList.map fun t=>match Tryz.prog.underlying t with|some (.int k)=>some k|_=>none)))=true:=by kernel_rfl
theorem azC:(((Rows.debugSourcesUptoRow).pinned==(Rows.debugSourcesUptoRow).pinnedBy))=true:=by kernel_rfl
theorem azD:(((Rows.debugSourcesUptoRow).veiled==(Tryz.f4.params.toList++((Rows.OpenSpec.upto Rows.debugSourcesSpec).bare).plain.varTypes Tryz.prog++Tryz.f4.resultTypes.toList).any (Tryz.prog.veiledRec ·)))=true:=by kernel_rfl
theorem azK:((Rows.debugSourcesUptoRow).veiledFits Tryz.prog Tryz.f4.params.toList (Tryz.f4.params.toList++((Rows.OpenSpec.upto Rows.debugSourcesSpec).bare).plain.varTypes Tryz.prog++Tryz.f4.resultTypes.toList))=true:=by kernel_rfl
theorem abW {a b:Bool}(h:a=true)(k:b=true):(a&&b)=true:=by rw[h,k];rfl
theorem au8:joinedFacts Tryz.prog 4 Tryz.f4 (Rows.OpenSpec.upto Rows.debugSourcesSpec).bare Rows.debugSourcesUptoRow=true:=by
 unfold joinedFacts
 exact abW (abW (abW (abW (abW (abW (abW (abW (abW (abW (abW (abW (abW (abW (abW (abW (abW (abW (abW (abW (abW (abW (abW (abW (abW (abW (abW (abW (abW (abW (abW (aDt) aDx) aDy) aDz) aDD) aDE) aDF) aDK) aDW) aDY) ayP) ayR) ayS) ayV) ay1) ay6) ay9) azd) azf) azg) azj) azk) azl) azm) azn) azs) azy) azz) azA) azC) azD) azK
end Go.Proofs.YtfehlbepjmmkeaaGreatDoor
