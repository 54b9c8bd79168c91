/-
  DERIVED. The closed facts of the row of DebugMoments, each by itself. No condition.
-/
import Derived.Test.YtbhiaeciiphelaaGreatDoorRows
import Derived.ProofKit
namespace Go.Proofs.YtbhiaeciiphelaaGreatDoor
open Go.ChangeShapes Go.WideShapes Go.ChangeAt Go.RowKit
set_option maxRecDepth 100000
theorem debugMoments_c0 : ((Rows.debugMomentsRow).wf (OpenSpec.ofChange Rows.debugMomentsSpec)) = true := by kernel_rfl
theorem debugMoments_c1 : (laidOutB Tryz.prog) = true := by kernel_rfl
theorem debugMoments_c2 : (mapsRowed Tryz.prog) = true := by kernel_rfl
theorem debugMoments_c3 : (Tryz.f6.params.all (Tryz.prog.readableRec ·)) = true := by kernel_rfl
theorem debugMoments_c4 : (namedTie Tryz.prog (Rows.debugMomentsRow).named (Rows.debugMomentsSpec).vars) = true := by kernel_rfl
theorem debugMoments_c5 : (((Rows.debugMomentsRow).stops == [])) = true := by kernel_rfl
theorem debugMoments_c6 : ((Tryz.prog.stops == [])) = true := by kernel_rfl
theorem debugMoments_c7 : (((Rows.debugMomentsRow).knobs == [])) = true := by kernel_rfl
theorem debugMoments_c8 : ((Tryz.prog.stopKnobs == [])) = true := by kernel_rfl
theorem debugMoments_c9 : (((Rows.debugMomentsRow).inPlace == Tryz.prog.inPlace 6)) = true := by kernel_rfl
theorem debugMoments_c10 : (((Rows.debugMomentsRow).unfollowed == Tryz.prog.unfollowed 6)) = true := by kernel_rfl
theorem debugMoments_c11 : (((Rows.debugMomentsRow).recurses == Tryz.prog.recurses 6)) = true := by kernel_rfl
theorem debugMoments_c12 : (((Rows.debugMomentsRow).named == Tryz.prog.varsNamed 6)) = true := by kernel_rfl
theorem debugMoments_c13 : (((Rows.debugMomentsRow).maps == (Tryz.f6.params.toList ++ (Rows.debugMomentsSpec).plain.varTypes Tryz.prog).any (Tryz.prog.mapsRec ·))) = true := by kernel_rfl
theorem debugMoments_c14 : (((Rows.debugMomentsRow).ifaces == (Tryz.f6.params.toList ++ (Rows.debugMomentsSpec).plain.varTypes Tryz.prog).any (Tryz.prog.ifacesRec ·))) = true := by kernel_rfl
theorem debugMoments_c15 : (((Rows.debugMomentsRow).mapsOut == Tryz.prog.mapsAmong Tryz.f6.resultTypes.toList)) = true := by kernel_rfl
theorem debugMoments_c16 : (((Rows.debugMomentsRow).loops == (Tryz.f6.params.toList ++ (Rows.debugMomentsSpec).plain.varTypes Tryz.prog).any (Tryz.prog.loopsFrom ·))) = true := by kernel_rfl
theorem debugMoments_c17 : (((Rows.debugMomentsRow).wideKeys == (Tryz.f6.params.toList ++ (Rows.debugMomentsSpec).plain.varTypes Tryz.prog ++ Tryz.f6.resultTypes.toList).any (Tryz.prog.wideKeysFrom ·))) = true := by kernel_rfl
theorem debugMoments_c18 : ((Rows.debugMomentsSpec).vars.all (Tryz.prog.varReadable ·)) = true := by kernel_rfl
theorem debugMoments_c19 : (Tryz.f6.resultTypes.all (fun t => Tryz.prog.readableRec t && decide (t < Tryz.prog.types.size))) = true := by kernel_rfl
theorem debugMoments_c20 : (((Rows.debugMomentsRow).ifacesOut == Tryz.f6.resultTypes.toList.any (Tryz.prog.ifacesRec ·))) = true := by kernel_rfl
theorem debugMoments_c21 : (((Rows.debugMomentsRow).loopsOut == Tryz.f6.resultTypes.toList.any (Tryz.prog.loopsFrom ·))) = true := by kernel_rfl
theorem debugMoments_c22 : (((Rows.debugMomentsRow).plainKeys == Tryz.prog.plainKeys)) = true := by kernel_rfl
theorem debugMoments_c23 : ((Rows.debugMomentsRow).shortTexts.isNone) = true := by kernel_rfl
theorem debugMoments_c24 : (Tryz.prog.stopsHeard) = true := by kernel_rfl
theorem debugMoments_c25 : (Tryz.prog.mayEnter) = true := by kernel_rfl
theorem debugMoments_c26 : (((Rows.debugMomentsRow).lifted == Tryz.prog.liftsFinal)) = true := by kernel_rfl
theorem debugMoments_c27 : ((Tryz.prog.make == some (Rows.debugMomentsRow).make)) = true := by kernel_rfl
theorem debugMoments_c28 : (((Rows.debugMomentsRow).kinds == (if (Rows.debugMomentsRow).domain.isEmpty then [] else Tryz.f6.params.toList.map fun t => match Tryz.prog.underlying t with | some (.int k) => some k | _ => none))) = true := by kernel_rfl
theorem debugMoments_c29 : (((Rows.debugMomentsRow).pinned == (Rows.debugMomentsRow).pinnedBy)) = true := by kernel_rfl
theorem debugMoments_c30 : (((Rows.debugMomentsRow).veiled == (Tryz.f6.params.toList ++ (Rows.debugMomentsSpec).plain.varTypes Tryz.prog ++ Tryz.f6.resultTypes.toList).any (Tryz.prog.veiledRec ·))) = true := by kernel_rfl
theorem debugMoments_c31 : ((Rows.debugMomentsRow).veiledFits Tryz.prog Tryz.f6.params.toList (Tryz.f6.params.toList ++ (Rows.debugMomentsSpec).plain.varTypes Tryz.prog ++ Tryz.f6.resultTypes.toList)) = true := by kernel_rfl
theorem debugMoments_both {a b : Bool} (h : a = true) (k : b = true) : (a && b) = true := by rw [h, k]; rfl
theorem debugMoments_closed : joinedFacts Tryz.prog 6 Tryz.f6 Rows.debugMomentsSpec Rows.debugMomentsRow = true := by
  unfold joinedFacts
  exact debugMoments_both (debugMoments_both (debugMoments_both (debugMoments_both (debugMoments_both (debugMoments_both (debugMoments_both (debugMoments_both (debugMoments_both (debugMoments_both (debugMoments_both (debugMoments_both (debugMoments_both (debugMoments_both (debugMoments_both (debugMoments_both (debugMoments_both (debugMoments_both (debugMoments_both (debugMoments_both (debugMoments_both (debugMoments_both (debugMoments_both (debugMoments_both (debugMoments_both (debugMoments_both (debugMoments_both (debugMoments_both (debugMoments_both (debugMoments_both (debugMoments_both (debugMoments_c0) debugMoments_c1) debugMoments_c2) debugMoments_c3) debugMoments_c4) debugMoments_c5) debugMoments_c6) debugMoments_c7) debugMoments_c8) debugMoments_c9) debugMoments_c10) debugMoments_c11) debugMoments_c12) debugMoments_c13) debugMoments_c14) debugMoments_c15) debugMoments_c16) debugMoments_c17) debugMoments_c18) debugMoments_c19) debugMoments_c20) debugMoments_c21) debugMoments_c22) debugMoments_c23) debugMoments_c24) debugMoments_c25) debugMoments_c26) debugMoments_c27) debugMoments_c28) debugMoments_c29) debugMoments_c30) debugMoments_c31
end Go.Proofs.YtbhiaeciiphelaaGreatDoor
