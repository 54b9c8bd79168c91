/-
  DERIVED. The closed facts of the row of DebugTraces, each by itself. No condition.
-/
import Derived.Test.YtbhiaeciiphelaaGreatDoorRows
import Derived.ProofKit
namespace Go.Proofs.YtbhiaeciiphelaaGreatDoor
open Go.ChangeShapes Go.WideShapes Go.ChangeAt Go.RowKit
set_option maxRecDepth 100000
theorem debugTraces_c0 : ((Rows.debugTracesRow).wf (OpenSpec.ofChange Rows.debugTracesSpec)) = true := by kernel_rfl
theorem debugTraces_c1 : (laidOutB Tryz.prog) = true := by kernel_rfl
theorem debugTraces_c2 : (mapsRowed Tryz.prog) = true := by kernel_rfl
theorem debugTraces_c3 : (Tryz.f4.params.all (Tryz.prog.readableRec ·)) = true := by kernel_rfl
theorem debugTraces_c4 : (namedTie Tryz.prog (Rows.debugTracesRow).named (Rows.debugTracesSpec).vars) = true := by kernel_rfl
theorem debugTraces_c5 : (((Rows.debugTracesRow).stops == [])) = true := by kernel_rfl
theorem debugTraces_c6 : ((Tryz.prog.stops == [])) = true := by kernel_rfl
theorem debugTraces_c7 : (((Rows.debugTracesRow).knobs == [])) = true := by kernel_rfl
theorem debugTraces_c8 : ((Tryz.prog.stopKnobs == [])) = true := by kernel_rfl
theorem debugTraces_c9 : (((Rows.debugTracesRow).inPlace == Tryz.prog.inPlace 4)) = true := by kernel_rfl
theorem debugTraces_c10 : (((Rows.debugTracesRow).unfollowed == Tryz.prog.unfollowed 4)) = true := by kernel_rfl
theorem debugTraces_c11 : (((Rows.debugTracesRow).recurses == Tryz.prog.recurses 4)) = true := by kernel_rfl
theorem debugTraces_c12 : (((Rows.debugTracesRow).named == Tryz.prog.varsNamed 4)) = true := by kernel_rfl
theorem debugTraces_c13 : (((Rows.debugTracesRow).maps == (Tryz.f4.params.toList ++ (Rows.debugTracesSpec).plain.varTypes Tryz.prog).any (Tryz.prog.mapsRec ·))) = true := by kernel_rfl
theorem debugTraces_c14 : (((Rows.debugTracesRow).ifaces == (Tryz.f4.params.toList ++ (Rows.debugTracesSpec).plain.varTypes Tryz.prog).any (Tryz.prog.ifacesRec ·))) = true := by kernel_rfl
theorem debugTraces_c15 : (((Rows.debugTracesRow).mapsOut == Tryz.prog.mapsAmong Tryz.f4.resultTypes.toList)) = true := by kernel_rfl
theorem debugTraces_c16 : (((Rows.debugTracesRow).loops == (Tryz.f4.params.toList ++ (Rows.debugTracesSpec).plain.varTypes Tryz.prog).any (Tryz.prog.loopsFrom ·))) = true := by kernel_rfl
theorem debugTraces_c17 : (((Rows.debugTracesRow).wideKeys == (Tryz.f4.params.toList ++ (Rows.debugTracesSpec).plain.varTypes Tryz.prog ++ Tryz.f4.resultTypes.toList).any (Tryz.prog.wideKeysFrom ·))) = true := by kernel_rfl
theorem debugTraces_c18 : ((Rows.debugTracesSpec).vars.all (Tryz.prog.varReadable ·)) = true := by kernel_rfl
theorem debugTraces_c19 : (Tryz.f4.resultTypes.all (fun t => Tryz.prog.readableRec t && decide (t < Tryz.prog.types.size))) = true := by kernel_rfl
theorem debugTraces_c20 : (((Rows.debugTracesRow).ifacesOut == Tryz.f4.resultTypes.toList.any (Tryz.prog.ifacesRec ·))) = true := by kernel_rfl
theorem debugTraces_c21 : (((Rows.debugTracesRow).loopsOut == Tryz.f4.resultTypes.toList.any (Tryz.prog.loopsFrom ·))) = true := by kernel_rfl
theorem debugTraces_c22 : (((Rows.debugTracesRow).plainKeys == Tryz.prog.plainKeys)) = true := by kernel_rfl
theorem debugTraces_c23 : ((Rows.debugTracesRow).shortTexts.isNone) = true := by kernel_rfl
theorem debugTraces_c24 : (Tryz.prog.stopsHeard) = true := by kernel_rfl
theorem debugTraces_c25 : (Tryz.prog.mayEnter) = true := by kernel_rfl
theorem debugTraces_c26 : (((Rows.debugTracesRow).lifted == Tryz.prog.liftsFinal)) = true := by kernel_rfl
theorem debugTraces_c27 : ((Tryz.prog.make == some (Rows.debugTracesRow).make)) = true := by kernel_rfl
theorem debugTraces_c28 : (((Rows.debugTracesRow).kinds == (if (Rows.debugTracesRow).domain.isEmpty then [] else Tryz.f4.params.toList.map fun t => match Tryz.prog.underlying t with | some (.int k) => some k | _ => none))) = true := by kernel_rfl
theorem debugTraces_c29 : (((Rows.debugTracesRow).pinned == (Rows.debugTracesRow).pinnedBy)) = true := by kernel_rfl
theorem debugTraces_c30 : (((Rows.debugTracesRow).veiled == (Tryz.f4.params.toList ++ (Rows.debugTracesSpec).plain.varTypes Tryz.prog ++ Tryz.f4.resultTypes.toList).any (Tryz.prog.veiledRec ·))) = true := by kernel_rfl
theorem debugTraces_c31 : ((Rows.debugTracesRow).veiledFits Tryz.prog Tryz.f4.params.toList (Tryz.f4.params.toList ++ (Rows.debugTracesSpec).plain.varTypes Tryz.prog ++ Tryz.f4.resultTypes.toList)) = true := by kernel_rfl
theorem debugTraces_both {a b : Bool} (h : a = true) (k : b = true) : (a && b) = true := by rw [h, k]; rfl
theorem debugTraces_closed : joinedFacts Tryz.prog 4 Tryz.f4 Rows.debugTracesSpec Rows.debugTracesRow = true := by
  unfold joinedFacts
  exact debugTraces_both (debugTraces_both (debugTraces_both (debugTraces_both (debugTraces_both (debugTraces_both (debugTraces_both (debugTraces_both (debugTraces_both (debugTraces_both (debugTraces_both (debugTraces_both (debugTraces_both (debugTraces_both (debugTraces_both (debugTraces_both (debugTraces_both (debugTraces_both (debugTraces_both (debugTraces_both (debugTraces_both (debugTraces_both (debugTraces_both (debugTraces_both (debugTraces_both (debugTraces_both (debugTraces_both (debugTraces_both (debugTraces_both (debugTraces_both (debugTraces_both (debugTraces_c0) debugTraces_c1) debugTraces_c2) debugTraces_c3) debugTraces_c4) debugTraces_c5) debugTraces_c6) debugTraces_c7) debugTraces_c8) debugTraces_c9) debugTraces_c10) debugTraces_c11) debugTraces_c12) debugTraces_c13) debugTraces_c14) debugTraces_c15) debugTraces_c16) debugTraces_c17) debugTraces_c18) debugTraces_c19) debugTraces_c20) debugTraces_c21) debugTraces_c22) debugTraces_c23) debugTraces_c24) debugTraces_c25) debugTraces_c26) debugTraces_c27) debugTraces_c28) debugTraces_c29) debugTraces_c30) debugTraces_c31
end Go.Proofs.YtbhiaeciiphelaaGreatDoor
