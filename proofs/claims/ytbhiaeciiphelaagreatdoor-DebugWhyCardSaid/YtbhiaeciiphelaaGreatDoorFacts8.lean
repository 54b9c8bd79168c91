/-
  DERIVED. The closed facts of the row of DebugWhy, each by itself. No condition.
-/
import Derived.Test.YtbhiaeciiphelaaGreatDoorRows
import Derived.ProofKit
namespace Go.Proofs.YtbhiaeciiphelaaGreatDoor
open Go.ChangeShapes Go.WideShapes Go.ChangeAt Go.RowKit
set_option maxRecDepth 100000
theorem debugWhy_c0 : ((Rows.debugWhyRow).wf (OpenSpec.ofChange Rows.debugWhySpec)) = true := by kernel_rfl
theorem debugWhy_c1 : (laidOutB Tryz.prog) = true := by kernel_rfl
theorem debugWhy_c2 : (mapsRowed Tryz.prog) = true := by kernel_rfl
theorem debugWhy_c3 : (Tryz.f8.params.all (Tryz.prog.readableRec ·)) = true := by kernel_rfl
theorem debugWhy_c4 : (namedTie Tryz.prog (Rows.debugWhyRow).named (Rows.debugWhySpec).vars) = true := by kernel_rfl
theorem debugWhy_c5 : (((Rows.debugWhyRow).stops == [])) = true := by kernel_rfl
theorem debugWhy_c6 : ((Tryz.prog.stops == [])) = true := by kernel_rfl
theorem debugWhy_c7 : (((Rows.debugWhyRow).knobs == [])) = true := by kernel_rfl
theorem debugWhy_c8 : ((Tryz.prog.stopKnobs == [])) = true := by kernel_rfl
theorem debugWhy_c9 : (((Rows.debugWhyRow).inPlace == Tryz.prog.inPlace 8)) = true := by kernel_rfl
theorem debugWhy_c10 : (((Rows.debugWhyRow).unfollowed == Tryz.prog.unfollowed 8)) = true := by kernel_rfl
theorem debugWhy_c11 : (((Rows.debugWhyRow).recurses == Tryz.prog.recurses 8)) = true := by kernel_rfl
theorem debugWhy_c12 : (((Rows.debugWhyRow).named == Tryz.prog.varsNamed 8)) = true := by kernel_rfl
theorem debugWhy_c13 : (((Rows.debugWhyRow).maps == (Tryz.f8.params.toList ++ (Rows.debugWhySpec).plain.varTypes Tryz.prog).any (Tryz.prog.mapsRec ·))) = true := by kernel_rfl
theorem debugWhy_c14 : (((Rows.debugWhyRow).ifaces == (Tryz.f8.params.toList ++ (Rows.debugWhySpec).plain.varTypes Tryz.prog).any (Tryz.prog.ifacesRec ·))) = true := by kernel_rfl
theorem debugWhy_c15 : (((Rows.debugWhyRow).mapsOut == Tryz.prog.mapsAmong Tryz.f8.resultTypes.toList)) = true := by kernel_rfl
theorem debugWhy_c16 : (((Rows.debugWhyRow).loops == (Tryz.f8.params.toList ++ (Rows.debugWhySpec).plain.varTypes Tryz.prog).any (Tryz.prog.loopsFrom ·))) = true := by kernel_rfl
theorem debugWhy_c17 : (((Rows.debugWhyRow).wideKeys == (Tryz.f8.params.toList ++ (Rows.debugWhySpec).plain.varTypes Tryz.prog ++ Tryz.f8.resultTypes.toList).any (Tryz.prog.wideKeysFrom ·))) = true := by kernel_rfl
theorem debugWhy_c18 : ((Rows.debugWhySpec).vars.all (Tryz.prog.varReadable ·)) = true := by kernel_rfl
theorem debugWhy_c19 : (Tryz.f8.resultTypes.all (fun t => Tryz.prog.readableRec t && decide (t < Tryz.prog.types.size))) = true := by kernel_rfl
theorem debugWhy_c20 : (((Rows.debugWhyRow).ifacesOut == Tryz.f8.resultTypes.toList.any (Tryz.prog.ifacesRec ·))) = true := by kernel_rfl
theorem debugWhy_c21 : (((Rows.debugWhyRow).loopsOut == Tryz.f8.resultTypes.toList.any (Tryz.prog.loopsFrom ·))) = true := by kernel_rfl
theorem debugWhy_c22 : (((Rows.debugWhyRow).plainKeys == Tryz.prog.plainKeys)) = true := by kernel_rfl
theorem debugWhy_c23 : ((Rows.debugWhyRow).shortTexts.isNone) = true := by kernel_rfl
theorem debugWhy_c24 : (Tryz.prog.stopsHeard) = true := by kernel_rfl
theorem debugWhy_c25 : (Tryz.prog.mayEnter) = true := by kernel_rfl
theorem debugWhy_c26 : (((Rows.debugWhyRow).lifted == Tryz.prog.liftsFinal)) = true := by kernel_rfl
theorem debugWhy_c27 : ((Tryz.prog.make == some (Rows.debugWhyRow).make)) = true := by kernel_rfl
theorem debugWhy_c28 : (((Rows.debugWhyRow).kinds == (if (Rows.debugWhyRow).domain.isEmpty then [] else Tryz.f8.params.toList.map fun t => match Tryz.prog.underlying t with | some (.int k) => some k | _ => none))) = true := by kernel_rfl
theorem debugWhy_c29 : (((Rows.debugWhyRow).pinned == (Rows.debugWhyRow).pinnedBy)) = true := by kernel_rfl
theorem debugWhy_c30 : (((Rows.debugWhyRow).veiled == (Tryz.f8.params.toList ++ (Rows.debugWhySpec).plain.varTypes Tryz.prog ++ Tryz.f8.resultTypes.toList).any (Tryz.prog.veiledRec ·))) = true := by kernel_rfl
theorem debugWhy_c31 : ((Rows.debugWhyRow).veiledFits Tryz.prog Tryz.f8.params.toList (Tryz.f8.params.toList ++ (Rows.debugWhySpec).plain.varTypes Tryz.prog ++ Tryz.f8.resultTypes.toList)) = true := by kernel_rfl
theorem debugWhy_both {a b : Bool} (h : a = true) (k : b = true) : (a && b) = true := by rw [h, k]; rfl
theorem debugWhy_closed : joinedFacts Tryz.prog 8 Tryz.f8 Rows.debugWhySpec Rows.debugWhyRow = true := by
  unfold joinedFacts
  exact debugWhy_both (debugWhy_both (debugWhy_both (debugWhy_both (debugWhy_both (debugWhy_both (debugWhy_both (debugWhy_both (debugWhy_both (debugWhy_both (debugWhy_both (debugWhy_both (debugWhy_both (debugWhy_both (debugWhy_both (debugWhy_both (debugWhy_both (debugWhy_both (debugWhy_both (debugWhy_both (debugWhy_both (debugWhy_both (debugWhy_both (debugWhy_both (debugWhy_both (debugWhy_both (debugWhy_both (debugWhy_both (debugWhy_both (debugWhy_both (debugWhy_both (debugWhy_c0) debugWhy_c1) debugWhy_c2) debugWhy_c3) debugWhy_c4) debugWhy_c5) debugWhy_c6) debugWhy_c7) debugWhy_c8) debugWhy_c9) debugWhy_c10) debugWhy_c11) debugWhy_c12) debugWhy_c13) debugWhy_c14) debugWhy_c15) debugWhy_c16) debugWhy_c17) debugWhy_c18) debugWhy_c19) debugWhy_c20) debugWhy_c21) debugWhy_c22) debugWhy_c23) debugWhy_c24) debugWhy_c25) debugWhy_c26) debugWhy_c27) debugWhy_c28) debugWhy_c29) debugWhy_c30) debugWhy_c31
end Go.Proofs.YtbhiaeciiphelaaGreatDoor
