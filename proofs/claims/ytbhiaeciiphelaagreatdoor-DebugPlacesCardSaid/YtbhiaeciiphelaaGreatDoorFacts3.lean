/-
  DERIVED. The closed facts of the row of DebugPlaces, each by itself. No condition.
-/
import Derived.Test.YtbhiaeciiphelaaGreatDoorRows
import Derived.ProofKit
namespace Go.Proofs.YtbhiaeciiphelaaGreatDoor
open Go.ChangeShapes Go.WideShapes Go.ChangeAt Go.RowKit
set_option maxRecDepth 100000
theorem debugPlaces_c0 : ((Rows.debugPlacesRow).wf (OpenSpec.ofChange Rows.debugPlacesSpec)) = true := by kernel_rfl
theorem debugPlaces_c1 : (laidOutB Tryz.prog) = true := by kernel_rfl
theorem debugPlaces_c2 : (mapsRowed Tryz.prog) = true := by kernel_rfl
theorem debugPlaces_c3 : (Tryz.f3.params.all (Tryz.prog.readableRec ·)) = true := by kernel_rfl
theorem debugPlaces_c4 : (namedTie Tryz.prog (Rows.debugPlacesRow).named (Rows.debugPlacesSpec).vars) = true := by kernel_rfl
theorem debugPlaces_c5 : (((Rows.debugPlacesRow).stops == [])) = true := by kernel_rfl
theorem debugPlaces_c6 : ((Tryz.prog.stops == [])) = true := by kernel_rfl
theorem debugPlaces_c7 : (((Rows.debugPlacesRow).knobs == [])) = true := by kernel_rfl
theorem debugPlaces_c8 : ((Tryz.prog.stopKnobs == [])) = true := by kernel_rfl
theorem debugPlaces_c9 : (((Rows.debugPlacesRow).inPlace == Tryz.prog.inPlace 3)) = true := by kernel_rfl
theorem debugPlaces_c10 : (((Rows.debugPlacesRow).unfollowed == Tryz.prog.unfollowed 3)) = true := by kernel_rfl
theorem debugPlaces_c11 : (((Rows.debugPlacesRow).recurses == Tryz.prog.recurses 3)) = true := by kernel_rfl
theorem debugPlaces_c12 : (((Rows.debugPlacesRow).named == Tryz.prog.varsNamed 3)) = true := by kernel_rfl
theorem debugPlaces_c13 : (((Rows.debugPlacesRow).maps == (Tryz.f3.params.toList ++ (Rows.debugPlacesSpec).plain.varTypes Tryz.prog).any (Tryz.prog.mapsRec ·))) = true := by kernel_rfl
theorem debugPlaces_c14 : (((Rows.debugPlacesRow).ifaces == (Tryz.f3.params.toList ++ (Rows.debugPlacesSpec).plain.varTypes Tryz.prog).any (Tryz.prog.ifacesRec ·))) = true := by kernel_rfl
theorem debugPlaces_c15 : (((Rows.debugPlacesRow).mapsOut == Tryz.prog.mapsAmong Tryz.f3.resultTypes.toList)) = true := by kernel_rfl
theorem debugPlaces_c16 : (((Rows.debugPlacesRow).loops == (Tryz.f3.params.toList ++ (Rows.debugPlacesSpec).plain.varTypes Tryz.prog).any (Tryz.prog.loopsFrom ·))) = true := by kernel_rfl
theorem debugPlaces_c17 : (((Rows.debugPlacesRow).wideKeys == (Tryz.f3.params.toList ++ (Rows.debugPlacesSpec).plain.varTypes Tryz.prog ++ Tryz.f3.resultTypes.toList).any (Tryz.prog.wideKeysFrom ·))) = true := by kernel_rfl
theorem debugPlaces_c18 : ((Rows.debugPlacesSpec).vars.all (Tryz.prog.varReadable ·)) = true := by kernel_rfl
theorem debugPlaces_c19 : (Tryz.f3.resultTypes.all (fun t => Tryz.prog.readableRec t && decide (t < Tryz.prog.types.size))) = true := by kernel_rfl
theorem debugPlaces_c20 : (((Rows.debugPlacesRow).ifacesOut == Tryz.f3.resultTypes.toList.any (Tryz.prog.ifacesRec ·))) = true := by kernel_rfl
theorem debugPlaces_c21 : (((Rows.debugPlacesRow).loopsOut == Tryz.f3.resultTypes.toList.any (Tryz.prog.loopsFrom ·))) = true := by kernel_rfl
theorem debugPlaces_c22 : (((Rows.debugPlacesRow).plainKeys == Tryz.prog.plainKeys)) = true := by kernel_rfl
theorem debugPlaces_c23 : ((Rows.debugPlacesRow).shortTexts.isNone) = true := by kernel_rfl
theorem debugPlaces_c24 : (Tryz.prog.stopsHeard) = true := by kernel_rfl
theorem debugPlaces_c25 : (Tryz.prog.mayEnter) = true := by kernel_rfl
theorem debugPlaces_c26 : (((Rows.debugPlacesRow).lifted == Tryz.prog.liftsFinal)) = true := by kernel_rfl
theorem debugPlaces_c27 : ((Tryz.prog.make == some (Rows.debugPlacesRow).make)) = true := by kernel_rfl
theorem debugPlaces_c28 : (((Rows.debugPlacesRow).kinds == (if (Rows.debugPlacesRow).domain.isEmpty then [] else Tryz.f3.params.toList.map fun t => match Tryz.prog.underlying t with | some (.int k) => some k | _ => none))) = true := by kernel_rfl
theorem debugPlaces_c29 : (((Rows.debugPlacesRow).pinned == (Rows.debugPlacesRow).pinnedBy)) = true := by kernel_rfl
theorem debugPlaces_c30 : (((Rows.debugPlacesRow).veiled == (Tryz.f3.params.toList ++ (Rows.debugPlacesSpec).plain.varTypes Tryz.prog ++ Tryz.f3.resultTypes.toList).any (Tryz.prog.veiledRec ·))) = true := by kernel_rfl
theorem debugPlaces_c31 : ((Rows.debugPlacesRow).veiledFits Tryz.prog Tryz.f3.params.toList (Tryz.f3.params.toList ++ (Rows.debugPlacesSpec).plain.varTypes Tryz.prog ++ Tryz.f3.resultTypes.toList)) = true := by kernel_rfl
theorem debugPlaces_both {a b : Bool} (h : a = true) (k : b = true) : (a && b) = true := by rw [h, k]; rfl
theorem debugPlaces_closed : joinedFacts Tryz.prog 3 Tryz.f3 Rows.debugPlacesSpec Rows.debugPlacesRow = true := by
  unfold joinedFacts
  exact debugPlaces_both (debugPlaces_both (debugPlaces_both (debugPlaces_both (debugPlaces_both (debugPlaces_both (debugPlaces_both (debugPlaces_both (debugPlaces_both (debugPlaces_both (debugPlaces_both (debugPlaces_both (debugPlaces_both (debugPlaces_both (debugPlaces_both (debugPlaces_both (debugPlaces_both (debugPlaces_both (debugPlaces_both (debugPlaces_both (debugPlaces_both (debugPlaces_both (debugPlaces_both (debugPlaces_both (debugPlaces_both (debugPlaces_both (debugPlaces_both (debugPlaces_both (debugPlaces_both (debugPlaces_both (debugPlaces_both (debugPlaces_c0) debugPlaces_c1) debugPlaces_c2) debugPlaces_c3) debugPlaces_c4) debugPlaces_c5) debugPlaces_c6) debugPlaces_c7) debugPlaces_c8) debugPlaces_c9) debugPlaces_c10) debugPlaces_c11) debugPlaces_c12) debugPlaces_c13) debugPlaces_c14) debugPlaces_c15) debugPlaces_c16) debugPlaces_c17) debugPlaces_c18) debugPlaces_c19) debugPlaces_c20) debugPlaces_c21) debugPlaces_c22) debugPlaces_c23) debugPlaces_c24) debugPlaces_c25) debugPlaces_c26) debugPlaces_c27) debugPlaces_c28) debugPlaces_c29) debugPlaces_c30) debugPlaces_c31
end Go.Proofs.YtbhiaeciiphelaaGreatDoor
