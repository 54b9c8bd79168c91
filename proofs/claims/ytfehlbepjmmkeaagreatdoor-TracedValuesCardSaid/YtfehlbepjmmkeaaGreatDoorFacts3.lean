/-
  DERIVED. The closed facts of the row of TracedValues, each by itself. No condition.
-/
import Derived.Test.YtfehlbepjmmkeaaGreatDoorRows
import Derived.ProofKit
namespace Go.Proofs.YtfehlbepjmmkeaaGreatDoor
open Go.ChangeShapes Go.WideShapes Go.ChangeAt Go.RowKit
set_option maxRecDepth 100000
theorem tracedValues_c0 : ((Rows.tracedValuesRow).wf (OpenSpec.ofChange Rows.tracedValuesSpec)) = true := by kernel_rfl
theorem tracedValues_c1 : (laidOutB Tryz.prog) = true := by kernel_rfl
theorem tracedValues_c2 : (mapsRowed Tryz.prog) = true := by kernel_rfl
theorem tracedValues_c3 : (Tryz.f3.params.all (Tryz.prog.readableRec ·)) = true := by kernel_rfl
theorem tracedValues_c4 : (namedTie Tryz.prog (Rows.tracedValuesRow).named (Rows.tracedValuesSpec).vars) = true := by kernel_rfl
theorem tracedValues_c5 : (((Rows.tracedValuesRow).stops == [])) = true := by kernel_rfl
theorem tracedValues_c6 : ((Tryz.prog.stops == [])) = true := by kernel_rfl
theorem tracedValues_c7 : (((Rows.tracedValuesRow).knobs == [])) = true := by kernel_rfl
theorem tracedValues_c8 : ((Tryz.prog.stopKnobs == [])) = true := by kernel_rfl
theorem tracedValues_c9 : (((Rows.tracedValuesRow).inPlace == Tryz.prog.inPlace 3)) = true := by kernel_rfl
theorem tracedValues_c10 : (((Rows.tracedValuesRow).unfollowed == Tryz.prog.unfollowed 3)) = true := by kernel_rfl
theorem tracedValues_c11 : (((Rows.tracedValuesRow).recurses == Tryz.prog.recurses 3)) = true := by kernel_rfl
theorem tracedValues_c12 : (((Rows.tracedValuesRow).named == Tryz.prog.varsNamed 3)) = true := by kernel_rfl
theorem tracedValues_c13 : (((Rows.tracedValuesRow).maps == (Tryz.f3.params.toList ++ (Rows.tracedValuesSpec).plain.varTypes Tryz.prog).any (Tryz.prog.mapsRec ·))) = true := by kernel_rfl
theorem tracedValues_c14 : (((Rows.tracedValuesRow).ifaces == (Tryz.f3.params.toList ++ (Rows.tracedValuesSpec).plain.varTypes Tryz.prog).any (Tryz.prog.ifacesRec ·))) = true := by kernel_rfl
theorem tracedValues_c15 : (((Rows.tracedValuesRow).mapsOut == Tryz.prog.mapsAmong Tryz.f3.resultTypes.toList)) = true := by kernel_rfl
theorem tracedValues_c16 : (((Rows.tracedValuesRow).loops == (Tryz.f3.params.toList ++ (Rows.tracedValuesSpec).plain.varTypes Tryz.prog).any (Tryz.prog.loopsFrom ·))) = true := by kernel_rfl
theorem tracedValues_c17 : (((Rows.tracedValuesRow).wideKeys == (Tryz.f3.params.toList ++ (Rows.tracedValuesSpec).plain.varTypes Tryz.prog ++ Tryz.f3.resultTypes.toList).any (Tryz.prog.wideKeysFrom ·))) = true := by kernel_rfl
theorem tracedValues_c18 : ((Rows.tracedValuesSpec).vars.all (Tryz.prog.varReadable ·)) = true := by kernel_rfl
theorem tracedValues_c19 : (Tryz.f3.resultTypes.all (fun t => Tryz.prog.readableRec t && decide (t < Tryz.prog.types.size))) = true := by kernel_rfl
theorem tracedValues_c20 : (((Rows.tracedValuesRow).ifacesOut == Tryz.f3.resultTypes.toList.any (Tryz.prog.ifacesRec ·))) = true := by kernel_rfl
theorem tracedValues_c21 : (((Rows.tracedValuesRow).loopsOut == Tryz.f3.resultTypes.toList.any (Tryz.prog.loopsFrom ·))) = true := by kernel_rfl
theorem tracedValues_c22 : (((Rows.tracedValuesRow).plainKeys == Tryz.prog.plainKeys)) = true := by kernel_rfl
theorem tracedValues_c23 : ((Rows.tracedValuesRow).shortTexts.isNone) = true := by kernel_rfl
theorem tracedValues_c24 : (Tryz.prog.stopsHeard) = true := by kernel_rfl
theorem tracedValues_c25 : (Tryz.prog.mayEnter) = true := by kernel_rfl
theorem tracedValues_c26 : (((Rows.tracedValuesRow).lifted == Tryz.prog.liftsFinal)) = true := by kernel_rfl
theorem tracedValues_c27 : ((Tryz.prog.make == some (Rows.tracedValuesRow).make)) = true := by kernel_rfl
theorem tracedValues_c28 : (((Rows.tracedValuesRow).kinds == (if (Rows.tracedValuesRow).domain.isEmpty then [] else Tryz.f3.params.toList.map fun t => match Tryz.prog.underlying t with | some (.int k) => some k | _ => none))) = true := by kernel_rfl
theorem tracedValues_c29 : (((Rows.tracedValuesRow).pinned == (Rows.tracedValuesRow).pinnedBy)) = true := by kernel_rfl
theorem tracedValues_c30 : (((Rows.tracedValuesRow).veiled == (Tryz.f3.params.toList ++ (Rows.tracedValuesSpec).plain.varTypes Tryz.prog ++ Tryz.f3.resultTypes.toList).any (Tryz.prog.veiledRec ·))) = true := by kernel_rfl
theorem tracedValues_c31 : ((Rows.tracedValuesRow).veiledFits Tryz.prog Tryz.f3.params.toList (Tryz.f3.params.toList ++ (Rows.tracedValuesSpec).plain.varTypes Tryz.prog ++ Tryz.f3.resultTypes.toList)) = true := by kernel_rfl
theorem tracedValues_both {a b : Bool} (h : a = true) (k : b = true) : (a && b) = true := by rw [h, k]; rfl
theorem tracedValues_closed : joinedFacts Tryz.prog 3 Tryz.f3 Rows.tracedValuesSpec Rows.tracedValuesRow = true := by
  unfold joinedFacts
  exact tracedValues_both (tracedValues_both (tracedValues_both (tracedValues_both (tracedValues_both (tracedValues_both (tracedValues_both (tracedValues_both (tracedValues_both (tracedValues_both (tracedValues_both (tracedValues_both (tracedValues_both (tracedValues_both (tracedValues_both (tracedValues_both (tracedValues_both (tracedValues_both (tracedValues_both (tracedValues_both (tracedValues_both (tracedValues_both (tracedValues_both (tracedValues_both (tracedValues_both (tracedValues_both (tracedValues_both (tracedValues_both (tracedValues_both (tracedValues_both (tracedValues_both (tracedValues_c0) tracedValues_c1) tracedValues_c2) tracedValues_c3) tracedValues_c4) tracedValues_c5) tracedValues_c6) tracedValues_c7) tracedValues_c8) tracedValues_c9) tracedValues_c10) tracedValues_c11) tracedValues_c12) tracedValues_c13) tracedValues_c14) tracedValues_c15) tracedValues_c16) tracedValues_c17) tracedValues_c18) tracedValues_c19) tracedValues_c20) tracedValues_c21) tracedValues_c22) tracedValues_c23) tracedValues_c24) tracedValues_c25) tracedValues_c26) tracedValues_c27) tracedValues_c28) tracedValues_c29) tracedValues_c30) tracedValues_c31
end Go.Proofs.YtfehlbepjmmkeaaGreatDoor
