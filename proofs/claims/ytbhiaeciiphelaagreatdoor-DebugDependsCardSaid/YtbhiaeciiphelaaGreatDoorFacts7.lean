/-
  DERIVED. The closed facts of the row of DebugDepends, each by itself. No condition.
-/
import Derived.Test.YtbhiaeciiphelaaGreatDoorRows
import Derived.ProofKit
namespace Go.Proofs.YtbhiaeciiphelaaGreatDoor
open Go.ChangeShapes Go.WideShapes Go.ChangeAt Go.RowKit
set_option maxRecDepth 100000
theorem debugDepends_c0 : ((Rows.debugDependsRow).wf (OpenSpec.ofChange Rows.debugDependsSpec)) = true := by kernel_rfl
theorem debugDepends_c1 : (laidOutB Tryz.prog) = true := by kernel_rfl
theorem debugDepends_c2 : (mapsRowed Tryz.prog) = true := by kernel_rfl
theorem debugDepends_c3 : (Tryz.f7.params.all (Tryz.prog.readableRec ·)) = true := by kernel_rfl
theorem debugDepends_c4 : (namedTie Tryz.prog (Rows.debugDependsRow).named (Rows.debugDependsSpec).vars) = true := by kernel_rfl
theorem debugDepends_c5 : (((Rows.debugDependsRow).stops == [])) = true := by kernel_rfl
theorem debugDepends_c6 : ((Tryz.prog.stops == [])) = true := by kernel_rfl
theorem debugDepends_c7 : (((Rows.debugDependsRow).knobs == [])) = true := by kernel_rfl
theorem debugDepends_c8 : ((Tryz.prog.stopKnobs == [])) = true := by kernel_rfl
theorem debugDepends_c9 : (((Rows.debugDependsRow).inPlace == Tryz.prog.inPlace 7)) = true := by kernel_rfl
theorem debugDepends_c10 : (((Rows.debugDependsRow).unfollowed == Tryz.prog.unfollowed 7)) = true := by kernel_rfl
theorem debugDepends_c11 : (((Rows.debugDependsRow).recurses == Tryz.prog.recurses 7)) = true := by kernel_rfl
theorem debugDepends_c12 : (((Rows.debugDependsRow).named == Tryz.prog.varsNamed 7)) = true := by kernel_rfl
theorem debugDepends_c13 : (((Rows.debugDependsRow).maps == (Tryz.f7.params.toList ++ (Rows.debugDependsSpec).plain.varTypes Tryz.prog).any (Tryz.prog.mapsRec ·))) = true := by kernel_rfl
theorem debugDepends_c14 : (((Rows.debugDependsRow).ifaces == (Tryz.f7.params.toList ++ (Rows.debugDependsSpec).plain.varTypes Tryz.prog).any (Tryz.prog.ifacesRec ·))) = true := by kernel_rfl
theorem debugDepends_c15 : (((Rows.debugDependsRow).mapsOut == Tryz.prog.mapsAmong Tryz.f7.resultTypes.toList)) = true := by kernel_rfl
theorem debugDepends_c16 : (((Rows.debugDependsRow).loops == (Tryz.f7.params.toList ++ (Rows.debugDependsSpec).plain.varTypes Tryz.prog).any (Tryz.prog.loopsFrom ·))) = true := by kernel_rfl
theorem debugDepends_c17 : (((Rows.debugDependsRow).wideKeys == (Tryz.f7.params.toList ++ (Rows.debugDependsSpec).plain.varTypes Tryz.prog ++ Tryz.f7.resultTypes.toList).any (Tryz.prog.wideKeysFrom ·))) = true := by kernel_rfl
theorem debugDepends_c18 : ((Rows.debugDependsSpec).vars.all (Tryz.prog.varReadable ·)) = true := by kernel_rfl
theorem debugDepends_c19 : (Tryz.f7.resultTypes.all (fun t => Tryz.prog.readableRec t && decide (t < Tryz.prog.types.size))) = true := by kernel_rfl
theorem debugDepends_c20 : (((Rows.debugDependsRow).ifacesOut == Tryz.f7.resultTypes.toList.any (Tryz.prog.ifacesRec ·))) = true := by kernel_rfl
theorem debugDepends_c21 : (((Rows.debugDependsRow).loopsOut == Tryz.f7.resultTypes.toList.any (Tryz.prog.loopsFrom ·))) = true := by kernel_rfl
theorem debugDepends_c22 : (((Rows.debugDependsRow).plainKeys == Tryz.prog.plainKeys)) = true := by kernel_rfl
theorem debugDepends_c23 : ((Rows.debugDependsRow).shortTexts.isNone) = true := by kernel_rfl
theorem debugDepends_c24 : (Tryz.prog.stopsHeard) = true := by kernel_rfl
theorem debugDepends_c25 : (Tryz.prog.mayEnter) = true := by kernel_rfl
theorem debugDepends_c26 : (((Rows.debugDependsRow).lifted == Tryz.prog.liftsFinal)) = true := by kernel_rfl
theorem debugDepends_c27 : ((Tryz.prog.make == some (Rows.debugDependsRow).make)) = true := by kernel_rfl
theorem debugDepends_c28 : (((Rows.debugDependsRow).kinds == (if (Rows.debugDependsRow).domain.isEmpty then [] else Tryz.f7.params.toList.map fun t => match Tryz.prog.underlying t with | some (.int k) => some k | _ => none))) = true := by kernel_rfl
theorem debugDepends_c29 : (((Rows.debugDependsRow).pinned == (Rows.debugDependsRow).pinnedBy)) = true := by kernel_rfl
theorem debugDepends_c30 : (((Rows.debugDependsRow).veiled == (Tryz.f7.params.toList ++ (Rows.debugDependsSpec).plain.varTypes Tryz.prog ++ Tryz.f7.resultTypes.toList).any (Tryz.prog.veiledRec ·))) = true := by kernel_rfl
theorem debugDepends_c31 : ((Rows.debugDependsRow).veiledFits Tryz.prog Tryz.f7.params.toList (Tryz.f7.params.toList ++ (Rows.debugDependsSpec).plain.varTypes Tryz.prog ++ Tryz.f7.resultTypes.toList)) = true := by kernel_rfl
theorem debugDepends_both {a b : Bool} (h : a = true) (k : b = true) : (a && b) = true := by rw [h, k]; rfl
theorem debugDepends_closed : joinedFacts Tryz.prog 7 Tryz.f7 Rows.debugDependsSpec Rows.debugDependsRow = true := by
  unfold joinedFacts
  exact debugDepends_both (debugDepends_both (debugDepends_both (debugDepends_both (debugDepends_both (debugDepends_both (debugDepends_both (debugDepends_both (debugDepends_both (debugDepends_both (debugDepends_both (debugDepends_both (debugDepends_both (debugDepends_both (debugDepends_both (debugDepends_both (debugDepends_both (debugDepends_both (debugDepends_both (debugDepends_both (debugDepends_both (debugDepends_both (debugDepends_both (debugDepends_both (debugDepends_both (debugDepends_both (debugDepends_both (debugDepends_both (debugDepends_both (debugDepends_both (debugDepends_both (debugDepends_c0) debugDepends_c1) debugDepends_c2) debugDepends_c3) debugDepends_c4) debugDepends_c5) debugDepends_c6) debugDepends_c7) debugDepends_c8) debugDepends_c9) debugDepends_c10) debugDepends_c11) debugDepends_c12) debugDepends_c13) debugDepends_c14) debugDepends_c15) debugDepends_c16) debugDepends_c17) debugDepends_c18) debugDepends_c19) debugDepends_c20) debugDepends_c21) debugDepends_c22) debugDepends_c23) debugDepends_c24) debugDepends_c25) debugDepends_c26) debugDepends_c27) debugDepends_c28) debugDepends_c29) debugDepends_c30) debugDepends_c31
end Go.Proofs.YtbhiaeciiphelaaGreatDoor
