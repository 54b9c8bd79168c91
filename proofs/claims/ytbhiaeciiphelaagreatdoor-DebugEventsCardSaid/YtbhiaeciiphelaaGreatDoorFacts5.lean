/-
  DERIVED. The closed facts of the row of DebugEvents, each by itself. No condition.
-/
import Derived.Test.YtbhiaeciiphelaaGreatDoorRows
import Derived.ProofKit
namespace Go.Proofs.YtbhiaeciiphelaaGreatDoor
open Go.ChangeShapes Go.WideShapes Go.ChangeAt Go.RowKit
set_option maxRecDepth 100000
theorem debugEvents_c0 : ((Rows.debugEventsRow).wf (OpenSpec.ofChange Rows.debugEventsSpec)) = true := by kernel_rfl
theorem debugEvents_c1 : (laidOutB Tryz.prog) = true := by kernel_rfl
theorem debugEvents_c2 : (mapsRowed Tryz.prog) = true := by kernel_rfl
theorem debugEvents_c3 : (Tryz.f5.params.all (Tryz.prog.readableRec ·)) = true := by kernel_rfl
theorem debugEvents_c4 : (namedTie Tryz.prog (Rows.debugEventsRow).named (Rows.debugEventsSpec).vars) = true := by kernel_rfl
theorem debugEvents_c5 : (((Rows.debugEventsRow).stops == [])) = true := by kernel_rfl
theorem debugEvents_c6 : ((Tryz.prog.stops == [])) = true := by kernel_rfl
theorem debugEvents_c7 : (((Rows.debugEventsRow).knobs == [])) = true := by kernel_rfl
theorem debugEvents_c8 : ((Tryz.prog.stopKnobs == [])) = true := by kernel_rfl
theorem debugEvents_c9 : (((Rows.debugEventsRow).inPlace == Tryz.prog.inPlace 5)) = true := by kernel_rfl
theorem debugEvents_c10 : (((Rows.debugEventsRow).unfollowed == Tryz.prog.unfollowed 5)) = true := by kernel_rfl
theorem debugEvents_c11 : (((Rows.debugEventsRow).recurses == Tryz.prog.recurses 5)) = true := by kernel_rfl
theorem debugEvents_c12 : (((Rows.debugEventsRow).named == Tryz.prog.varsNamed 5)) = true := by kernel_rfl
theorem debugEvents_c13 : (((Rows.debugEventsRow).maps == (Tryz.f5.params.toList ++ (Rows.debugEventsSpec).plain.varTypes Tryz.prog).any (Tryz.prog.mapsRec ·))) = true := by kernel_rfl
theorem debugEvents_c14 : (((Rows.debugEventsRow).ifaces == (Tryz.f5.params.toList ++ (Rows.debugEventsSpec).plain.varTypes Tryz.prog).any (Tryz.prog.ifacesRec ·))) = true := by kernel_rfl
theorem debugEvents_c15 : (((Rows.debugEventsRow).mapsOut == Tryz.prog.mapsAmong Tryz.f5.resultTypes.toList)) = true := by kernel_rfl
theorem debugEvents_c16 : (((Rows.debugEventsRow).loops == (Tryz.f5.params.toList ++ (Rows.debugEventsSpec).plain.varTypes Tryz.prog).any (Tryz.prog.loopsFrom ·))) = true := by kernel_rfl
theorem debugEvents_c17 : (((Rows.debugEventsRow).wideKeys == (Tryz.f5.params.toList ++ (Rows.debugEventsSpec).plain.varTypes Tryz.prog ++ Tryz.f5.resultTypes.toList).any (Tryz.prog.wideKeysFrom ·))) = true := by kernel_rfl
theorem debugEvents_c18 : ((Rows.debugEventsSpec).vars.all (Tryz.prog.varReadable ·)) = true := by kernel_rfl
theorem debugEvents_c19 : (Tryz.f5.resultTypes.all (fun t => Tryz.prog.readableRec t && decide (t < Tryz.prog.types.size))) = true := by kernel_rfl
theorem debugEvents_c20 : (((Rows.debugEventsRow).ifacesOut == Tryz.f5.resultTypes.toList.any (Tryz.prog.ifacesRec ·))) = true := by kernel_rfl
theorem debugEvents_c21 : (((Rows.debugEventsRow).loopsOut == Tryz.f5.resultTypes.toList.any (Tryz.prog.loopsFrom ·))) = true := by kernel_rfl
theorem debugEvents_c22 : (((Rows.debugEventsRow).plainKeys == Tryz.prog.plainKeys)) = true := by kernel_rfl
theorem debugEvents_c23 : ((Rows.debugEventsRow).shortTexts.isNone) = true := by kernel_rfl
theorem debugEvents_c24 : (Tryz.prog.stopsHeard) = true := by kernel_rfl
theorem debugEvents_c25 : (Tryz.prog.mayEnter) = true := by kernel_rfl
theorem debugEvents_c26 : (((Rows.debugEventsRow).lifted == Tryz.prog.liftsFinal)) = true := by kernel_rfl
theorem debugEvents_c27 : ((Tryz.prog.make == some (Rows.debugEventsRow).make)) = true := by kernel_rfl
theorem debugEvents_c28 : (((Rows.debugEventsRow).kinds == (if (Rows.debugEventsRow).domain.isEmpty then [] else Tryz.f5.params.toList.map fun t => match Tryz.prog.underlying t with | some (.int k) => some k | _ => none))) = true := by kernel_rfl
theorem debugEvents_c29 : (((Rows.debugEventsRow).pinned == (Rows.debugEventsRow).pinnedBy)) = true := by kernel_rfl
theorem debugEvents_c30 : (((Rows.debugEventsRow).veiled == (Tryz.f5.params.toList ++ (Rows.debugEventsSpec).plain.varTypes Tryz.prog ++ Tryz.f5.resultTypes.toList).any (Tryz.prog.veiledRec ·))) = true := by kernel_rfl
theorem debugEvents_c31 : ((Rows.debugEventsRow).veiledFits Tryz.prog Tryz.f5.params.toList (Tryz.f5.params.toList ++ (Rows.debugEventsSpec).plain.varTypes Tryz.prog ++ Tryz.f5.resultTypes.toList)) = true := by kernel_rfl
theorem debugEvents_both {a b : Bool} (h : a = true) (k : b = true) : (a && b) = true := by rw [h, k]; rfl
theorem debugEvents_closed : joinedFacts Tryz.prog 5 Tryz.f5 Rows.debugEventsSpec Rows.debugEventsRow = true := by
  unfold joinedFacts
  exact debugEvents_both (debugEvents_both (debugEvents_both (debugEvents_both (debugEvents_both (debugEvents_both (debugEvents_both (debugEvents_both (debugEvents_both (debugEvents_both (debugEvents_both (debugEvents_both (debugEvents_both (debugEvents_both (debugEvents_both (debugEvents_both (debugEvents_both (debugEvents_both (debugEvents_both (debugEvents_both (debugEvents_both (debugEvents_both (debugEvents_both (debugEvents_both (debugEvents_both (debugEvents_both (debugEvents_both (debugEvents_both (debugEvents_both (debugEvents_both (debugEvents_both (debugEvents_c0) debugEvents_c1) debugEvents_c2) debugEvents_c3) debugEvents_c4) debugEvents_c5) debugEvents_c6) debugEvents_c7) debugEvents_c8) debugEvents_c9) debugEvents_c10) debugEvents_c11) debugEvents_c12) debugEvents_c13) debugEvents_c14) debugEvents_c15) debugEvents_c16) debugEvents_c17) debugEvents_c18) debugEvents_c19) debugEvents_c20) debugEvents_c21) debugEvents_c22) debugEvents_c23) debugEvents_c24) debugEvents_c25) debugEvents_c26) debugEvents_c27) debugEvents_c28) debugEvents_c29) debugEvents_c30) debugEvents_c31
end Go.Proofs.YtbhiaeciiphelaaGreatDoor
