/-
  DERIVED. DebugEvents, as the row states it. No condition.
-/
import Derived.Test.YtbhiaeciiphelaaGreatDoorEnK
import Derived.Test.YtbhiaeciiphelaaGreatDoorEnO
import Derived.Test.YtbhiaeciiphelaaGreatDoorSane
import Derived.Test.YtbhiaeciiphelaaGreatDoorTie
import Derived.SevenTiedAt
import Derived.Test.YtbhiaeciiphelaaGreatDoorFacts5
import Derived.Test.YtbhiaeciiphelaaGreatDoorCards
namespace Go.Proofs.YtbhiaeciiphelaaGreatDoor
open Go.ChangeShapes Go.WideShapes Go.ChangeAt Go.RowKit
theorem sane_of {w : World} {b : Nat} {o : Nat} (h : w.heap[1]? = some (.cells #[.iface 343 (.pointer (some ⟨b, o, none⟩))] 307 (0, 0))) :
    Calls Tryz.prog 9 #[] w fun e w' => e = .returned (.bool true) ∧ Keeps w w' :=
  (Ex.sane_calls h).mono (fun _ _ h => ⟨h.1, h.2.1, h.2.2.1, h.2.2.2.1, h.2.2.2.2.1, fun k hk _ => h.2.2.2.2.2 k hk⟩)
section
set_option maxRecDepth 100000
theorem witness_events (os : Os) (H : Type) (enc : TypeId × Value → H) :
    ∃ (w : World) (tape : Tape) (i : Input), w.os = os ∧ (w.forCall tape i).Shaped Tryz.prog ∧ i.vars = [] ∧ Input.okWide Tryz.prog (w.forCall tape i) .any w.heap.size 5 i ∧
      ((Rows.debugEventsSpec.pre enc Tryz.prog Tryz.f5 [] false (w.forCall tape i).memory i.args ∧ laidMetH Tryz.prog Rows.debugEventsRow.laid (w.forCall tape i).memory) ∧ sizedMet enc Tryz.prog Tryz.f5 (OpenSpec.ofChange Rows.debugEventsSpec) false (w.forCall tape i).memory i.args) ∧ (({} : Assume)).holds Tryz.prog (lone (Frame.enter Tryz.prog 5 i.args .normal) [] (w.forCall tape i)) :=
    (ChangeSpec.witness_shaped (enc := enc) (C := Tryz.checked) (os := os) (X := fun w _ => laidMetH Tryz.prog Rows.debugEventsRow.laid w) false (World.laidAll Tryz.prog os Rows.debugEventsRow.laid) #[.agg #[.slice none 0 0, .slice none 0 0, .slice none 0 0, .slice none 0 0, .int .i64 0]] 5 (World.laidAll_os _ _ _)
      (World.shaped_of_ZipB (by kernel_rfl) (by kernel_rfl)) (by kernel_rfl) (by kernel_rfl) (by kernel_rfl)
      (by rw [MakeChecks.laidMetH_plain _ _ _ (by kernel_rfl)]; exact laidMet_laidAll _ (by kernel_rfl) (by kernel_rfl)))
end
set_option maxRecDepth 100000 in
theorem eventsC_lifted (os : Os) (started : os.Started) (H : Type) (enc : TypeId × Value → H) :
    ReturnsInHanded {} Tryz.checked os 5 .any (fun w args => (Rows.debugEventsSpec.pre enc Tryz.prog Tryz.f5 [] false w args ∧ laidMetH Tryz.prog Rows.debugEventsRow.laid w) ∧ sizedMet enc Tryz.prog Tryz.f5 (OpenSpec.ofChange Rows.debugEventsSpec) false w args)
      (Rows.debugEventsSpec.post enc Tryz.prog Tryz.f5 false true false false) := by
  refine returnsInHanded_shaped (C := Tryz.checked) (X := fun w _ => laidMetH Tryz.prog Rows.debugEventsRow.laid w) (fun _ _ _ hh h => h.of_heap hh) own started (by kernel_rfl) Tryz.func5
    (witness_events os H enc) ?_
  intro W base args ds gs before hsh hval0 hW _ hsz0 hL _
  have hval : ∀ (j : Nat) t v, Tryz.f5.params[j]? = some t → args[j]? = some v → Value.okWide Tryz.prog W .any base t v := hval0
  have hsz : (DataW.weightsEach Tryz.prog (Tryz.f5.params.toList ++ Rows.debugEventsSpec.plain.varTypes Tryz.prog) (ds ++ gs)).all (· ≤ reachBytes) = true := hsz0
  have hW' := hW
  obtain ⟨b, o, hcell⟩ := err_cell hsh hL
  obtain ⟨p, q, hA0, hV, rfl, hfz, hnd⟩ := hW
  have hA : DataW.TrodAll enc Tryz.prog W 0 (fun _ => true) true Tryz.f5.params.toList args.toList ds p := hA0
  rw [Tryz.params5] at hA hval hsz
  obtain ⟨v0, d0, rfl, rfl, h0⟩ := trodAll_one hA
  obtain ⟨rfl, rfl⟩ := trodVars_none hV
  have hlt0 : ∀ x ∈ p, x.block < W.heap.size := fun x hx => by simpa using hW'.lt x (by simp [hx])
  have hfit : Fits 51 d0 := fun n hn => of_decide_eq_true (List.all_eq_true.1 hsz n (DataW.weights_mem_each (j := 0) (t := 51) (d := d0) rfl rfl n hn))
  obtain ⟨e, d, s, l, rfl, hnp⟩ := state_open (hval 0 51 v0 rfl rfl) h0 hfit
  clear hA0 hval0 hsz0
  simp only [List.append_nil] at hW'
  refine (eventsLaw_of e d (fun W' hk => sane_of (hk.at hcell (fun x => x))) (fun _ => False) s l hnp).mono fun e W' ⟨he, hk⟩ => ?_
  subst he
  have hb : Below W.heap.size W W' := hk.below (Nat.le_refl _) (fun _ h => h.elim)
  have harg0 : DataW.Trod enc Tryz.prog W' 0 (fun b => decide (b < W.heap.size)) true 51 _ _ _ :=
    Below.trod laidOut (by kernel_rfl) (of_decide_eq_true (by kernel_rfl)) h0 hb hlt0
  have hall := trodAll_mk1 harg0
  refine ⟨_, rfl, _, _, _, [], _, [], hW', ?_, hall, rfl, hb.frame _, fun h => by cases h⟩
  exact trodAll_mk1 (shut_bool Tryz.underlying4 _)
theorem eventsC_name : Tryz.pinned.checked.prog.funcNamed Rows.debugEventsRow.func = some 5 := by kernel_rfl
theorem eventsC_inst : Tryz.f5.isInstance Tryz.pinned.checked.prog Rows.debugEventsRow.origin Rows.debugEventsRow.targs := of_decide_eq_true (by kernel_rfl)
theorem eventsC_wrap : Tryz.f5.isWrapper Tryz.pinned.checked.prog Rows.debugEventsRow.wrapper Rows.debugEventsRow.mainSum := by
  unfold Func.isWrapper; first | (rw [if_pos (by decide +kernel)]; kernel_rfl) | (rw [if_neg (by decide +kernel)]; exact ⟨rfl, rfl⟩)
theorem eventsC_row : Rows.DebugEventsSaid :=
  OpenClaim.holds_of_wide 5 Tryz.f5 rfl rfl rfl rfl rfl rfl rfl ⟨rfl, rfl, rfl, rfl, rfl⟩ rfl rfl rfl rfl rfl eventsC_name Tryz.func5 debugEvents_closed
    eventsC_inst eventsC_wrap (fun os started H enc _ => eventsC_lifted os started H enc)
end Go.Proofs.YtbhiaeciiphelaaGreatDoor
namespace Go.Proofs.YtbhiaeciiphelaaGreatDoor
open Go
theorem eventsC_asks (f : FuncId) (fn : Func) (hf : Tryz.pinned.checked.prog.funcNamed Rows.debugEventsRow.func = some f) (hfn : Tryz.pinned.checked.prog.funcs[f]? = some fn) : f = 5 ∧ fn = Tryz.f5 := by
  obtain rfl : f = 5 := Option.some.inj (eventsC_name.symm.trans hf) |>.symm
  exact ⟨rfl, (Option.some.inj (Tryz.func5.symm.trans hfn)).symm⟩
theorem eventsC_card : Rows.DebugEventsCardSaid :=
  Claim7.holds_tied_plain_at .later [] [.data, .data, .data, .data, .sentinel, .sentinel, .pinned] true (true, "7db067e13dc8dd0c0cd939b77dc3d63cb72e0214fb7e0bfdf555525967925ee0") true
    eventsC_row (fun _ h => by cases h) (by kernel_rfl) (fun _ h => by cases h) debugEvents_row_tie rfl ⟨rfl, rfl⟩ (by kernel_rfl) rfl
    (fun f fn hf hfn => by
      obtain ⟨rfl, rfl⟩ := eventsC_asks f fn hf hfn
      exact ⟨by kernel_rfl, fun j t ht => by
        rw [Tryz.params5] at ht
        have hm : t ∈ [51] := by simpa using Array.mem_of_getElem? ht
        have hall : ([51].all fun u => !Tryz.prog.wantsStandIn u) = true := by kernel_rfl
        exact (show Tryz.prog.wantsStandIn t = false by simpa using List.all_eq_true.1 hall t hm)⟩)
    (by kernel_rfl)
end Go.Proofs.YtbhiaeciiphelaaGreatDoor
