/-
  DERIVED. DebugTraces, as the row states it. No condition.
-/
import Derived.Test.YtbhiaeciiphelaaGreatDoorTrM
import Derived.Test.YtbhiaeciiphelaaGreatDoorTrO
import Derived.Test.YtbhiaeciiphelaaGreatDoorSane
import Derived.Test.YtbhiaeciiphelaaGreatDoorTie
import Derived.SevenTiedAt
import Derived.Test.YtbhiaeciiphelaaGreatDoorFacts4
import Derived.Test.YtbhiaeciiphelaaGreatDoorCards
namespace Go.Proofs.YtbhiaeciiphelaaGreatDoor
open Go.ChangeShapes Go.WideShapes Go.ChangeAt Go.RowKit
theorem sane_of {w : World} {b : Nat} {o : Nat} (h : w.heap[1]? = some (.cells #[.iface 343 (.pointer (some ⟨b, o, none⟩))] 307 (0, 0))) :
    Calls Tryz.prog 9 #[] w fun e w' => e = .returned (.bool true) ∧ Keeps w w' :=
  (Ex.sane_calls h).mono (fun _ _ h => ⟨h.1, h.2.1, h.2.2.1, h.2.2.2.1, h.2.2.2.2.1, fun k hk _ => h.2.2.2.2.2 k hk⟩)
section
set_option maxRecDepth 100000
theorem witness_traces (os : Os) (H : Type) (enc : TypeId × Value → H) :
    ∃ (w : World) (tape : Tape) (i : Input), w.os = os ∧ (w.forCall tape i).Shaped Tryz.prog ∧ i.vars = [] ∧ Input.okWide Tryz.prog (w.forCall tape i) .any w.heap.size 4 i ∧
      ((Rows.debugTracesSpec.pre enc Tryz.prog Tryz.f4 [] false (w.forCall tape i).memory i.args ∧ laidMetH Tryz.prog Rows.debugTracesRow.laid (w.forCall tape i).memory) ∧ sizedMet enc Tryz.prog Tryz.f4 (OpenSpec.ofChange Rows.debugTracesSpec) false (w.forCall tape i).memory i.args) ∧ (({} : Assume)).holds Tryz.prog (lone (Frame.enter Tryz.prog 4 i.args .normal) [] (w.forCall tape i)) :=
    (ChangeSpec.witness_shaped (enc := enc) (C := Tryz.checked) (os := os) (X := fun w _ => laidMetH Tryz.prog Rows.debugTracesRow.laid w) false (World.laidAll Tryz.prog os Rows.debugTracesRow.laid) #[.slice none 0 0] 4 (World.laidAll_os _ _ _)
      (World.shaped_of_ZipB (by kernel_rfl) (by kernel_rfl)) (by kernel_rfl) (by kernel_rfl) (by kernel_rfl)
      (by rw [MakeChecks.laidMetH_plain _ _ _ (by kernel_rfl)]; exact laidMet_laidAll _ (by kernel_rfl) (by kernel_rfl)))
end
set_option maxRecDepth 100000 in
theorem traces_lifted (os : Os) (started : os.Started) (H : Type) (enc : TypeId × Value → H) :
    ReturnsInHanded {} Tryz.checked os 4 .any (fun w args => (Rows.debugTracesSpec.pre enc Tryz.prog Tryz.f4 [] false w args ∧ laidMetH Tryz.prog Rows.debugTracesRow.laid w) ∧ sizedMet enc Tryz.prog Tryz.f4 (OpenSpec.ofChange Rows.debugTracesSpec) false w args)
      (Rows.debugTracesSpec.post enc Tryz.prog Tryz.f4 false true false false) := by
  refine returnsInHanded_shaped (C := Tryz.checked) (X := fun w _ => laidMetH Tryz.prog Rows.debugTracesRow.laid w) (fun _ _ _ hh h => h.of_heap hh) own started (by kernel_rfl) Tryz.func4
    (witness_traces os H enc) ?_
  intro W base args ds gs before hsh hval0 hW _ hsz0 hL _
  have hval : ∀ (j : Nat) t v, Tryz.f4.params[j]? = some t → args[j]? = some v → Value.okWide Tryz.prog W .any base t v := hval0
  have hsz : (DataW.weightsEach Tryz.prog (Tryz.f4.params.toList ++ Rows.debugTracesSpec.plain.varTypes Tryz.prog) (ds ++ gs)).all (· ≤ reachBytes) = true := hsz0
  have hW' := hW
  obtain ⟨b, o, hcell⟩ := err_cell hsh hL
  obtain ⟨p, q, hA0, hV, rfl, hfz, hnd⟩ := hW
  have hA : DataW.TrodAll enc Tryz.prog W 0 (fun _ => true) true Tryz.f4.params.toList args.toList ds p := hA0
  rw [Tryz.params4] at hA hval hsz
  obtain ⟨v0, d0, rfl, rfl, h0⟩ := trodAll_one hA
  obtain ⟨rfl, rfl⟩ := trodVars_none hV
  have hlt0 : ∀ x ∈ p, x.block < W.heap.size := fun x hx => by simpa using hW'.lt x (by simp [hx])
  have hfit : Fits 22 d0 := fun n hn => of_decide_eq_true (List.all_eq_true.1 hsz n (DataW.weights_mem_each (j := 0) (t := 22) (d := d0) rfl rfl n hn))
  obtain ⟨e, a, n, c, ets, rfl, hets, hn, hlen⟩ := ets_open (hval 0 22 v0 rfl rfl) h0 hfit
  clear hA0 hval0 hsz0
  simp only [List.append_nil] at hW'
  refine (traces_of e (sane_of hcell) (fun _ => False) a n c ets hets hn hlen).mono fun e W' ⟨he, hk⟩ => ?_
  subst he
  have hb : Below W.heap.size W W' := hk.below (Nat.le_refl _) (fun _ h => h.elim)
  have harg0 : DataW.Trod enc Tryz.prog W' 0 (fun b => decide (b < W.heap.size)) true 22 _ _ _ :=
    Below.trod laidOut (by kernel_rfl) (of_decide_eq_true (by kernel_rfl)) h0 hb hlt0
  have hall := trodAll_mk1 harg0
  refine ⟨_, rfl, _, _, _, [], _, [], hW', ?_, hall, rfl, hb.frame _, fun h => by cases h⟩
  exact trodAll_mk1 (shut_bool Tryz.underlying4 _)
theorem traces_name : Tryz.pinned.checked.prog.funcNamed Rows.debugTracesRow.func = some 4 := by kernel_rfl
theorem traces_inst : Tryz.f4.isInstance Tryz.pinned.checked.prog Rows.debugTracesRow.origin Rows.debugTracesRow.targs := of_decide_eq_true (by kernel_rfl)
theorem traces_wrap : Tryz.f4.isWrapper Tryz.pinned.checked.prog Rows.debugTracesRow.wrapper Rows.debugTracesRow.mainSum := by
  unfold Func.isWrapper; first | (rw [if_pos (by decide +kernel)]; kernel_rfl) | (rw [if_neg (by decide +kernel)]; exact ⟨rfl, rfl⟩)
theorem traces_row : Rows.DebugTracesSaid :=
  OpenClaim.holds_of_wide 4 Tryz.f4 rfl rfl rfl rfl rfl rfl rfl ⟨rfl, rfl, rfl, rfl, rfl⟩ rfl rfl rfl rfl rfl traces_name Tryz.func4 debugTraces_closed
    traces_inst traces_wrap (fun os started H enc _ => traces_lifted os started H enc)
end Go.Proofs.YtbhiaeciiphelaaGreatDoor
namespace Go.Proofs.YtbhiaeciiphelaaGreatDoor
open Go
theorem traces_asks (f : FuncId) (fn : Func) (hf : Tryz.pinned.checked.prog.funcNamed Rows.debugTracesRow.func = some f) (hfn : Tryz.pinned.checked.prog.funcs[f]? = some fn) : f = 4 ∧ fn = Tryz.f4 := by
  obtain rfl : f = 4 := Option.some.inj (traces_name.symm.trans hf) |>.symm
  exact ⟨rfl, (Option.some.inj (Tryz.func4.symm.trans hfn)).symm⟩
theorem traces_card : Rows.DebugTracesCardSaid :=
  Claim7.holds_tied_plain_at .later [] [.data, .data, .data, .data, .sentinel, .sentinel, .pinned] true (true, "7db067e13dc8dd0c0cd939b77dc3d63cb72e0214fb7e0bfdf555525967925ee0") true
    traces_row (fun _ h => by cases h) (by kernel_rfl) (fun _ h => by cases h) debugTraces_row_tie rfl ⟨rfl, rfl⟩ (by kernel_rfl) rfl
    (fun f fn hf hfn => by
      obtain ⟨rfl, rfl⟩ := traces_asks f fn hf hfn
      exact ⟨by kernel_rfl, fun j t ht => by
        rw [Tryz.params4] at ht
        have hm : t ∈ [22] := by simpa using Array.mem_of_getElem? ht
        have hall : ([22].all fun u => !Tryz.prog.wantsStandIn u) = true := by kernel_rfl
        exact (show Tryz.prog.wantsStandIn t = false by simpa using List.all_eq_true.1 hall t hm)⟩)
    (by kernel_rfl)
end Go.Proofs.YtbhiaeciiphelaaGreatDoor
