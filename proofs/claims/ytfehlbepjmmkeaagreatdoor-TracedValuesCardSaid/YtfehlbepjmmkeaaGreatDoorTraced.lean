/-
  DERIVED. TracedValues, as the row states it, and its card. No condition.
-/
import Derived.Test.YtfehlbepjmmkeaaGreatDoorJai
import Derived.Test.YtfehlbepjmmkeaaGreatDoorJaj
import Derived.Test.YtfehlbepjmmkeaaGreatDoorSane
import Derived.Test.YtfehlbepjmmkeaaGreatDoorTie
import Derived.SevenTiedAt
import Derived.Test.YtfehlbepjmmkeaaGreatDoorFacts3
import Derived.Test.YtfehlbepjmmkeaaGreatDoorCards
namespace Go.Proofs.YtfehlbepjmmkeaaGreatDoor
open Go.ChangeShapes Go.WideShapes Go.ChangeAt Go.RowKit
theorem sane_of {w : World} {b : Nat} {o : Nat} (h : w.heap[0]? = some (.cells #[.iface 354 (.pointer (some ⟨b, o, none⟩))] 228 (0, 0))) :
    Calls Tryz.prog 5 #[] w fun e w' => e = .returned (.bool true) ∧ Keeps w w' :=
  (Ex.sane_calls h).mono (fun _ _ h => ⟨h.1, h.2.1, h.2.2.1, h.2.2.2.1, h.2.2.2.2.1, fun k hk _ => h.2.2.2.2.2 k hk⟩)
section
set_option maxRecDepth 100000
theorem witness_traced (os : Os) (H : Type) (enc : TypeId × Value → H) :
    ∃ (w : World) (tape : Tape) (i : Input), w.os = os ∧ (w.forCall tape i).Shaped Tryz.prog ∧ i.vars = [] ∧ Input.okWide Tryz.prog (w.forCall tape i) .any w.heap.size 3 i ∧
      ((Rows.tracedValuesSpec.pre enc Tryz.prog Tryz.f3 [] false (w.forCall tape i).memory i.args ∧ laidMetH Tryz.prog Rows.tracedValuesRow.laid (w.forCall tape i).memory) ∧ sizedMet enc Tryz.prog Tryz.f3 (OpenSpec.ofChange Rows.tracedValuesSpec) false (w.forCall tape i).memory i.args) ∧ (({} : Assume)).holds Tryz.prog (lone (Frame.enter Tryz.prog 3 i.args .normal) [] (w.forCall tape i)) :=
    (ChangeSpec.witness_shaped (enc := enc) (C := Tryz.checked) (os := os) (X := fun w _ => laidMetH Tryz.prog Rows.tracedValuesRow.laid w) false (World.laidAll Tryz.prog os Rows.tracedValuesRow.laid) #[.agg #[.int .i64 0, .int .i64 0, .string ⟨#[]⟩, .slice none 0 0], .agg #[.int .i64 0, .int .i64 0, .string ⟨#[]⟩, .slice none 0 0]] 8 (World.laidAll_os _ _ _)
      (World.shaped_of_ZipB (by kernel_rfl) (by kernel_rfl)) (by kernel_rfl) (by kernel_rfl) (by kernel_rfl)
      (by rw [MakeChecks.laidMetH_plain _ _ _ (by kernel_rfl)]; exact laidMet_laidAll _ (by kernel_rfl) (by kernel_rfl)))
end
set_option maxRecDepth 100000 in
theorem value_open {H : Type} {enc : TypeId × Value → H} {W : World} {b0 : Nat} {v : Value} {d : DataW H} {p : List MemPlace} (hv : Value.okWide Tryz.prog W .any b0 24 v) (h : DataW.Trod enc Tryz.prog W 0 (fun _ => true) true 24 v d p) (hw : Fits 24 d) :
    ∃ (n : Nat) (t : RV) (cs : List Value), v = .agg cs.toArray ∧ RunAt W (fun _ => False) n t cs := by
  obtain ⟨cs, rfl, _⟩ := okWide_struct Tryz.underlying24 hv
  obtain ⟨fuel, hf⟩ := h
  obtain ⟨t, ht⟩ := run_open fuel _ _ hf hw
  exact ⟨fuel, t, cs.toList, by simp, ht⟩
set_option maxRecDepth 100000 in
theorem traced_lifted (os : Os) (started : os.Started) (H : Type) (enc : TypeId × Value → H) :
    ReturnsInHanded {} Tryz.checked os 3 .any (fun w args => (Rows.tracedValuesSpec.pre enc Tryz.prog Tryz.f3 [] false w args ∧ laidMetH Tryz.prog Rows.tracedValuesRow.laid w) ∧ sizedMet enc Tryz.prog Tryz.f3 (OpenSpec.ofChange Rows.tracedValuesSpec) false w args)
      (Rows.tracedValuesSpec.post enc Tryz.prog Tryz.f3 false true false false) := by
  refine returnsInHanded_shaped (C := Tryz.checked) (X := fun w _ => laidMetH Tryz.prog Rows.tracedValuesRow.laid w) (fun _ _ _ hh h => h.of_heap hh) own started (by kernel_rfl) Tryz.func3
    (witness_traced os H enc) ?_
  intro W base args ds gs before hsh hval0 hW _ hsz0 hL _
  have hval : ∀ (j : Nat) t v, Tryz.f3.params[j]? = some t → args[j]? = some v → Value.okWide Tryz.prog W .any base t v := hval0
  have hsz : (DataW.weightsEach Tryz.prog (Tryz.f3.params.toList ++ Rows.tracedValuesSpec.plain.varTypes Tryz.prog) (ds ++ gs)).all (· ≤ reachBytes) = true := hsz0
  have hW' := hW
  obtain ⟨b, o, hcell⟩ := err_cell hsh hL
  have hvars := vars_of hsh hL
  obtain ⟨p, q, hA0, hV, rfl, hfz, hnd⟩ := hW
  have hA : DataW.TrodAll enc Tryz.prog W 0 (fun _ => true) true Tryz.f3.params.toList args.toList ds p := hA0
  rw [Tryz.params3] at hA hval hsz
  obtain ⟨v0, v1, d0, d1, p0, p1, rfl, rfl, rfl, h0, h1⟩ := trodAll_two hA
  obtain ⟨rfl, rfl⟩ := trodVars_none hV
  have hlt0 : ∀ x ∈ p0, x.block < W.heap.size := fun x hx => by simpa using hW'.lt x (by simp [hx])
  have hlt1 : ∀ x ∈ p1, x.block < W.heap.size := fun x hx => by simpa using hW'.lt x (by simp [hx])
  have hfit0 : Fits 24 d0 := fun n hn => of_decide_eq_true (List.all_eq_true.1 hsz n (DataW.weights_mem_each (j := 0) (t := 24) (d := d0) rfl rfl n hn))
  have hfit1 : Fits 24 d1 := fun n hn => of_decide_eq_true (List.all_eq_true.1 hsz n (DataW.weights_mem_each (j := 1) (t := 24) (d := d1) rfl rfl n hn))
  obtain ⟨n0, t0, cs0, rfl, hr0⟩ := value_open (hval 0 24 v0 rfl rfl) h0 hfit0
  obtain ⟨n1, t1, cs1, rfl, hr1⟩ := value_open (hval 1 24 v1 rfl rfl) h1 hfit1
  clear hA0 hval0 hsz0
  simp only [List.append_nil] at hW'
  refine (tracedLaw_of (fun W' hk => sane_of (hk.at hcell (fun x => x))) hvars (max n0 n1) (fun _ => False) (fun _ => False) t0 t1 cs0 cs1 (hr0.le (Nat.le_max_left _ _)) (hr1.le (Nat.le_max_right _ _))).mono fun e W' ⟨he, hk⟩ => ?_
  subst he
  have hb : Below W.heap.size W W' := hk.below (Nat.le_refl _) (fun _ h => h.elim)
  have harg0 : DataW.Trod enc Tryz.prog W' 0 (fun b => decide (b < W.heap.size)) true 24 _ _ _ :=
    Below.trod laidOut (by kernel_rfl) (of_decide_eq_true (by kernel_rfl)) h0 hb hlt0
  have harg1 : DataW.Trod enc Tryz.prog W' 0 (fun b => decide (b < W.heap.size)) true 24 _ _ _ :=
    Below.trod laidOut (by kernel_rfl) (of_decide_eq_true (by kernel_rfl)) h1 hb hlt1
  have hall := trodAll_mk2 harg0 harg1
  refine ⟨_, rfl, _, _, _, [], _, [], hW', ?_, hall, rfl, hb.frame _, fun h => by cases h⟩
  exact trodAll_mk1 (shut_bool Tryz.underlying4 _)
theorem traced_name : Tryz.pinned.checked.prog.funcNamed Rows.tracedValuesRow.func = some 3 := by kernel_rfl
theorem traced_inst : Tryz.f3.isInstance Tryz.pinned.checked.prog Rows.tracedValuesRow.origin Rows.tracedValuesRow.targs := of_decide_eq_true (by kernel_rfl)
theorem traced_wrap : Tryz.f3.isWrapper Tryz.pinned.checked.prog Rows.tracedValuesRow.wrapper Rows.tracedValuesRow.mainSum := by
  unfold Func.isWrapper; first | (rw [if_pos (by decide +kernel)]; kernel_rfl) | (rw [if_neg (by decide +kernel)]; exact ⟨rfl, rfl⟩)
theorem traced_row : Rows.TracedValuesSaid :=
  OpenClaim.holds_of_wide 3 Tryz.f3 rfl rfl rfl rfl rfl rfl rfl ⟨rfl, rfl, rfl, rfl, rfl⟩ rfl rfl rfl rfl rfl traced_name Tryz.func3 tracedValues_closed
    traced_inst traced_wrap (fun os started H enc _ => traced_lifted os started H enc)
end Go.Proofs.YtfehlbepjmmkeaaGreatDoor
namespace Go.Proofs.YtfehlbepjmmkeaaGreatDoor
open Go

theorem traced_asks (f : FuncId) (fn : Func) (hf : Tryz.pinned.checked.prog.funcNamed Rows.tracedValuesRow.func = some f) (hfn : Tryz.pinned.checked.prog.funcs[f]? = some fn) : f = 3 ∧ fn = Tryz.f3 := by
  obtain rfl : f = 3 := Option.some.inj (traced_name.symm.trans hf) |>.symm
  exact ⟨rfl, (Option.some.inj (Tryz.func3.symm.trans hfn)).symm⟩
theorem traced_card : Rows.TracedValuesCardSaid :=
  Claim7.holds_tied_plain_at .later [] [.data, .data, .data, .data, .sentinel, .sentinel, .pinned] true (true, "b979c1de350adf923300bed0958aca5361a679ee644e1753135f1b480f5a2638") true
    traced_row (fun _ h => by cases h) (by kernel_rfl) (fun _ h => by cases h) tracedValues_row_tie rfl ⟨rfl, rfl⟩ (by kernel_rfl) rfl
    (fun f fn hf hfn => by
      obtain ⟨rfl, rfl⟩ := traced_asks f fn hf hfn
      exact ⟨by kernel_rfl, fun j t ht => by
        rw [Tryz.params3] at ht
        have hm : t ∈ [24, 24] := by simpa using Array.mem_of_getElem? ht
        have hall : ([24, 24].all fun u => !Tryz.prog.wantsStandIn u) = true := by kernel_rfl
        exact (show Tryz.prog.wantsStandIn t = false by simpa using List.all_eq_true.1 hall t hm)⟩)
    (by kernel_rfl)
end Go.Proofs.YtfehlbepjmmkeaaGreatDoor
