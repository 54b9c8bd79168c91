/-
  Stamps over a whole order. Condition: Inv, the order as it lies in memory.
-/
import Derived.Test.YtijceljhpbdnnaaEach
import Derived.Maps.AppendAt
import Derived.RangeFuncBox
namespace Go.Proofs.Ytijceljhpbdnnaa
open Go.RowKit Go.Shelf
attribute [local go_sem] Oper.semAt_some

theorem info34 : (Try.prog.info? 34).map (fun i => (i.zero, i.size, i.bytes)) = some (some (.int .i64 0), 1, 8) := by kernel_rfl
theorem under28 : Try.prog.underlying 28 = some (.slice 34) := by kernel_rfl

theorem Inv.reads {w : World} {O : Ord} (h : Inv w O) : Reads O.gs O.lb w := by
  refine ⟨list_c0 h.list, fun j g hg => ?_⟩
  have hj := List.getElem?_eq_some_iff.1 hg
  obtain ⟨hj, e⟩ := hj
  have hsp : O.gs = O.gs.take j ++ g :: O.gs.drop (j + 1) := by rw [← e, ← List.drop_eq_getElem_cons hj, List.take_append_drop]
  have hG := h.group hsp
  have h32 := hG.2.1
  refine ⟨group_c35 hG.1 h32, group_c1 hG.1, by simp [Grp.arr] at h32; omega, fun k s hs => group_ca hG.1 ?_⟩
  have hk := (List.getElem?_eq_some_iff.1 hs)
  obtain ⟨hk, e2⟩ := hk
  simp [Grp.arr, List.getElem?_append, hk, e2]
theorem Reads.of_below {w w' : World} {gs : List Grp} {lb B : Nat} (h : Reads gs lb w) (hb : Below B w w') (hl : lb < B) (hg : ∀ g, g ∈ gs → g.b < B) : Reads gs lb w' := by
  refine ⟨by rw [hb.cell (p := ⟨lb, 0, none⟩) hl]; exact h.1, fun j g hj => ?_⟩
  have hgl := hg g (List.mem_of_getElem? hj)
  obtain ⟨a, b, c, d⟩ := h.2 j g hj
  exact ⟨by rw [hb.cell (p := ⟨g.b, 35, none⟩) hgl]; exact a, by rw [hb.cell (p := ⟨g.b, 1, none⟩) hgl]; exact b, c, fun k s hs => by rw [hb.cell (p := ⟨g.b, 2 + k, none⟩) hgl]; exact d k s hs⟩

theorem below_putObj {B : Nat} {w W : World} (h : Below B w W) {b : Nat} (hb : B ≤ b) (o' : Obj) : Below B w (W.putObj b o') :=
  ⟨h.os, h.tape, h.output, by rw [World.putObj_size]; exact h.size, fun k hk => (World.putObj_heap_other (by omega)).trans (h.block k hk)⟩

def nums (l : List Nat) : List Value := l.map fun n : Nat => Value.int .i64 (n : Int)
theorem ids_take_succ {ids : List Nat} {i n : Nat} (h : ids[i]? = some n) : nums (ids.take (i + 1)) = nums (ids.take i) ++ [.int .i64 n] := by
  have hi := List.getElem?_eq_some_iff.1 h
  obtain ⟨hi, e⟩ := hi
  rw [List.take_succ_eq_append_getElem hi, e]; simp [nums]
def sarg (ss : List Stp) (i : Nat) : Value := match ss[i]? with | some s => .pointer (some ⟨s.b, 0, none⟩) | none => undef
theorem sarg_at {ss : List Stp} {i : Nat} {s : Stp} (h : ss[i]? = some s) : sarg ss i = .pointer (some ⟨s.b, 0, none⟩) := by unfold sarg; rw [h]
theorem soft_of {W : World} {b : Nat} {c : Array Value} {t : TypeId} {fr : Nat × Nat} (h : W.heap[b]? = some (.cells c t fr)) (ht : (t == 97 || t == 102) = false) : ∀ o, W.heap[b]? = some o → Obj.firm o = false := by
  intro o ho; rw [h] at ho; cases ho; exact ht
theorem ownsRow_soft {W : World} {B n : Nat} {e : TypeId} {v : Value} {xs : List Value} (h : W.ownsRow B e 1 v n xs) (ht : (e == 97 || e == 102) = false) : ∀ k, v.ownBlock = some k → ∀ o, W.heap[k]? = some o → Obj.firm o = false := by
  intro k hk
  obtain ⟨_, h2 | ⟨g, cap, cur, hv, hz, hg, r⟩⟩ := h
  · rw [h2.1] at hk; simp [Value.ownBlock] at hk
  · rw [hv] at hk; simp [Value.ownBlock] at hk; subst hk; exact soft_of hg ht

/-- Between two rounds of Stamps: so many have been gathered. -/
def SJ (w : World) (Bo lb : Nat) (ids : List Nat) (i : Nat) (W : World) : Prop :=
  (∃ v, W.heap[Bo]? = some (.cells #[v] 28 (0, 0)) ∧ W.ownsRow w.heap.size 34 1 v i (nums (ids.take i))) ∧ Below w.heap.size w W ∧ W.heap[Bo + 1]? = some (.cells #[.pointer (some ⟨lb, 0, none⟩)] 97 (0, 0))
theorem SJ.alloc {w : World} {Bo lb : Nat} {ids : List Nat} {i : Nat} {W : World} (h : SJ w Bo lb ids i W) (o : Obj) : SJ w Bo lb ids i (W.alloc o) := by
  obtain ⟨⟨v, h1, h2⟩, h3, h4⟩ := h
  exact ⟨⟨v, heap_alloc_old _ h1, h2.alloc _⟩, h3.alloc h3.size _, heap_alloc_old _ h4⟩
theorem SJ.drew {w : World} {Bo lb : Nat} {ids : List Nat} {i : Nat} {W : World} (h : SJ w Bo lb ids i W) : SJ w Bo lb ids i W.drew := by
  obtain ⟨⟨v, h1, h2⟩, h3, h4⟩ := h
  exact ⟨⟨v, h1, h2⟩, h3.drew, h4⟩
theorem SJ.putObj {w : World} {Bo lb : Nat} {ids : List Nat} {i : Nat} {W : World} (h : SJ w Bo lb ids i W) {b : Nat} {o : Obj} (o' : Obj) (hb : w.heap.size ≤ b) (ho : W.heap[b]? = some o) (hc : o.isCells = false) : SJ w Bo lb ids i (W.putObj b o') := by
  obtain ⟨⟨v, h1, h2⟩, h3, h4⟩ := h
  refine ⟨⟨v, ?_, ownsRow_putObj h2 o' ho hc⟩, below_putObj h3 hb o', ?_⟩
  · rw [World.putObj_heap_other (fun e => by subst e; rw [h1] at ho; cases ho; cases hc)]
    exact h1
  · rw [World.putObj_heap_other (fun e => by subst e; rw [h4] at ho; cases ho; cases hc)]
    exact h4
/-- One more has been gathered. -/
theorem SJ.put {w : World} {Bo lb : Nat} {ids : List Nat} {i n : Nat} {W W2 : World} {v v' : Value} (hB : w.heap.size ≤ Bo) (h1 : W.heap[Bo]? = some (.cells #[v] 28 (0, 0)))
    (h2 : W.ownsRow w.heap.size 34 1 v i (nums (ids.take i))) (h3 : Below w.heap.size w W) (h4 : W.heap[Bo + 1]? = some (.cells #[.pointer (some ⟨lb, 0, none⟩)] 97 (0, 0))) (hn : ids[i]? = some n)
    (hown : W2.ownsRow w.heap.size 34 1 v' (i + 1) (nums (ids.take i) ++ [.int .i64 n])) (hg : (W.alloc (.cells #[.int .i64 n] 34)).drew.grownBy W2 v.ownBlock) :
    SJ w Bo lb ids (i + 1) (W2.setCell ⟨Bo, 0, none⟩ v') ∧ KeepNC (fun _ => False) W (W2.setCell ⟨Bo, 0, none⟩ v') ∧ W2.heap[Bo]? = some (.cells #[v] 28 (0, 0)) := by
  have hso := ownsRow_soft h2 rfl
  have hlt := lt_of_block h1
  have ha : ∀ k, v.ownBlock = some k → ∀ o, (W.alloc (.cells #[.int .i64 n] 34)).drew.heap[k]? = some o → Obj.firm o = false := by
    intro k hk o ho
    obtain ⟨_, hkl⟩ := h2.lt k hk
    have e1 : (W.alloc (.cells #[.int .i64 n] 34)).drew.heap[k]? = W.heap[k]? := Below.heap_alloc _ _ _ hkl
    rw [e1] at ho
    exact hso k hk o ho
  have hk1 : KeepNC (fun _ => False) W W2 := ((KeepNC.refl _ W).alloc _).drew.grown hg ha
  have hbo : ∀ k, v.ownBlock = some k → k ≠ Bo := by
    intro k hk e
    obtain ⟨_, h | ⟨g, cap, cur, hv, hz, hgg, r⟩⟩ := h2
    · rw [h.1] at hk; simp [Value.ownBlock] at hk
    · rw [hv] at hk; simp [Value.ownBlock] at hk; subst hk; subst e; rw [h1] at hgg; simp at hgg
  have hB1 : W2.heap[Bo]? = some (.cells #[v] 28 (0, 0)) := by
    rw [hg.block Bo (by show Bo < (W.alloc _).heap.size; simp; omega) (fun e => hbo Bo e.symm rfl)]
    exact (Below.heap_alloc _ _ _ hlt).trans h1
  have hso2 := soft_of hB1 rfl
  refine ⟨⟨⟨v', ?_, ?_⟩, ?_, ?_⟩, hk1.setCell _ _ hso2, hB1⟩
  · rw [heap_set_same hB1]; rfl
  · rw [ids_take_succ hn]
    refine ownsRow_setCell_other hown ?_ _
    intro e
    obtain ⟨_, h | ⟨g, cap, cur, hv, hz, hgg, r⟩⟩ := hown
    · rw [h.1] at e; simp [Value.ownBlock] at e
    · rw [hv] at e; simp [Value.ownBlock] at e; subst e; rw [hB1] at hgg; simp at hgg
  · refine Below.setCell ?_ (p := ⟨Bo, 0, none⟩) hB _
    refine (Below.drew (h3.alloc h3.size _)).grown hg ?_ ?_
    · show _ ≤ (W.alloc _).heap.size; have := h3.size; simp; omega
    · intro k hk; exact (h2.lt k hk).1
  · exact (hk1.setCell _ _ hso2).same _ _ (fun h => h) h4 rfl

set_option maxHeartbeats 2000000 in
set_option maxRecDepth 100000 in
theorem stamps_ord {w : World} {O : Ord} (h : Inv w O) :
    Calls Try.prog 19 #[.pointer (some ⟨O.lb, 0, none⟩)] w fun e w' => ∃ v, e = .returned v ∧ w'.ownsRow w.heap.size 34 1 v (stampsOf O.gs).length (nums O.ids) ∧ Below w.heap.size w w' := by
  have hlen : (stampsOf O.gs).length ≤ 100000 := by
    have h1 : (idsOf O.gs).length = (stampsOf O.gs).length := by simp [idsOf]
    rw [← h1]
    have h2 : ∀ v, v ∈ idsOf O.gs → v ∈ List.range O.P.length := by
      intro v hv
      obtain ⟨t, ht, rfl⟩ := List.mem_map.1 hv
      exact List.mem_range.2 (List.getElem?_eq_some_iff.1 (h.wf.tabled t ht)).1
    have := h.wf.ids.length_le_of_subset h2
    have := h.wf.made
    simp at *; omega
  have c1 := list_c4 h.list
  have hlb := heap_lt h.list
  obtain ⟨i0, hi, hz0, hz1, hz2⟩ := info_parts info34
  have HI := Lib.hid h
  obtain ⟨L, hL⟩ : ∃ L, L = (stampsOf O.gs).length := ⟨_, rfl⟩
  rw [← hL] at c1 hlen ⊢
  have HL := Lib.hid hL
  clear h hL
  refine (callsIn_wide (n := 0)).1 ?_
  refine callsIn_of_wp_marks Try.func19 rfl trivial ?_ rfl
  simp only [Try.ntmps19, List.size_toArray, List.length_cons, List.length_nil, Nat.reduceAdd, Nat.reduceSub, Array.replicate_succ, Array.replicate_zero, List.push_toArray, List.append_toArray, List.nil_append, List.cons_append]
  refine wpIn_wide.2 ?_
  go_wp2_with (at_make; refine wpList_make_own _ rfl _ _ 28 rfl w.heap.size 34 i0 (.int .i64 0) 1 under28 hi hz0 hz1 .i64 .i64 L L rfl rfl rfl (by rw [hz2]; omega) (by unfold maxLen; omega) (Nat.le_refl _) ?_; intro w1 hown hg1)
  go_wp2_with (go_at_call 38; refine (each_mk O.lb _).mono ?_; rintro e w' ⟨rfl, rfl⟩)
  refine (wpIn_wide (n := 0)).1 ?_
  have hB2 : ((w1.alloc (.cells #[.slice (some ⟨w.heap.size, 0, none⟩) 0 L] 28)).alloc (.cells #[.pointer (some ⟨O.lb, 0, none⟩)] 97)).heap[w1.heap.size + 1]? = some (.cells #[.pointer (some ⟨O.lb, 0, none⟩)] 97 (0, 0)) := by
    have := heap_alloc_at (w1.alloc (.cells #[.slice (some ⟨w.heap.size, 0, none⟩) 0 L] 28)) (.cells #[.pointer (some ⟨O.lb, 0, none⟩)] 97)
    rwa [World.size_alloc] at this
  have hB1 : ((w1.alloc (.cells #[.slice (some ⟨w.heap.size, 0, none⟩) 0 L] 28)).alloc (.cells #[.pointer (some ⟨O.lb, 0, none⟩)] 97)).heap[w1.heap.size]? = some (.cells #[.slice (some ⟨w.heap.size, 0, none⟩) 0 L] 28 (0, 0)) :=
    heap_alloc_old _ (heap_alloc_at _ _)
  have hsz := hg1.size
  have hb0 : Below w.heap.size w ((w1.alloc (.cells #[.slice (some ⟨w.heap.size, 0, none⟩) 0 L] 28)).alloc (.cells #[.pointer (some ⟨O.lb, 0, none⟩)] 97)) :=
    (((Below.refl _ w).grown hg1 (Nat.le_refl _) (fun k e => by cases e)).alloc hsz _).alloc (by simp; omega) _
  have hr0 : ((w1.alloc (.cells #[.slice (some ⟨w.heap.size, 0, none⟩) 0 L] 28)).alloc (.cells #[.pointer (some ⟨O.lb, 0, none⟩)] 97)).ownsRow w.heap.size 34 1 (.slice (some ⟨w.heap.size, 0, none⟩) 0 L) 0 [] := (hown.alloc _).alloc _
  generalize hWb : (w1.alloc (.cells #[.slice (some ⟨w.heap.size, 0, none⟩) 0 L] 28)).alloc (.cells #[.pointer (some ⟨O.lb, 0, none⟩)] 97) = Wb at *
  have hWsz : Wb.heap.size = w1.heap.size + 2 := by rw [← hWb]; simp
  have hrd : ∀ W, Below w.heap.size w W → Reads O.gs O.lb W := fun W hb => HI.out.reads.of_below hb (heap_lt HI.out.list) (fun g hg => seg_lt HI.out.seg _ (mem_foot_group hg))
  have HRd := Lib.hid hrd
  have HB2 := Lib.hid hB2
  clear hrd hown hg1 hWb hB2
  refine wpIn_range (gf := 56) (lb := #[.pointer (some ⟨w1.heap.size + 1, 0, none⟩)]) (by simp [go_sem]) (enters_of Try.func56 (by kernel_rfl) rfl) L (fun i => #[sarg (stampsOf O.gs) i])
    (SJ w w1.heap.size O.lb O.ids) (fun _ => False) (fun b hb => hb.elim) (fun _ => rfl) (fun i W o h => h.alloc o) (fun i W h => h.drew) (fun i W b o o' h hb ho hc => h.putObj o' (by omega) ho hc)
    ⟨⟨_, hB1, by simpa [nums] using hr0⟩, hb0, HB2.out⟩ ?_
    (fun i => { tmps := #[.pointer (some ⟨O.lb, 0, none⟩), undef, .slice none 0 0, .pointer (some ⟨w1.heap.size, 0, none⟩), sarg (stampsOf O.gs) i, .pointer (some ⟨O.lb, 0, none⟩), .bool false, .pointer (some ⟨O.lb, 0, none⟩), .pointer (some ⟨O.lb, 0, none⟩),
      .pointer (some ⟨O.lb, 4, none⟩), .int .i64 L, .slice (some ⟨w.heap.size, 0, none⟩) 0 L, .pointer (some ⟨O.lb, 0, none⟩), .pointer (some ⟨O.lb, 0, none⟩), .pointer (some ⟨O.lb, 0, none⟩), .func (.func 56) #[] #[.pointer (some ⟨w1.heap.size + 1, 0, none⟩)],
      sarg (stampsOf O.gs) i, undef, undef, undef, undef, undef, undef, undef, undef], defers := [] }) ?assign ?body ?done
  case assign =>
    intro l' i W' K hK
    gi_wp2
    exact hK
  case done =>
    rintro D W' hD ⟨⟨v, hv1, hv2⟩, hb, hbc⟩ hK
    have c3 : W'.cell? ⟨w1.heap.size, 0, none⟩ = some v := by rw [cell_of_block hv1]; rfl
    have HV2 := Lib.hid hv2
    have HBl := Lib.hid hb
    have HK := Lib.hid hK
    clear hv1 hv2 hb hK hbc
    go_wp2
    refine ⟨by simp, .inl ⟨_, _, rfl, run_takeDeferred HK.out, ?_⟩⟩
    refine ⟨_, results_tmp rfl _ _ _, v, rfl, ?_, below_putObj HBl.out (by omega) _⟩
    have := ownsRow_putObj HV2.out (.deferred none) HK.out rfl
    rwa [List.take_of_length_le (by rw [HL.out]; simp [Ord.ids, idsOf])] at this
  · intro l' J' W' hJJ h0' hl hW ha hd hp hY'
    have hbx : W'.cell? ⟨w1.heap.size + 1, 0, none⟩ = some (.pointer (some ⟨O.lb, 0, none⟩)) := by rw [cell_of_block (hJJ 0 W' h0').2.2]; rfl
    have := each1_in 0 l' (w1.heap.size + 1) O.lb O.gs J' (fun b => False ∨ b = l') W' (fun i W'' hJ' => HRd.out W'' (hJJ i W'' hJ').2.1) hbx (by omega) (fun b hb => by rcases hb with hb | rfl; exact hb.elim; exact hl) ha hd hp h0' ?_
    · rw [← HL.out] at this; exact this
    · intro i W1 s hs hJ'
      have := hY' i W1 (by rw [HL.out]; exact (List.getElem?_eq_some_iff.1 hs).1) hJ'
      rwa [sarg_at hs] at this
  case body =>
    rintro l' i rec W' hi' hl' hrec hL' hD ⟨⟨v, hv1, hv2⟩, hb, hbc⟩
    obtain ⟨s, hs⟩ : ∃ s, (stampsOf O.gs)[i]? = some s := ⟨(stampsOf O.gs)[i]'(by rw [← HL.out]; exact hi'), List.getElem?_eq_getElem _⟩
    rw [sarg_at hs]
    obtain ⟨gg, hgg, _, hst⟩ := seg_stamp HI.out.seg (List.mem_of_getElem? hs)
    have hstA : s.b < W'.heap.size := Nat.lt_of_lt_of_le (heap_lt hst) hb.size
    have c2 : W'.cell? ⟨s.b, 0, none⟩ = some (.int .i64 s.id) := by
      rw [hb.cell (p := ⟨s.b, 0, none⟩) (heap_lt hst)]; exact stamp_c0 hst
    have c3 : W'.cell? ⟨w1.heap.size, 0, none⟩ = some v := by rw [cell_of_block hv1]; rfl
    have hids : O.ids[i]? = some s.id := by simp [Ord.ids, idsOf, hs]
    have HV1 := Lib.hid hv1
    have HV2 := Lib.hid hv2
    have HBl := Lib.hid hb
    have HLp := Lib.hid hL'
    have HD := Lib.hid hD
    have Hrec := Lib.hid hrec
    have HS := Lib.hid hs
    have Hids := Lib.hid hids
    have HBc := Lib.hid hbc
    clear hv1 hv2 hb hL' hD hrec hs hids hst hgg hB1 hr0 hb0 hbc
    gi_wp2
    refine wpIn_any (by kernel_rfl) (by kernel_rfl) (by rintro ⟨a, w, h⟩; exact h) ?_
    have hbsz := HBl.out.size
    have hlB : w1.heap.size < W'.heap.size := lt_of_block HV1.out
    repeat' (first
      | exact AllReady.nil
      | (refine AllReady.cons rfl (fun K hK => ?_) ?_; (go_simp; refine hK _ _ ?_; clear hK K))
      | refine wpAny_ready (rs := [0, 1]) (by decide +kernel) (by simp) ?_
      | refine wpAny_ready (rs := [0, 2]) (by decide +kernel) (by simp) ?_
      | refine wpAny_ready (rs := [0, 3]) (by decide +kernel) (by simp) ?_
      | refine wpAny_ready (rs := [0, 4]) (by decide +kernel) (by simp) ?_
      | refine wpAny_ready (rs := [0, 5]) (by decide +kernel) (by simp) ?_
      | refine wpAny_ready (rs := [0]) (by decide +kernel) (by simp) ?_
      | refine wpAny_ready (rs := [1]) (by decide +kernel) (by simp) ?_
      | refine wpAny_ready (rs := [2]) (by decide +kernel) (by simp) ?_
      | refine wpAny_ready (rs := [3]) (by decide +kernel) (by simp) ?_
      | refine wpAny_ready (rs := [4]) (by decide +kernel) (by simp) ?_
      | refine wpAny_ready (rs := [5]) (by decide +kernel) (by simp) ?_
      | refine wpAny_ready (rs := [7]) (by decide +kernel) (by simp) ?_
      | refine wpAny_done (by decide +kernel) ?_ _
      | (refine wpAny_ready (rs := [6]) (by decide +kernel) (by simp) ?_; refine AllReady.cons rfl (fun K hK => ?_) AllReady.nil; refine ite_of ?_ ?_; exact rfl; simp only [List.getElem_toArray, List.getElem_cons_succ, List.getElem_cons_zero]; refine wp_append_own _ (.tmp 17) (.tmp 22) 28 rfl w.heap.size 34 i0 (.int .i64 0) 1 8 under28 hi hz0 hz1 hz2 rfl (by decide) v i (nums (O.ids.take i)) rfl (HV2.out.alloc _).drew ⟨W'.heap.size, 0, none⟩ 1 1 [.int .i64 s.id] rfl rfl (cell_one_new _ _ _) (by simp [Value.oneCell']) (by unfold maxLen; omega) (by omega) (by simp; omega) ?_; intro v2 w2 hown2 hgrow2 hnil2; obtain ⟨g2, cap2, rfl⟩ := ownsRow_succ hown2; have hput := SJ.put hsz HV1.out HV2.out HBl.out HBc.out Hids.out hown2 hgrow2; have cb := cell_of_one hput.2.2; have fb := free_of_one hput.2.2; have HPut := Lib.hid hput; clear hput hown2 hgrow2 hnil2; refine hK _ _ ?_; clear hK K))
    all_goals gi_wp2
    all_goals
      obtain ⟨p1, p2, p3⟩ := HPut.out
      exact ⟨p2.same _ _ (fun h => h) HLp.out rfl, by rw [Hrec.out]; exact p2.same _ _ (fun h => h) HD.out rfl, p2, p1⟩
end Go.Proofs.Ytijceljhpbdnnaa
