/-
  DERIVED. slices.Collect over a list's indices; Readers; the comparing of numbers. Condition: the events lie in a row; there are at most sixty thousand.
-/
import Derived.Test.YtbhiaeciiphelaaGreatDoorEvP
namespace Go.Proofs.YtbhiaeciiphelaaGreatDoor
open Go.RowKit Go.Shelf
attribute [local go_sem] Oper.semAt_some
theorem below_putObj {B : Nat} {w W : World} (h : Below B w W) {b : Nat} (hb : B ≤ b) (o' : Obj) : Below B w (W.putObj b o') :=
  ⟨h.os, h.tape, h.output, by rw [World.putObj_size]; exact h.size, fun k hk => (World.putObj_heap_other (by omega)).trans (h.block k hk)⟩
theorem nums_take_succ {ids : List Nat} {i n : Nat} (h : ids[i]? = some n) : nums (ids.take (i + 1)) = nums (ids.take i) ++ [.int .i64 n] := by
  obtain ⟨hi, e⟩ := List.getElem?_eq_some_iff.1 h
  rw [List.take_succ_eq_append_getElem hi, e]; simp [nums]
/-- Between two rounds of a loop that gathers numbers: so many have been gathered. -/
def QJ (w : World) (Bo : Nat) (ids : List Nat) (i : Nat) (W : World) : Prop :=
  (∃ v, W.heap[Bo]? = some (.cells #[v] 35 (0, 0)) ∧ W.ownsRow w.heap.size 3 1 v i (nums (ids.take i))) ∧ Below w.heap.size w W
section
variable {w : World} {Bo : Nat} {ids : List Nat} {i : Nat} {W : World}
theorem QJ.alloc (h : QJ w Bo ids i W) (o : Obj) : QJ w Bo ids i (W.alloc o) := by
  obtain ⟨⟨v, h1, h2⟩, h3⟩ := h
  exact ⟨⟨v, heap_alloc_old _ h1, h2.alloc _⟩, h3.alloc h3.size _⟩
theorem QJ.drew (h : QJ w Bo ids i W) : QJ w Bo ids i W.drew := by
  obtain ⟨⟨v, h1, h2⟩, h3⟩ := h
  exact ⟨⟨v, h1, h2⟩, h3.drew⟩
theorem QJ.putObj (h : QJ w Bo ids i W) {b : Nat} {o : Obj} (o' : Obj) (hb : w.heap.size ≤ b) (ho : W.heap[b]? = some o) (hc : o.isCells = false) : QJ w Bo ids i (W.putObj b o') := by
  obtain ⟨⟨v, h1, h2⟩, h3⟩ := h
  refine ⟨⟨v, ?_, ownsRow_putObj h2 o' ho hc⟩, below_putObj h3 hb o'⟩
  rw [World.putObj_heap_other (fun e => by subst e; rw [h1] at ho; cases ho; cases hc)]
  exact h1
/-- One more has been gathered. -/
theorem QJ.put {W2 : World} {v v' : Value} {n : Nat} {o : Obj} (hB : w.heap.size ≤ Bo) (h1 : W.heap[Bo]? = some (.cells #[v] 35 (0, 0)))
    (h2 : W.ownsRow w.heap.size 3 1 v i (nums (ids.take i))) (h3 : Below w.heap.size w W) (hn : ids[i]? = some n)
    (hown : W2.ownsRow w.heap.size 3 1 v' (i + 1) (nums (ids.take i) ++ [.int .i64 n])) (hg : (W.alloc o).grownBy W2 v.ownBlock) :
    QJ w Bo ids (i + 1) (W2.setCell ⟨Bo, 0, none⟩ v') ∧ KeepNC (fun _ => False) W (W2.setCell ⟨Bo, 0, none⟩ v') ∧ W2.heap[Bo]? = some (.cells #[v] 35 (0, 0)) := by
  have hso : ∀ k, v.ownBlock = some k → ∀ o, W.heap[k]? = some o → Obj.firm o = false := by
    intro k hk o ho
    obtain ⟨cur, hc⟩ := row_block h2 hk
    rw [hc] at ho; cases ho; rfl
  have hbo : ∀ k, v.ownBlock = some k → k ≠ Bo := by
    intro k hk e
    obtain ⟨cur, hc⟩ := row_block h2 hk
    rw [e, h1] at hc; simp at hc
  have hk5 : Kept (fun b => v.ownBlock = some b) W W2 := ((Kept.refl _ W).alloc o).grown hg (fun b hb _ => hb)
  have hk1 : KeepNC (fun _ => False) W W2 := (KeepNC.refl _ W).kept hk5 (fun b hb o ho => hso b hb o ho)
  have hB1 : W2.heap[Bo]? = some (.cells #[v] 35 (0, 0)) := hk5.at h1 (fun e => hbo Bo e rfl)
  refine ⟨⟨⟨v', ?_, ?_⟩, ?_⟩, hk1.setCell _ _ (fun o ho => by rw [hB1] at ho; cases ho; rfl), hB1⟩
  · rw [heap_set_same hB1]; rfl
  · rw [nums_take_succ hn]
    refine row_same hown fun g hg' => heap_set_other _ ?_
    intro e
    obtain ⟨cur, hc⟩ := row_block hown hg'
    rw [e, hB1] at hc; simp at hc
  · refine Below.setCell ?_ (p := ⟨Bo, 0, none⟩) hB _
    exact h3.trans ⟨hk5.os, hk5.tape, hk5.output, hk5.size, fun k hk => hk5.block k (Nat.lt_of_lt_of_le hk h3.size) (fun e => by have := (h2.lt k e).1; omega)⟩
end
def narg (ids : List Nat) (i : Nat) : Value := match ids[i]? with | some n => .int .i64 n | none => undef
theorem narg_at {ids : List Nat} {i n : Nat} (h : ids[i]? = some n) : narg ids i = .int .i64 n := by unfold narg; rw [h]

set_option maxHeartbeats 4000000 in
set_option maxRecDepth 100000 in
theorem appendSeq_of (w : World) (bx bk ba lb : Nat) (a : Option Addr) (n c : Nat) (y : Int) (evs : List Ev) (hI : ItAt w bx bk ba lb a n c y evs) :
    Calls Tryz.prog 87 #[.slice none 0 0, .func (.func 88) #[] #[.pointer (some ⟨bx, 0, none⟩), .pointer (some ⟨bk, 0, none⟩), .pointer (some ⟨ba, 0, none⟩)]] w fun e w' =>
      ∃ v, e = .returned v ∧ w'.ownsRow w.heap.size 3 1 v (rdsOf y 0 evs).length (nums (rdsOf y 0 evs)) ∧ Below w.heap.size w w' := by
  obtain ⟨i0, hi, hz0, hz1, hz2⟩ := info_parts info3
  obtain ⟨L, hL⟩ : ∃ L, L = (rdsOf y 0 evs).length := ⟨_, rfl⟩
  have hlen : L ≤ 60000 := by have h1 := rdsOf_len y 0 evs; have h2 := hI.ev.few; have h3 := hI.ev.len; omega
  rw [← hL]
  have HL := Lib.hid hL
  have HI := Lib.hid hI
  clear hL hI
  refine (callsIn_wide (n := 0)).1 ?_
  refine callsIn_of_wp_marks Tryz.func87 rfl trivial ?_ rfl
  simp only [Tryz.ntmps87, List.size_toArray, List.length_cons, List.length_nil, Nat.reduceAdd, Nat.reduceSub, Array.replicate_succ, Array.replicate_zero, List.push_toArray, List.append_toArray, List.nil_append, List.cons_append]
  refine wpIn_wide.2 ?_
  go_wp2
  refine (wpIn_wide (n := 0)).1 ?_
  have hB1 : (w.alloc (.cells #[.slice none 0 0] 35)).heap[w.heap.size]? = some (.cells #[.slice none 0 0] 35 (0, 0)) := heap_alloc_at _ _
  have hb0 : Below w.heap.size w (w.alloc (.cells #[.slice none 0 0] 35)) := (Below.refl _ w).alloc (Nat.le_refl _) _
  refine wpIn_range (gf := 88) (lb := #[.pointer (some ⟨bx, 0, none⟩), .pointer (some ⟨bk, 0, none⟩), .pointer (some ⟨ba, 0, none⟩)]) (by simp [go_sem]) (enters_of Tryz.func88 (by kernel_rfl) rfl) L (fun i => #[narg (rdsOf y 0 evs) i])
    (QJ w w.heap.size (rdsOf y 0 evs)) (fun _ => False) (fun b hb => hb.elim) (fun _ => rfl) (fun i W o h => h.alloc o) (fun i W h => h.drew) (fun i W b o o' h hb ho hc => h.putObj o' (by simp at hb; omega) ho hc)
    ⟨⟨_, hB1, World.ownsRow_nil _ _ _ _⟩, hb0⟩ ?_
    (fun i => { tmps := #[.slice none 0 0, .func (.func 88) #[] #[.pointer (some ⟨bx, 0, none⟩), .pointer (some ⟨bk, 0, none⟩), .pointer (some ⟨ba, 0, none⟩)], .pointer (some ⟨w.heap.size, 0, none⟩), undef, .slice none 0 0, narg (rdsOf y 0 evs) i, .func (.func 88) #[] #[.pointer (some ⟨bx, 0, none⟩), .pointer (some ⟨bk, 0, none⟩), .pointer (some ⟨ba, 0, none⟩)], narg (rdsOf y 0 evs) i, undef, undef, undef, undef, undef], defers := [] }) ?assign ?body ?done
  case assign =>
    intro l' i W' K hK
    gi_wp2
    exact hK
  case done =>
    rintro D W' hD ⟨⟨v, hv1, hv2⟩, hb⟩ hK
    have c3 : W'.cell? ⟨w.heap.size, 0, none⟩ = some v := by rw [cell_of_block hv1]; rfl
    have HV2 := Lib.hid hv2
    have HBl := Lib.hid hb
    have HK := Lib.hid hK
    clear hv1 hv2 hb hK
    go_wp2
    refine ⟨by simp, .inl ⟨_, _, rfl, run_takeDeferred HK.out, ?_⟩⟩
    refine ⟨_, results_tmp rfl _ _ _, v, rfl, ?_, below_putObj HBl.out (by simp at hD; omega) _⟩
    have := ownsRow_putObj HV2.out (.deferred none) HK.out rfl
    rwa [List.take_of_length_le (by rw [HL.out]; exact Nat.le_refl _)] at this
  · intro l' J' W' hJJ h0' hl hW ha hd hp hY'
    have := indices1_in 0 l' bx bk ba lb a n c y evs J' (KeepNC (fun b => False ∨ b = l')) W' HI.out.ev.len HI.out.ev.few (fun i W'' hJ' => HI.out.below (hJJ i W'' hJ').2) (fun i W'' o h => ha i W'' o h) h0' (fun i W1 x hx hJ' => by
      have := hY' i W1 (by rw [HL.out]; exact (List.getElem?_eq_some_iff.1 hx).1) hJ'
      rwa [narg_at hx] at this)
    rw [← HL.out] at this; exact this
  case body =>
    rintro l' i rec W' hi' hl' hrec hL' hD ⟨⟨v, hv1, hv2⟩, hb⟩
    obtain ⟨g, hg⟩ : ∃ g, (rdsOf y 0 evs)[i]? = some g := ⟨(rdsOf y 0 evs)[i]'(by rw [← HL.out]; exact hi'), List.getElem?_eq_getElem _⟩
    rw [narg_at hg]
    have c3 : W'.cell? ⟨w.heap.size, 0, none⟩ = some v := by rw [cell_of_block hv1]; rfl
    have hbsz := hb.size
    have HV1 := Lib.hid hv1
    have HV2 := Lib.hid hv2
    have HBl := Lib.hid hb
    have HLp := Lib.hid hL'
    have HD := Lib.hid hD
    have Hrec := Lib.hid hrec
    have HXs := Lib.hid hg
    clear hv1 hv2 hb hL' hD hrec hg hB1 hb0
    gi_wp2_with (gi_at_builtin; refine wpListIn_append_own _ rfl _ _ 35 rfl w.heap.size 3 i0 (.int .i64 0) 1 8 under35 hi hz0 hz1 hz2 rfl (by decide) v i (nums ((rdsOf y 0 evs).take i)) rfl (HV2.out.alloc _) ⟨W'.heap.size, 0, none⟩ 1 1 [.int .i64 g] rfl rfl (cell_one_new _ _ _) (by simp [Value.oneCell']) (by unfold maxLen; omega) (by omega) (by simp; omega) ?_; intro v2 w2 hown2 hgrow2 hnil2; obtain ⟨g2, cap2, rfl⟩ := row_succ hown2; have hput := QJ.put (Nat.le_refl _) HV1.out HV2.out HBl.out HXs.out hown2 hgrow2; have cb := cell_of_one hput.2.2; have fb := free_of_one hput.2.2; have HPut := Lib.hid hput; clear hput hown2 hgrow2 hnil2)
    obtain ⟨p1, p2, p3⟩ := HPut.out
    exact ⟨p2.same _ _ (fun h => h) HLp.out rfl, by rw [Hrec.out]; exact p2.same _ _ (fun h => h) HD.out rfl, p2, p1⟩

set_option maxHeartbeats 400000 in
theorem collect_of (w : World) (bx bk ba lb : Nat) (a : Option Addr) (n c : Nat) (y : Int) (evs : List Ev) (hI : ItAt w bx bk ba lb a n c y evs) :
    Calls Tryz.prog 50 #[.func (.func 88) #[] #[.pointer (some ⟨bx, 0, none⟩), .pointer (some ⟨bk, 0, none⟩), .pointer (some ⟨ba, 0, none⟩)]] w fun e w' => ∃ v, e = .returned v ∧ w'.ownsRow w.heap.size 3 1 v (rdsOf y 0 evs).length (nums (rdsOf y 0 evs)) ∧ Below w.heap.size w w' := by
  have h := appendSeq_of w bx bk ba lb a n c y evs hI
  have H := Lib.hid h
  clear h hI
  go_enter Tryz.func50, Tryz.ntmps50
  go_wp2_with (go_at_call 87; refine H.out.mono ?_; rintro e w' ⟨v, rfl, h1, h2⟩; have H1 := Lib.hid h1; have H2 := Lib.hid h2; clear h1 h2)
  go_ret
  exact ⟨_, rfl, H1.out, H2.out⟩
end Go.Proofs.YtbhiaeciiphelaaGreatDoor
