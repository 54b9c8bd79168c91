/-
  after: a new group behind another one. Conditions: each theorem's own hypotheses on memory.
-/
import Derived.Test.YtijceljhpbdnnaaSpread
namespace Go.Proofs.Ytijceljhpbdnnaa
open Go.RowKit

/-- A group that was just made. -/
abbrev bare : List Value := List.replicate 32 (.pointer none)
theorem seg_put {W W' : World} {l r : List Grp} {g : Grp} {hb t : Nat} (hS : Seg W none (l ++ g :: r) none) (nd : (foot (l ++ g :: r)).Nodup)
    (hf : ∀ k, k ∈ foot (l ++ g :: r) → k ≠ g.b → (∀ x r', r = x :: r' → k ≠ x.b) → W'.heap[k]? = W.heap[k]?)
    (hg : W'.heap[g.b]? = some (groupObj g.tag g.ss.length g.arr (lastB none l) (some hb)))
    (hr : ∀ x r', r = x :: r' → W'.heap[x.b]? = some (groupObj x.tag x.ss.length x.arr (some hb) (headB none r')))
    (hh : W'.heap[hb]? = some (groupObj t 0 bare (some g.b) (headB none r))) : Seg W' none (l ++ g :: ⟨hb, t, [], bare⟩ :: r) none := by
  have hd : (foot l ++ (g.foot ++ foot r)).Nodup := by simpa using nd
  have hdl := (List.nodup_append.1 hd).2.2
  have hd2 := (List.nodup_append.1 hd).2.1
  have hgr := (List.nodup_append.1 hd2).2.2
  have hgn := (List.nodup_append.1 hd2).1
  have hrn := (List.nodup_append.1 hd2).2.1
  rw [seg_append] at hS ⊢
  refine ⟨?_, ?_, ?_, ?_⟩
  · refine seg_frame hS.1 (fun k hk => hf k (by simp [hk]) (fun e => hdl k hk g.b (by simp [Grp.foot]) e) (fun x r' e e2 => hdl k hk x.b (by simp [e, Grp.foot]) e2))
  · refine ⟨hg, hS.2.1.2.1, fun s hs => ?_⟩
    have hsf : s.b ∈ g.ss.map (·.b) := List.mem_map.2 ⟨s, hs, rfl⟩
    rw [StampAt, hf s.b (by simp only [foot_append, foot_cons, Grp.foot, List.mem_append, List.mem_cons]; exact .inr (.inl (.inr hsf)))
      (fun e => (List.nodup_cons.1 hgn).1 (by rw [← e]; exact hsf)) (fun x r' e e2 => hgr s.b (by simp only [Grp.foot, List.mem_cons]; exact .inr hsf) x.b (by simp [e, Grp.foot]) e2)]
    exact hS.2.1.2.2 s hs
  · exact ⟨hh, by simp [Grp.arr], fun s hs => by simp at hs⟩
  · cases r with
    | nil => trivial
    | cons x r' =>
      have hxn := (List.nodup_append.1 (show (x.foot ++ foot r').Nodup by simpa using hrn))
      refine ⟨⟨hr x r' rfl, hS.2.2.1.2.1, fun s hs => ?_⟩, ?_⟩
      · have hsf : s.b ∈ x.ss.map (·.b) := List.mem_map.2 ⟨s, hs, rfl⟩
        rw [StampAt, hf s.b (by simp only [foot_append, foot_cons, Grp.foot, List.mem_append, List.mem_cons]; exact .inr (.inr (.inl (.inr hsf))))
          (fun e => hgr g.b (by simp [Grp.foot]) s.b (by simp only [foot_cons, Grp.foot, List.mem_append, List.mem_cons]; exact .inl (.inr hsf)) e.symm)
          (fun y r2 e e2 => by obtain ⟨rfl, _⟩ := List.cons.inj e; exact (List.nodup_cons.1 hxn.1).1 (by rw [← e2]; exact hsf))]
        exact hS.2.2.1.2.2 s hs
      · refine seg_frame hS.2.2.2 (fun k hk => hf k (by simp [hk]) (fun e => hgr g.b (by simp [Grp.foot]) k (by simp [hk]) e.symm) ?_)
        intro y r2 e e2
        obtain ⟨rfl, _⟩ := List.cons.inj e
        exact hxn.2.2 x.b (by simp [Grp.foot]) k hk e2.symm

/-- What after may turn. -/
def Stirs (lb : Nat) (gs : List Grp) (b : Nat) : Prop := b = lb ∨ ∃ g, g ∈ gs ∧ g.b = b
theorem fin_last {w W : World} {lb many moves nn t : Nat} {first : Option Nat} {all : Value} {l : List Grp} {g : Grp} (k0 : Kept (Stirs lb (l ++ [g])) w W)
    (hS : Seg W none (l ++ [g]) none) (nd : (foot (l ++ [g])).Nodup) (hL : W.heap[lb]? = some (listObj first many moves all nn)) {hb : Nat} (hhb : W.heap.size = hb) :
    Kept (Stirs lb (l ++ [g])) w (((W.setCell ⟨g.b, 35, none⟩ (.pointer (some ⟨hb, 0, none⟩))).setCell ⟨lb, 1, none⟩ (.int .i64 ((many : Int) + 1))).alloc (groupObj t 0 bare (some g.b) none)) ∧
    Seg (((W.setCell ⟨g.b, 35, none⟩ (.pointer (some ⟨hb, 0, none⟩))).setCell ⟨lb, 1, none⟩ (.int .i64 ((many : Int) + 1))).alloc (groupObj t 0 bare (some g.b) none)) none (l ++ g :: ⟨hb, t, [], bare⟩ :: []) none ∧
    (((W.setCell ⟨g.b, 35, none⟩ (.pointer (some ⟨hb, 0, none⟩))).setCell ⟨lb, 1, none⟩ (.int .i64 ((many : Int) + 1))).alloc (groupObj t 0 bare (some g.b) none)).heap[lb]? = some (listObj first (many + 1) moves all nn) := by
  subst hhb
  have hG := (seg_append.1 hS).2.1
  have hne := ne_list_group hL hG.1
  refine ⟨((k0.setCell (fun _ => .inr ⟨g, by simp, rfl⟩) _).setCell (fun _ => .inl rfl) _).alloc _, ?_, ?_⟩
  · refine seg_put hS nd ?_ ?_ (fun x r' e => by simp at e) ?_
    · intro k hk h1 _
      have hlt := seg_lt hS k hk
      have hkl : k ≠ lb := by
        intro e
        obtain ⟨c, t, hc, ht⟩ := seg_kind hS k hk
        rw [e, hL] at hc
        rcases ht with rfl | rfl <;> simp [listObj] at hc
      rw [Below.heap_alloc _ _ _ (by simpa [World.setCell] using hlt), heap_set_other _ hkl, heap_set_other _ h1]
    · refine heap_alloc_old _ ?_
      rw [heap_set_other _ (Ne.symm hne)]
      exact group_set35 hG.1 hG.2.1 (some W.heap.size)
    · have ha := heap_alloc_at ((W.setCell ⟨g.b, 35, none⟩ (.pointer (some ⟨W.heap.size, 0, none⟩))).setCell ⟨lb, 1, none⟩ (.int .i64 ((many : Int) + 1))) (groupObj t 0 bare (some g.b) none)
      rw [show ((W.setCell ⟨g.b, 35, none⟩ (.pointer (some ⟨W.heap.size, 0, none⟩))).setCell ⟨lb, 1, none⟩ (.int .i64 ((many : Int) + 1))).heap.size = W.heap.size from by simp [World.setCell]] at ha
      exact ha
  · refine heap_alloc_old _ ?_
    exact list_set1 (m := many + 1) (by rw [heap_set_other _ hne]; exact hL)
theorem fin_next {w W : World} {lb many moves nn t : Nat} {first : Option Nat} {all : Value} {l r : List Grp} {g x : Grp} (k0 : Kept (Stirs lb (l ++ g :: x :: r)) w W)
    (hS : Seg W none (l ++ g :: x :: r) none) (nd : (foot (l ++ g :: x :: r)).Nodup) (hL : W.heap[lb]? = some (listObj first many moves all nn)) {hb : Nat} (hhb : W.heap.size = hb) :
    Kept (Stirs lb (l ++ g :: x :: r)) w ((((W.setCell ⟨x.b, 34, none⟩ (.pointer (some ⟨hb, 0, none⟩))).setCell ⟨g.b, 35, none⟩ (.pointer (some ⟨hb, 0, none⟩))).setCell ⟨lb, 1, none⟩ (.int .i64 ((many : Int) + 1))).alloc (groupObj t 0 bare (some g.b) (some x.b))) ∧
    Seg ((((W.setCell ⟨x.b, 34, none⟩ (.pointer (some ⟨hb, 0, none⟩))).setCell ⟨g.b, 35, none⟩ (.pointer (some ⟨hb, 0, none⟩))).setCell ⟨lb, 1, none⟩ (.int .i64 ((many : Int) + 1))).alloc (groupObj t 0 bare (some g.b) (some x.b))) none (l ++ g :: ⟨hb, t, [], bare⟩ :: x :: r) none ∧
    ((((W.setCell ⟨x.b, 34, none⟩ (.pointer (some ⟨hb, 0, none⟩))).setCell ⟨g.b, 35, none⟩ (.pointer (some ⟨hb, 0, none⟩))).setCell ⟨lb, 1, none⟩ (.int .i64 ((many : Int) + 1))).alloc (groupObj t 0 bare (some g.b) (some x.b))).heap[lb]? = some (listObj first (many + 1) moves all nn) := by
  subst hhb
  have hG := (seg_append.1 hS).2.1
  have hX := (seg_append.1 hS).2.2.1
  have hne := ne_list_group hL hG.1
  have hne2 := ne_list_group hL hX.1
  have hgx : g.b ≠ x.b := by
    have hd : (foot l ++ (g.foot ++ (x.foot ++ foot r))).Nodup := by simpa using nd
    intro e
    exact (List.nodup_append.1 (List.nodup_append.1 hd).2.1).2.2 g.b (by simp [Grp.foot]) x.b (by simp [Grp.foot]) e
  refine ⟨(((k0.setCell (fun _ => .inr ⟨x, by simp, rfl⟩) _).setCell (fun _ => .inr ⟨g, by simp, rfl⟩) _).setCell (fun _ => .inl rfl) _).alloc _, ?_, ?_⟩
  · refine seg_put hS nd ?_ ?_ ?_ ?_
    · intro k hk h1 h2
      have hlt := seg_lt hS k hk
      have hkl : k ≠ lb := by
        intro e
        obtain ⟨c, t, hc, ht⟩ := seg_kind hS k hk
        rw [e, hL] at hc
        rcases ht with rfl | rfl <;> simp [listObj] at hc
      rw [Below.heap_alloc _ _ _ (by simpa [World.setCell] using hlt), heap_set_other _ hkl, heap_set_other _ h1, heap_set_other _ (h2 x r rfl)]
    · refine heap_alloc_old _ ?_
      rw [heap_set_other _ (Ne.symm hne)]
      refine group_set35 (nx := headB none (x :: r)) ?_ hG.2.1 (some W.heap.size)
      rw [heap_set_other _ hgx]
      exact hG.1
    · intro y r' e
      obtain ⟨rfl, rfl⟩ := List.cons.inj e
      refine heap_alloc_old _ ?_
      rw [heap_set_other _ (Ne.symm hne2), heap_set_other _ (Ne.symm hgx)]
      exact group_set34 hX.1 hX.2.1 (some W.heap.size)
    · have ha := heap_alloc_at (((W.setCell ⟨x.b, 34, none⟩ (.pointer (some ⟨W.heap.size, 0, none⟩))).setCell ⟨g.b, 35, none⟩ (.pointer (some ⟨W.heap.size, 0, none⟩))).setCell ⟨lb, 1, none⟩ (.int .i64 ((many : Int) + 1))) (groupObj t 0 bare (some g.b) (some x.b))
      rw [show (((W.setCell ⟨x.b, 34, none⟩ (.pointer (some ⟨W.heap.size, 0, none⟩))).setCell ⟨g.b, 35, none⟩ (.pointer (some ⟨W.heap.size, 0, none⟩))).setCell ⟨lb, 1, none⟩ (.int .i64 ((many : Int) + 1))).heap.size = W.heap.size from by simp [World.setCell]] at ha
      exact ha
  · refine heap_alloc_old _ ?_
    exact list_set1 (m := many + 1) (by rw [heap_set_other _ hne, heap_set_other _ hne2]; exact hL)

theorem kept_box (S : Nat → Prop) (w : World) (o : Obj) (n : Nat) : Kept S w ((w.alloc o).drewN n) := ((Kept.refl S w).alloc o).drewN n
abbrev gbox (w : World) (gb : Nat) : World := w.alloc (.cells #[.pointer (some ⟨gb, 0, none⟩)] 61)
theorem seg_box {w : World} {gs : List Grp} {o : Obj} {n : Nat} {pv nx : Option Nat} (h : Seg w pv gs nx) : Seg ((w.alloc o).drewN n) pv gs nx := seg_frame h (fun k hk => Below.heap_alloc _ _ _ (seg_lt h k hk))

/-- What after answers. -/
structure Afters (w w' : World) (lb : Nat) (l : List Grp) (g : Grp) (r : List Grp) (first : Option Nat) (many moves : Nat) (all : Value) (nn t : Nat) (hb : Nat) : Prop where
  new : w.heap.size ≤ hb
  kept : Kept (Stirs lb (l ++ g :: r)) w w'
  seg : Seg w' none (l ++ g :: ⟨hb, t, [], bare⟩ :: r) none
  list : w'.heap[lb]? = some (listObj first (many + 1) moves all nn)

set_option maxHeartbeats 2000000 in
set_option maxRecDepth 100000 in
theorem after_ok_last (w : World) (lb : Nat) (l : List Grp) (g : Grp) (t : Nat) (first : Option Nat) (many moves : Nat) (all : Value) (nn : Nat)
    (hroom : Calls Try.prog 58 #[.pointer (some ⟨w.heap.size, 0, none⟩)] (gbox w g.b) fun e w' => e = .returned (.tuple #[.int .i64 t, .bool true]) ∧ ∃ m, w' = (gbox w g.b).drewN m)
    (hS : Seg w none (l ++ [g]) none) (nd : (foot (l ++ [g])).Nodup) (hl : w.heap[lb]? = some (listObj first many moves all nn)) (hm : many < 1000000000) :
    Calls Try.prog 52 #[.pointer (some ⟨lb, 0, none⟩), .pointer (some ⟨g.b, 0, none⟩)] w fun e w' => ∃ hb, e = .returned (.pointer (some ⟨hb, 0, none⟩)) ∧ Afters w w' lb l g [] first many moves all nn t hb := by
  have hG := (seg_append.1 hS).2.1
  have c1 := group_c35 hG.1 hG.2.1
  have f1 := group_fr hG.1 35
  have c2 := list_c1 hl
  have f2 := list_fr hl 1
  have hgl := heap_lt hG.1
  have hll := heap_lt hl
  have hne := ne_list_group hl hG.1
  simp only [headB, optp_none] at c1
  have Hr := Lib.hid hroom
  have HS := Lib.hid hS
  have HL := Lib.hid hl
  have HN := Lib.hid nd
  clear hroom hG hl hS nd
  go_enter Try.func52, Try.ntmps52
  go_wp2_with (go_at_call 58; refine Hr.out.mono ?_; rintro e w' ⟨rfl, m, rfl⟩)
  refine wp_region_tail 6 (by kernel_rfl) (by kernel_rfl) ?_
  simp only [List.take_succ_cons, List.take_zero, List.drop_succ_cons, List.drop_zero]
  repeat still_step
  refine wpStill_nil ?_
  go_wp2
  refine bodyPost_ret (results_tmp rfl _ _ _) rfl ⟨w.heap.size + 1, rfl, ?_⟩
  have hf := fin_last (t := t) (kept_box _ w (.cells #[.pointer (some ⟨g.b, 0, none⟩)] 61) (m + 1)) (seg_box HS.out) HN.out (heap_alloc_old _ HL.out) (World.size_alloc _ _)
  exact ⟨by omega, hf.1, hf.2.1, hf.2.2⟩
set_option maxHeartbeats 2000000 in
set_option maxRecDepth 100000 in
theorem after_ok_next (w : World) (lb : Nat) (l r : List Grp) (g x : Grp) (t : Nat) (first : Option Nat) (many moves : Nat) (all : Value) (nn : Nat)
    (hroom : Calls Try.prog 58 #[.pointer (some ⟨w.heap.size, 0, none⟩)] (gbox w g.b) fun e w' => e = .returned (.tuple #[.int .i64 t, .bool true]) ∧ ∃ m, w' = (gbox w g.b).drewN m)
    (hS : Seg w none (l ++ g :: x :: r) none) (nd : (foot (l ++ g :: x :: r)).Nodup) (hl : w.heap[lb]? = some (listObj first many moves all nn)) (hm : many < 1000000000) :
    Calls Try.prog 52 #[.pointer (some ⟨lb, 0, none⟩), .pointer (some ⟨g.b, 0, none⟩)] w fun e w' => ∃ hb, e = .returned (.pointer (some ⟨hb, 0, none⟩)) ∧ Afters w w' lb l g (x :: r) first many moves all nn t hb := by
  have hG := (seg_append.1 hS).2.1
  have hX := (seg_append.1 hS).2.2.1
  have c1 := group_c35 hG.1 hG.2.1
  have f1 := group_fr hG.1 35
  have f3 := group_fr hX.1 34
  have c3 := group_c34 hX.1 hX.2.1
  have c2 := list_c1 hl
  have f2 := list_fr hl 1
  have hgl := heap_lt hG.1
  have hxl := heap_lt hX.1
  have hll := heap_lt hl
  have hne := ne_list_group hl hG.1
  have hne2 := ne_list_group hl hX.1
  have hgx : g.b ≠ x.b := by
    have hd : (foot l ++ (g.foot ++ (x.foot ++ foot r))).Nodup := by simpa using nd
    intro e
    exact (List.nodup_append.1 (List.nodup_append.1 hd).2.1).2.2 g.b (by simp [Grp.foot]) x.b (by simp [Grp.foot]) e
  simp only [headB, optp_some] at c1
  have Hr := Lib.hid hroom
  have HS := Lib.hid hS
  have HL := Lib.hid hl
  have HN := Lib.hid nd
  clear hroom hG hX hl hS nd
  go_enter Try.func52, Try.ntmps52
  go_wp2_with (go_at_call 58; refine Hr.out.mono ?_; rintro e w' ⟨rfl, m, rfl⟩)
  refine wp_region_tail 6 (by kernel_rfl) (by kernel_rfl) ?_
  simp only [List.take_succ_cons, List.take_zero, List.drop_succ_cons, List.drop_zero]
  repeat still_step
  refine wpStill_nil ?_
  go_wp2
  refine bodyPost_ret (results_tmp rfl _ _ _) rfl ⟨w.heap.size + 1, rfl, ?_⟩
  have hf := fin_next (t := t) (kept_box _ w (.cells #[.pointer (some ⟨g.b, 0, none⟩)] 61) (m + 1)) (seg_box HS.out) HN.out (heap_alloc_old _ HL.out) (World.size_alloc _ _)
  exact ⟨by omega, hf.1, hf.2.1, hf.2.2⟩
end Go.Proofs.Ytijceljhpbdnnaa
