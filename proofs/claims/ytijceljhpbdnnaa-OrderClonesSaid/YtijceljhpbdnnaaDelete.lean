/-
  Delete over a whole order. Condition: Inv, the order as it lies in memory.
-/
import Derived.Test.YtijceljhpbdnnaaOrd
import Derived.Test.YtijceljhpbdnnaaRemove
namespace Go.Proofs.Ytijceljhpbdnnaa
open Go.RowKit

set_option maxHeartbeats 400000 in
theorem delete_no (l s : Value) (w : World)
    (hf : Calls Try.prog 34 #[l, s] w fun e w' => e = .returned (.pointer none) ∧ w = w') :
    Calls Try.prog 24 #[l, s] w fun e w' => e = .returned (.int .i64 180) ∧ w = w' := by
  have Hf := Lib.hid hf
  clear hf
  go_enter Try.func24, Try.ntmps24
  go_wp2_with (go_at_call 34; refine Hf.out.mono ?_; rintro e w' ⟨rfl, rfl⟩)
  go_ret
  exact ⟨rfl, rfl⟩
set_option maxHeartbeats 400000 in
theorem delete_zero (l : Value) (sb : Nat) (w : World)
    (hf : Calls Try.prog 34 #[l, .int .i64 0] w fun e w' => e = .returned (.pointer (some ⟨sb, 0, none⟩)) ∧ w = w') :
    Calls Try.prog 24 #[l, .int .i64 0] w fun e w' => e = .returned (.int .i64 180) ∧ w = w' := by
  have Hf := Lib.hid hf
  clear hf
  go_enter Try.func24, Try.ntmps24
  go_wp2_with (go_at_call 34; refine Hf.out.mono ?_; rintro e w' ⟨rfl, rfl⟩)
  go_ret
  exact ⟨rfl, rfl⟩
set_option maxHeartbeats 1000000 in
theorem delete_walk (lb ab sb s n made cap : Nat) (w : World) (R : World → Prop) (hs0 : 0 < s) (hsm : s < made) (hn : n < 1000000000)
    (hf : Calls Try.prog 34 #[.pointer (some ⟨lb, 0, none⟩), .int .i64 s] w fun e w' => e = .returned (.pointer (some ⟨sb, 0, none⟩)) ∧ w = w')
    (hr : Calls Try.prog 43 #[.pointer (some ⟨lb, 0, none⟩), .pointer (some ⟨sb, 0, none⟩)] w fun e w' => e = .returned (.tuple #[]) ∧ R w')
    (hR : ∀ w', R w' → w'.cell? ⟨lb, 3, none⟩ = some (.slice (some ⟨ab, 0, none⟩) made cap) ∧ w'.cell? ⟨ab, s, none⟩ = some (.pointer (some ⟨sb, 0, none⟩)) ∧ w'.frozen? ⟨ab, s, none⟩ = false ∧
      w'.cell? ⟨lb, 4, none⟩ = some (.int .i64 ((n + 1 : Nat) : Int)) ∧ w'.frozen? ⟨lb, 4, none⟩ = false) (hne : lb ≠ ab) :
    Calls Try.prog 24 #[.pointer (some ⟨lb, 0, none⟩), .int .i64 s] w fun e w' => e = .returned (.int .i64 0) ∧
      ∃ w1, R w1 ∧ w' = (w1.setCell ⟨ab, s, none⟩ (.pointer none)).setCell ⟨lb, 4, none⟩ (.int .i64 n) := by
  have Hf := Lib.hid hf
  have Hr := Lib.hid hr
  have HR := Lib.hid hR
  have hs1 : ((s : Int) == 0) = false := by simp; omega
  clear hf hr hR
  go_enter Try.func24, Try.ntmps24
  go_wp2_with fail
  refine Hf.out.mono ?_; rintro e w' ⟨rfl, rfl⟩
  go_wp2_with fail
  refine Hr.out.mono ?_; rintro e w1 ⟨rfl, hw1⟩
  obtain ⟨c1, c2, c3, c4, c5⟩ := HR.out w1 hw1
  have HW := Lib.hid hw1
  clear hw1
  go_wp2
  go_ret
  exact ⟨rfl, w1, HW.out, rfl⟩

theorem less_lists {α : Type} (X Y R : List α) (s v : α) :
    (splice (X ++ s :: Y ++ R) X.length (((X ++ s :: Y ++ R).take (X.length + (Y.length + 1))).drop (X.length + 1))).set (X.length + Y.length) v = X ++ Y ++ v :: R := by
  have h1 : ((X ++ s :: Y ++ R).take (X.length + (Y.length + 1))).drop (X.length + 1) = Y := by
    rw [show X.length + (Y.length + 1) = (X ++ s :: Y).length from by simp, List.take_left' rfl]
    rw [List.drop_append]
    simp
  rw [h1]
  unfold splice
  have h2 : (X ++ s :: Y ++ R).take X.length = X := by rw [List.append_assoc, List.take_left' rfl]
  have h3 : ∃ u, (X ++ s :: Y ++ R).drop (X.length + Y.length) = u :: R := by
    rw [List.append_assoc, List.drop_append, List.drop_of_length_le (by omega), List.nil_append, show X.length + Y.length - X.length = Y.length from by omega]
    have : (s :: Y) ≠ [] := by simp
    refine ⟨(s :: Y).getLast this, ?_⟩
    rw [List.drop_append_of_le_length (by simp)]
    conv => lhs; rw [← List.dropLast_concat_getLast this]
    rw [List.drop_append_of_le_length (by simp), List.drop_of_length_le (by simp)]
    simp
  obtain ⟨u, hu⟩ := h3
  rw [h2, hu, ← List.append_assoc, show X.length + Y.length = (X ++ Y).length from by simp, List.set_append_right _ _ (Nat.le_refl _)]
  simp
theorem Grp.less_eq {g : Grp} {x y : List Stp} {s : Stp} (h : g.ss = x ++ s :: y) : g.less x.length = ({ g with ss := x ++ y, rest := .pointer none :: g.rest } : Grp).arr := by
  have := less_lists (x.map fun s => ptr s.b) (y.map fun s => ptr s.b) g.rest (ptr s.b) (.pointer none)
  simp only [List.length_map] at this
  unfold Grp.less behind Grp.arr
  simp only [h, List.map_append, List.map_cons, List.length_append, List.length_cons]
  rw [show x.length + (y.length + 1) - 1 = x.length + y.length from by omega]
  exact this

theorem Wf.del {O : Ord} (h : Wf O) {s : Stp} {A B : List Stp} {gs' : List Grp} (hA : stampsOf O.gs = A ++ s :: B) (hB : stampsOf gs' = A ++ B) (h0 : s.id ≠ 0)
    (full' : ∀ g, g ∈ gs' → g.ss ≠ []) (sub : (foot gs').Sublist (foot O.gs)) (tags' : gs'.Pairwise (fun g h => g.tag < h.tag)) (tagLt' : ∀ g, g ∈ gs' → g.tag < space)
    (minors' : ∀ g, g ∈ gs' → g.ss.Pairwise (fun s t => s.minor < t.minor)) (ones' : ∀ g, g ∈ gs' → ∀ v, v ∈ g.rest → v.oneCell' = true) : Wf { O with P := O.P.set s.id none, gs := gs' } := by
  have hids : idsOf O.gs = A.map (·.id) ++ s.id :: B.map (·.id) := by simp [idsOf, hA]
  have hids' : idsOf gs' = A.map (·.id) ++ B.map (·.id) := by simp [idsOf, hB]
  have hn := h.ids
  rw [hids] at hn
  have hmem : ∀ t, t ∈ stampsOf gs' → t ∈ stampsOf O.gs ∧ t.id ≠ s.id := by
    intro t ht
    rw [hB] at ht
    have hn2 := (List.nodup_append.1 hn)
    have hn3 := List.nodup_cons.1 hn2.2.1
    rw [hA]
    rcases List.mem_append.1 ht with ht | ht
    · exact ⟨by simp [ht], fun e => hn2.2.2 t.id (List.mem_map.2 ⟨t, ht, rfl⟩) s.id (by simp) e⟩
    · exact ⟨by simp [ht], fun e => hn3.1 (by rw [← e]; exact List.mem_map.2 ⟨t, ht, rfl⟩)⟩
  refine ⟨full', h.nodup.sublist sub, ?_, ?_, ?_, ?_, tags', tagLt', minors', ?_, by simpa using h.made, ones'⟩
  · show (idsOf gs').Nodup
    rw [hids']
    refine List.Nodup.sublist ?_ hn
    exact (List.Sublist.refl _).append (List.sublist_cons_self _ _)
  · intro t ht
    obtain ⟨h1, h2⟩ := hmem t ht
    show (O.P.set s.id none)[t.id]? = _
    rw [List.getElem?_set_ne (Ne.symm h2)]
    exact h.tabled t h1
  · intro i b hi
    have hi' : (O.P.set s.id none)[i]? = some (some b) := hi
    by_cases e : s.id = i
    · subst e
      rw [List.getElem?_set] at hi'
      simp at hi'
    · rw [List.getElem?_set_ne e] at hi'
      obtain ⟨t, ht, hid, hb⟩ := h.back i b hi'
      refine ⟨t, ?_, hid, hb⟩
      show t ∈ stampsOf gs'
      rw [hA] at ht
      rw [hB]
      rcases List.mem_append.1 ht with ht | ht
      · exact List.mem_append.2 (.inl ht)
      · rcases List.mem_cons.1 ht with rfl | ht
        · exact absurd hid e
        · exact List.mem_append.2 (.inr ht)
  · have hf := h.first
    show (idsOf gs')[0]? = some 0
    rw [hids'] 
    rw [hids] at hf
    cases A with
    | nil => simp at hf; exact absurd hf h0
    | cons a A => simpa using hf
  · intro t ht
    exact h.minorLt t (hmem t ht).1

theorem sublist_pairwise {α : Type} {R : α → α → Prop} {l m : List α} (h : m.Pairwise R) (hs : l.Sublist m) : l.Pairwise R := h.sublist hs

/-- Delete of a stamp that is not there, or of 0. -/
theorem delete_refused {w : World} {O : Ord} (h : Inv w O) (v : Int) (hv : look O.P v = none ∨ v = 0) :
    Calls Try.prog 24 #[.pointer (some ⟨O.lb, 0, none⟩), .int .i64 v] w fun e w' => e = .returned (.int .i64 180) ∧ w = w' := by
  have hf := find_ord h v
  by_cases hn : look O.P v = none
  · rw [hn] at hf; exact delete_no _ _ w hf
  · obtain rfl : v = 0 := hv.resolve_left hn
    obtain ⟨b, hb⟩ := Option.ne_none_iff_exists'.1 hn
    rw [hb] at hf
    exact delete_zero _ b w hf
theorem seg_reheap {w w' : World} {pv nx : Option Nat} {gs : List Grp} (h : Seg w pv gs nx) (hf : ∀ k, k ∈ foot gs → w'.heap[k]? = w.heap[k]?) : Seg w' pv gs nx := seg_frame h hf
/-- The last group of a segment leads elsewhere. -/
theorem seg_relink {w w' : World} {pv nx nx' : Option Nat} {l : List Grp} {p : Grp} (h : Seg w pv (l ++ [p]) nx) (hf : ∀ k, k ∈ foot (l ++ [p]) → k ≠ p.b → w'.heap[k]? = w.heap[k]?)
    (hnd : (foot (l ++ [p])).Nodup) (hp : w'.heap[p.b]? = some (groupObj p.tag p.ss.length p.arr (lastB pv l) nx')) : Seg w' pv (l ++ [p]) nx' := by
  rw [foot_append] at hnd
  have hd := (List.nodup_append.1 hnd).2.2
  rw [seg_append] at h ⊢
  refine ⟨?_, ⟨hp, h.2.1.2.1, fun s hs => ?_⟩, trivial⟩
  · refine seg_frame (w := w) h.1 (fun k hk => hf k (by simp [hk]) (fun e => hd k hk p.b (by simp [Grp.foot]) e))
  · have h3 := (List.nodup_append.1 hnd).2.1
    simp only [foot_cons, foot_nil, List.append_nil, Grp.foot] at h3
    rw [StampAt, hf s.b (by simp only [foot_append, foot_cons, foot_nil, List.append_nil, Grp.foot, List.mem_append, List.mem_cons, List.mem_map]; exact .inr (.inr ⟨s, hs, rfl⟩))
      (fun e => (List.nodup_cons.1 h3).1 (by rw [← e]; exact List.mem_map.2 ⟨s, hs, rfl⟩))]
    exact h.2.1.2.2 s hs

def over (gs : List Grp) : Nat := (gs.map fun g => g.ss.length - 16).sum
@[simp] theorem over_append (l r : List Grp) : over (l ++ r) = over l + over r := by simp [over]
@[simp] theorem over_cons (g : Grp) (r : List Grp) : over (g :: r) = (g.ss.length - 16) + over r := by simp [over]
@[simp] theorem over_nil : over [] = 0 := rfl
/-- What a deletion does to the order. -/
structure Shrunk (O O' : Ord) (s : Stp) (i : Nat) : Prop where
  lb : O'.lb = O.lb
  all : O'.all = O.all
  P : O'.P = O.P.set s.id none
  moves : O'.moves = O.moves
  stamps : stampsOf O'.gs = (stampsOf O.gs).eraseIdx i
  tags : (O'.gs.map (·.tag)).Sublist (O.gs.map (·.tag))
  over : over O'.gs ≤ over O.gs
  own : ∀ k, O'.own k → O.own k

theorem list_split_at {α : Type} {l : List α} {k : Nat} {s : α} (h : l[k]? = some s) : ∃ x y, l = x ++ s :: y ∧ x.length = k := by
  have hk := (List.getElem?_eq_some_iff.1 h)
  obtain ⟨hk, e⟩ := hk
  refine ⟨l.take k, l.drop (k + 1), ?_, by simp; omega⟩
  rw [← e, ← List.drop_eq_getElem_cons hk, List.take_append_drop]

/-- The blocks of an order: the list's, the table's and the chain's are apart. -/
theorem Inv.lb_foot {w : World} {O : Ord} (h : Inv w O) : O.lb ∉ foot O.gs := by
  intro hk
  obtain ⟨c, t, hc, ht⟩ := seg_kind h.seg _ hk
  have := h.list
  rw [hc] at this
  rcases ht with rfl | rfl <;> simp [listObj] at this
theorem Inv.ab_foot {w : World} {O : Ord} (h : Inv w O) {ab : Nat} (ha : O.all.ownBlock = some ab) : ab ∉ foot O.gs ∧ ab ≠ O.lb := by
  obtain ⟨ab', cap, cur, e, hg, _⟩ := h.table
  rw [e] at ha
  simp [Value.ownBlock] at ha
  subst ha
  refine ⟨fun hk => ?_, fun e2 => ?_⟩
  · obtain ⟨c, t, hc, ht⟩ := seg_kind h.seg _ hk
    rw [hc] at hg
    rcases ht with rfl | rfl <;> simp at hg
  · have := h.list
    rw [← e2, hg] at this
    simp [listObj] at this

/-- The two stores that Delete makes behind remove. -/
theorem Inv.del_stores {w w1 : World} {O : Ord} (h : Inv w O) {S : Nat → Prop} {s : Stp} {i : Nat} {gs' : List Grp} (hi : (stampsOf O.gs)[i]? = some s) (h0 : s.id ≠ 0)
    (hk : Kept S w w1) (hS : ∀ k, S k → k = O.lb ∨ k ∈ foot O.gs) (hl : w1.heap[O.lb]? = some (listObj (headB none O.gs) gs'.length O.moves O.all (stampsOf O.gs).length))
    (hh : headB none gs' = headB none O.gs) (hseg : Seg w1 none gs' none) (hst : stampsOf gs' = (stampsOf O.gs).eraseIdx i) (hwf : Wf { O with P := O.P.set s.id none, gs := gs' })
    (sub : (foot gs').Sublist (foot O.gs)) (tags : (gs'.map (·.tag)).Sublist (O.gs.map (·.tag))) (hov : over gs' ≤ over O.gs) {ab : Nat} (hab : O.all.ownBlock = some ab) :
    ∃ O', Inv ((w1.setCell ⟨ab, s.id, none⟩ (.pointer none)).setCell ⟨O.lb, 4, none⟩ (.int .i64 (((stampsOf O.gs).length - 1 : Nat) : Int))) O' ∧ Shrunk O O' s i ∧
      Kept O.own w ((w1.setCell ⟨ab, s.id, none⟩ (.pointer none)).setCell ⟨O.lb, 4, none⟩ (.int .i64 (((stampsOf O.gs).length - 1 : Nat) : Int))) := by
  obtain ⟨hab1, hab2⟩ := h.ab_foot hab
  have hlf := h.lb_foot
  have hil : i < (stampsOf O.gs).length := (List.getElem?_eq_some_iff.1 hi).1
  have hlen : (stampsOf gs').length = (stampsOf O.gs).length - 1 := by rw [hst, List.length_eraseIdx, if_pos hil]
  have hSown : ∀ k, S k → O.own k := fun k hk => (hS k hk).elim .inl (fun x => .inr (.inr x))
  have hsm := h.wf.tabled s (List.mem_of_getElem? hi)
  have hsl : s.id < O.P.length := (List.getElem?_eq_some_iff.1 hsm).1
  have habS : ¬ S ab := fun x => (hS ab x).elim hab2 hab1
  obtain ⟨h1, h2⟩ := h.row
  have hpos := h.wf.pos
  refine ⟨{ O with P := O.P.set s.id none, gs := gs' }, ⟨?_, ?_, ?_, hwf⟩, ⟨rfl, rfl, rfl, rfl, hst, tags, hov, ?_⟩, ?_⟩
  · show (World.setCell _ _ _).heap[O.lb]? = _
    rw [hh, hlen]
    refine list_set4 (n := (stampsOf O.gs).length) ?_ _
    rw [heap_set_other _ (Ne.symm hab2)]
    exact hl
  · show World.ownsRow _ 0 67 1 O.all (O.P.set s.id none).length _
    refine ⟨by simp, ?_⟩
    rcases h2 with ⟨_, h2⟩ | ⟨g, cap, cur, hv, hz, hg, hc1, hc2, hs, ht⟩
    · omega
    · have hgab : g = ab := by rw [hv] at hab; simpa [Value.ownBlock] using hab
      subst hgab
      right
      refine ⟨g, cap, cur.setIfInBounds s.id (.pointer none), by simpa using hv, hz, ?_, by simpa using hc1, hc2, by simpa using hs, ?_⟩
      · rw [heap_set_other _ hab2]
        refine heap_set_same ?_ _
        rw [hk.block g (heap_lt hg) habS]; exact hg
      · simp only [List.length_set, Array.toList_setIfInBounds, List.map_set, List.take_set]
        rw [ht]; rfl
  · refine seg_frame hseg (fun k hk => ?_)
    have hkf := sub.subset hk
    rw [heap_set_other _ (fun e => hlf (by rw [← e]; exact hkf)), heap_set_other _ (fun e => hab1 (by rw [← e]; exact hkf))]
  · intro k hk
    rcases hk with rfl | hk | hk
    · exact .inl rfl
    · exact .inr (.inl hk)
    · exact .inr (.inr (sub.subset hk))
  · exact ((hk.mono (fun k _ hs => hSown k hs)).setCell (fun _ => .inr (.inl hab)) _).setCell (fun _ => .inl rfl) _

/-- Delete of a stamp that is there and is not 0. -/
theorem delete_ord {w : World} {O : Ord} (h : Inv w O) {s : Stp} {i : Nat} (hi : (stampsOf O.gs)[i]? = some s) (h0 : s.id ≠ 0) :
    Calls Try.prog 24 #[.pointer (some ⟨O.lb, 0, none⟩), .int .i64 s.id] w fun e w' => e = .returned (.int .i64 0) ∧ ∃ O', Inv w' O' ∧ Shrunk O O' s i ∧ Kept O.own w w' := by
  have hsm := List.mem_of_getElem? hi
  have hf := find_ord h (s.id : Int)
  rw [h.wf.look_of hsm] at hf
  obtain ⟨ab, cap, cur, hall, hg, hc1, hc2, ht⟩ := h.table
  have hab : O.all.ownBlock = some ab := by rw [hall]; rfl
  obtain ⟨hab1, hab2⟩ := h.ab_foot hab
  have hlf := h.lb_foot
  obtain ⟨l, g, r, k, e, hk, hik⟩ := split_stamps hi
  have hG := h.group e
  have hgm : g ∈ O.gs := by rw [e]; simp
  have hap := h.wf.apart hgm
  obtain ⟨x, y, hss, rfl⟩ := list_split_at hk
  have hA : stampsOf O.gs = (stampsOf l ++ x) ++ s :: (y ++ stampsOf r) := by rw [e]; simp [hss]
  have hAi : i = (stampsOf l ++ x).length := by simp [hik]
  have htab := h.wf.tabled s hsm
  have hsl : s.id < O.P.length := (List.getElem?_eq_some_iff.1 htab).1
  have hcell := ht s.id _ htab
  have hn : (stampsOf O.gs).length = ((stampsOf O.gs).length - 1) + 1 := by have := (List.getElem?_eq_some_iff.1 hi).1; omega
  -- as many stamps as were made, at most
  have hle : (stampsOf O.gs).length ≤ O.P.length := by
    have h1 : (idsOf O.gs).length = (stampsOf O.gs).length := by simp [idsOf]
    rw [← h1]
    have h2 : ∀ v, v ∈ idsOf O.gs → v ∈ List.range O.P.length := by
      intro v hv
      obtain ⟨t, ht, rfl⟩ := List.mem_map.1 hv
      exact List.mem_range.2 (List.getElem?_eq_some_iff.1 (h.wf.tabled t ht)).1
    have := h.wf.ids.length_le_of_subset h2
    simpa using this
  have hmade := h.wf.made
  have fin : ∀ (S : Nat → Prop) (gs' : List Grp) (R : World → Prop),
      (∀ w1, R w1 → Kept S w w1 ∧ w1.heap[O.lb]? = some (listObj (headB none O.gs) gs'.length O.moves O.all (stampsOf O.gs).length) ∧ Seg w1 none gs' none) →
      (∀ k, S k → k = O.lb ∨ k ∈ foot O.gs) → headB none gs' = headB none O.gs → stampsOf gs' = (stampsOf O.gs).eraseIdx i → Wf { O with P := O.P.set s.id none, gs := gs' } →
      (foot gs').Sublist (foot O.gs) → (gs'.map (·.tag)).Sublist (O.gs.map (·.tag)) → over gs' ≤ over O.gs →
      Calls Try.prog 43 #[.pointer (some ⟨O.lb, 0, none⟩), .pointer (some ⟨s.b, 0, none⟩)] w (fun e w' => e = .returned (.tuple #[]) ∧ R w') →
      Calls Try.prog 24 #[.pointer (some ⟨O.lb, 0, none⟩), .int .i64 s.id] w fun e w' => e = .returned (.int .i64 0) ∧ ∃ O', Inv w' O' ∧ Shrunk O O' s i ∧ Kept O.own w w' := by
    intro S gs' R hR hS hh hst hwf sub tags hov hr
    have habS : ¬ S ab := fun x => (hS ab x).elim hab2 hab1
    refine (delete_walk O.lb ab s.b s.id ((stampsOf O.gs).length - 1) O.P.length cap w R (by omega) hsl (by omega) hf hr ?_ (Ne.symm hab2)).mono ?_
    · intro w1 hw1
      obtain ⟨hk1, hl1, _⟩ := hR w1 hw1
      have hab' : w1.heap[ab]? = some (.cells cur 67 (0, 0)) := by rw [hk1.block ab (heap_lt hg) habS]; exact hg
      refine ⟨by rw [list_c3 hl1, hall], by rw [cell_of_block hab']; exact hcell, free_of_block hab' _, ?_, list_fr hl1 4⟩
      rw [list_c4 hl1, ← hn]
    · rintro e1 w' ⟨rfl, w1, hw1, rfl⟩
      obtain ⟨hk1, hl1, hs1⟩ := hR w1 hw1
      obtain ⟨O', a, b, c⟩ := h.del_stores hi h0 hk1 hS hl1 hh hs1 hst hwf sub tags hov hab
      exact ⟨rfl, O', a, b, c⟩
  have hB : (stampsOf O.gs).eraseIdx i = (stampsOf l ++ x) ++ (y ++ stampsOf r) := by
    rw [hA, hAi, List.eraseIdx_append_of_length_le (Nat.le_refl _)]; simp
  have hseg := h.seg
  rw [e, seg_append] at hseg
  have hnd := h.wf.nodup
  rw [e, foot_append, foot_cons] at hnd
  have hnd1 := List.nodup_append.1 hnd
  have hnd2 := List.nodup_append.1 hnd1.2.1
  by_cases hxy : x ++ y = []
  · -- the group's only stamp
    obtain ⟨rfl, rfl⟩ := List.append_eq_nil_iff.1 hxy
    have hss1 : g.ss = [s] := by simpa using hss
    -- not the first group: stamp 0 stands there
    have hl0 : l ≠ [] := by
      rintro rfl
      have hf0 := h.wf.first
      rw [e] at hf0
      simp [hss1] at hf0
      exact h0 hf0
    obtain ⟨l', p, rfl⟩ : ∃ l' p, l = l' ++ [p] := ⟨l.dropLast, l.getLast hl0, (List.dropLast_concat_getLast hl0).symm⟩
    have hgb : ∀ k, k ∈ foot (l' ++ [p]) → k ≠ g.b := fun k hk eb => hnd1.2.2 k hk g.b (by simp [Grp.foot]) eb
    have hgr : ∀ k, k ∈ foot r → k ≠ g.b := fun k hk eb => hnd2.2.2 g.b (by simp [Grp.foot]) k hk eb.symm
    have hpg : g.b ≠ p.b := fun eb => hgb p.b (by simp [Grp.foot]) eb.symm
    have hG' : GroupAt w (some p.b) (headB none r) g := by have := hG; simp only [lastB_append, lastB] at this; exact this
    have hpG := h.group (l := l') (g := p) (r := g :: r) (by rw [e]; simp)
    simp only [headB] at hpG
    have hseg1 := hseg.1
    simp only [headB] at hseg1
    have hsub : (foot (l' ++ [p] ++ r)).Sublist (foot O.gs) := by
      rw [e]; simp only [foot_append, foot_cons]
      refine (List.Sublist.refl _).append ?_
      exact List.sublist_append_right _ _
    have hgsub : (l' ++ [p] ++ r).Sublist O.gs := by
      rw [e]; exact (List.Sublist.refl _).append (List.sublist_cons_self _ _)
    have hwf : Wf { O with P := O.P.set s.id none, gs := l' ++ [p] ++ r } :=
      h.wf.del (A := stampsOf (l' ++ [p])) (B := stampsOf r) (by simpa using hA) (by simp) h0 (fun g' hg' => h.wf.full g' (hgsub.subset hg')) hsub (h.wf.tags.sublist hgsub)
        (fun g' hg' => h.wf.tagLt g' (hgsub.subset hg')) (fun g' hg' => h.wf.minors g' (hgsub.subset hg')) (fun g' hg' => h.wf.ones g' (hgsub.subset hg'))
    have hmany : O.gs.length = (l' ++ [p] ++ r).length + 1 := by rw [e]; simp; omega
    have hmb : (l' ++ [p] ++ r).length < 1000000000 := by
      have : O.gs.length ≤ (stampsOf O.gs).length := by
        have aux : ∀ gs : List Grp, (∀ g, g ∈ gs → g.ss ≠ []) → gs.length ≤ (stampsOf gs).length := by
          intro gs; induction gs with
          | nil => intro _; simp
          | cons a gs ih =>
            intro hfull
            have h1 := List.length_pos_iff.2 (hfull a (by simp))
            have h2 := ih (fun g hg => hfull g (by simp [hg]))
            simp; omega
        exact aux _ h.wf.full
      omega
    have hhd : headB none (l' ++ [p] ++ r) = headB none O.gs := by rw [e]; cases l' <;> rfl
    have hlist := h.list
    rw [hmany] at hlist
    have hst' : stampsOf (l' ++ [p] ++ r) = (stampsOf O.gs).eraseIdx i := by rw [hB]; simp
    have htags : ((l' ++ [p] ++ r).map (·.tag)).Sublist (O.gs.map (·.tag)) := hgsub.map _
    have hov : over (l' ++ [p] ++ r) ≤ over O.gs := by rw [e]; simp
    have hndl := hnd1.1
    cases r with
    | nil =>
      refine fin (fun b => b = g.b ∨ b = p.b ∨ b = O.lb) (l' ++ [p] ++ []) _ ?_ ?_ hhd hst' hwf hsub htags hov
        (remove_end w O.lb g p _ s _ _ _ _ _ hG' hap hk (by simp [hss1]) hpG.1 hpG.2.1 hpg hlist hmb)
      · rintro w1 ⟨hk1, hp1, hl1⟩
        refine ⟨hk1, hl1, ?_⟩
        rw [List.append_nil]
        refine seg_relink hseg1 (fun k hk hkp => hk1.block k (seg_lt hseg1 k hk) ?_) hndl hp1
        rintro (rfl | rfl | rfl)
        · exact hgb _ hk rfl
        · exact hkp rfl
        · exact hlf (by rw [e]; simp only [foot_append] at hk ⊢; exact List.mem_append.2 (.inl hk))
      · rintro k (rfl | rfl | rfl)
        · exact .inr (mem_foot_group hgm)
        · exact .inr (mem_foot_group (by rw [e]; simp))
        · exact .inl rfl
    | cons q r =>
      have hqG := h.group (l := l' ++ [p] ++ [g]) (g := q) (r := r) (by rw [e]; simp)
      simp only [lastB_append, lastB] at hqG
      have hgq : g.b ≠ q.b := fun eb => hgr q.b (by simp [Grp.foot]) eb.symm
      have hpq : p.b ≠ q.b := fun eb => hnd1.2.2 p.b (by simp [Grp.foot]) q.b (by simp [Grp.foot]) eb
      refine fin (fun b => b = g.b ∨ b = p.b ∨ b = q.b ∨ b = O.lb) (l' ++ [p] ++ q :: r) _ ?_ ?_ hhd hst' hwf hsub htags hov
        (remove_mid w O.lb g p q _ _ s _ _ _ _ _ hG' hap hk (by simp [hss1]) hpG.1 hpG.2.1 hqG.1 hqG.2.1 hpg hgq hpq hlist hmb)
      · rintro w1 ⟨hk1, hp1, hq1, hl1⟩
        refine ⟨hk1, hl1, ?_⟩
        rw [seg_append]
        refine ⟨seg_relink hseg1 (fun k hk hkp => hk1.block k (seg_lt hseg1 k hk) ?_) hndl hp1, ?_⟩
        · rintro (rfl | rfl | rfl | rfl)
          · exact hgb _ hk rfl
          · exact hkp rfl
          · exact hnd1.2.2 _ hk q.b (by simp [Grp.foot]) rfl
          · exact hlf (by rw [e]; simp only [foot_append] at hk ⊢; exact List.mem_append.2 (.inl hk))
        · have hs2 := hseg.2.2
          simp only [lastB_append, lastB]
          have hnq := hnd2.2.1
          rw [foot_cons] at hnq
          have hnq1 := List.nodup_append.1 hnq
          refine ⟨⟨hq1, hqG.2.1, fun t ht => ?_⟩, ?_⟩
          · have htb : t.b ∈ foot (q :: r) := by simp only [foot_cons, Grp.foot, List.mem_append, List.mem_cons, List.mem_map]; exact .inl (.inr ⟨t, ht, rfl⟩)
            rw [StampAt, hk1.block t.b (heap_lt (hqG.2.2 t ht))]
            · exact hqG.2.2 t ht
            · rintro (eb | eb | eb | eb)
              · exact hgr _ htb eb
              · exact hnd1.2.2 p.b (by simp [Grp.foot]) t.b (by rw [List.mem_append]; exact .inr htb) eb.symm
              · have := hnq1.1
                simp only [Grp.foot, List.nodup_cons] at this
                exact this.1 (by rw [← eb]; exact List.mem_map.2 ⟨t, ht, rfl⟩)
              · exact hlf (by rw [e, ← eb]; simp only [foot_append, foot_cons g]; exact List.mem_append.2 (.inr (List.mem_append.2 (.inr htb))))
          · refine seg_frame hs2.2 (fun k hk => hk1.block k (seg_lt hs2.2 k hk) ?_)
            have hkr : k ∈ foot (q :: r) := by simp [hk]
            rintro (rfl | rfl | rfl | rfl)
            · exact hgr _ hkr rfl
            · exact hnd1.2.2 p.b (by simp [Grp.foot]) p.b (by rw [List.mem_append]; exact .inr hkr) rfl
            · exact hnq1.2.2 q.b (by simp [Grp.foot]) q.b hk rfl
            · exact hlf (by rw [e]; simp only [foot_append, foot_cons g]; exact List.mem_append.2 (.inr (List.mem_append.2 (.inr hkr))))
      · rintro k (rfl | rfl | rfl | rfl)
        · exact .inr (mem_foot_group hgm)
        · exact .inr (mem_foot_group (by rw [e]; simp))
        · exact .inr (mem_foot_group (by rw [e]; simp))
        · exact .inl rfl
  · -- others are left in the group
    have hxyl := List.length_pos_iff.2 hxy
    have h2 : 2 ≤ g.ss.length := by rw [hss]; simp at hxyl ⊢; omega
    have hxs : (x ++ y).Sublist g.ss := by rw [hss]; exact (List.Sublist.refl _).append (List.sublist_cons_self _ _)
    generalize hg' : ({ g with ss := x ++ y, rest := .pointer none :: g.rest } : Grp) = g'
    have hb' : g'.b = g.b := by rw [← hg']
    have htg' : g'.tag = g.tag := by rw [← hg']
    have hss' : g'.ss = x ++ y := by rw [← hg']
    have hgf : g'.foot.Sublist g.foot := by
      unfold Grp.foot; rw [hb', hss']; exact (hxs.map _).cons_cons _
    have hsub : (foot (l ++ g' :: r)).Sublist (foot O.gs) := by
      rw [e]; simp only [foot_append, foot_cons]
      exact (List.Sublist.refl _).append (hgf.append (List.Sublist.refl _))
    have hmem : ∀ z, z ∈ l ++ g' :: r → z = g' ∨ z ∈ O.gs := by
      intro z hz; rw [e]; simp at hz ⊢; rcases hz with a | a | a
      · exact .inr (.inl a)
      · exact .inl a
      · exact .inr (.inr (.inr a))
    have htags : (l ++ g' :: r).map (·.tag) = O.gs.map (·.tag) := by rw [e]; simp [htg']
    have hwf : Wf { O with P := O.P.set s.id none, gs := l ++ g' :: r } := by
      refine h.wf.del (A := stampsOf l ++ x) (B := y ++ stampsOf r) hA (by simp [hss']) h0 ?_ hsub ?_ ?_ ?_ ?_
      · intro z hz; rcases hmem z hz with rfl | hz
        · rw [hss']; exact hxy
        · exact h.wf.full z hz
      · have := h.wf.tags
        rw [← List.pairwise_map (f := fun g : Grp => g.tag)] at this ⊢
        rw [htags]; exact this
      · intro z hz; rcases hmem z hz with rfl | hz
        · rw [htg']; exact h.wf.tagLt g hgm
        · exact h.wf.tagLt z hz
      · intro z hz; rcases hmem z hz with rfl | hz
        · rw [hss']; exact (h.wf.minors g hgm).sublist hxs
        · exact h.wf.minors z hz
      · intro z hz v hv; rcases hmem z hz with rfl | hz
        · rw [← hg'] at hv
          rcases List.mem_cons.1 hv with rfl | hv
          · rfl
          · exact h.wf.ones g hgm v hv
        · exact h.wf.ones z hz v hv
    have hlen' : (l ++ g' :: r).length = O.gs.length := by rw [e]; simp
    have hhd : headB none (l ++ g' :: r) = headB none O.gs := by rw [e]; cases l <;> simp [headB, hb']
    refine fin (fun b => b = g.b) (l ++ g' :: r) _ ?_ ?_ hhd (by rw [hB]; simp [hss']) hwf hsub (by rw [htags]; exact List.Sublist.refl _) ?_ (remove_keep w O.lb g _ _ x.length s hG hap hk h2)
    · rintro w1 ⟨hk1, hg1⟩
      refine ⟨hk1, ?_, ?_⟩
      · rw [hlen', hk1.block O.lb (heap_lt h.list) (fun eb => hlf (by rw [eb]; exact mem_foot_group hgm))]; exact h.list
      · rw [seg_append]
        have hh : headB none (g' :: r) = headB none (g :: r) := by simp [headB, hb']
        rw [hh]
        have hne : ∀ k, k ∈ foot l → k ≠ g.b := fun k hk eb => hnd1.2.2 k hk g.b (by simp [Grp.foot]) eb
        have hner : ∀ k, k ∈ foot r → k ≠ g.b := fun k hk eb => hnd2.2.2 g.b (by simp [Grp.foot]) k hk eb.symm
        refine ⟨seg_frame hseg.1 (fun k hk => hk1.block k (seg_lt hseg.1 k hk) (hne k hk)), ⟨?_, ?_, ?_⟩, ?_⟩
        · rw [hb', htg', hg1, Grp.less_eq hss, hg', hss', show g.ss.length - 1 = (x ++ y).length from by rw [hss]; simp]
        · have := hG.2.1; rw [← hg']; simp only [Grp.arr, hss] at this ⊢; simp at this ⊢; omega
        · intro t ht
          rw [hss'] at ht
          have htm := hxs.subset ht
          have hnf := hnd2.1
          simp only [Grp.foot, List.nodup_cons] at hnf
          rw [StampAt, hb', hk1.block t.b (heap_lt (hG.2.2 t htm)) (fun eb => hnf.1 (by rw [← eb]; exact List.mem_map.2 ⟨t, htm, rfl⟩))]
          exact hG.2.2 t htm
        · rw [hb']; exact seg_frame hseg.2.2 (fun k hk => hk1.block k (seg_lt hseg.2.2 k hk) (hner k hk))
    · rintro k rfl; exact .inr (mem_foot_group hgm)
    · rw [e]; simp [hss', hss]; omega
end Go.Proofs.Ytijceljhpbdnnaa
