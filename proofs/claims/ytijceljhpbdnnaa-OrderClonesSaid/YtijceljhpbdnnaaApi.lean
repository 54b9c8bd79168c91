/-
  The functions of an order, by place. Conditions: each theorem's own hypotheses on memory.
-/
import Derived.Test.YtijceljhpbdnnaaInsertO
namespace Go.Proofs.Ytijceljhpbdnnaa
open Go.RowKit

/-- Where a number stands: a stamp of that number at that place. -/
theorem stamp_of {O : Ord} {i n : Nat} (h : O.ids[i]? = some n) : ∃ s, (stampsOf O.gs)[i]? = some s ∧ s.id = n := by
  unfold Ord.ids idsOf at h
  rw [List.getElem?_map, Option.map_eq_some_iff] at h
  exact h
theorem len_ids {O : Ord} : (stampsOf O.gs).length = O.ids.length := by simp [Ord.ids, idsOf]
variable {w : World} {O : Ord}
theorem insert_pos {S p j : Nat} (h : Inv w O) (hf : Few O S p j) {i n : Nat} (hi : O.ids[i]? = some n) (hmade : O.P.length < 100000) :
    Calls Try.prog 16 #[.pointer (some ⟨O.lb, 0, none⟩), .int .i64 n] w fun e w' => e = .returned (.tuple #[.int .i64 O.P.length, .int .i64 0]) ∧
      ∃ O' S' p' j', Inv w' O' ∧ Few O' S' p' j' ∧ Grown w O O' i ∧ Kept O.own w w' := by
  obtain ⟨s, hs, rfl⟩ := stamp_of hi
  exact insert_ord h hf hs hmade
theorem find_pos (h : Inv w O) {i n : Nat} (hi : O.ids[i]? = some n) :
    ∃ s, (stampsOf O.gs)[i]? = some s ∧ s.id = n ∧ Calls Try.prog 34 #[.pointer (some ⟨O.lb, 0, none⟩), .int .i64 n] w fun e w' => e = .returned (.pointer (some ⟨s.b, 0, none⟩)) ∧ w = w' := by
  obtain ⟨s, hs, rfl⟩ := stamp_of hi
  have := find_ord h (s.id : Int)
  rw [h.wf.look_of (List.mem_of_getElem? hs)] at this
  exact ⟨s, hs, rfl, this⟩
theorem less_pos (h : Inv w O) {i k a b : Nat} (hi : O.ids[i]? = some a) (hk : O.ids[k]? = some b) :
    Calls Try.prog 20 #[.pointer (some ⟨O.lb, 0, none⟩), .int .i64 a, .int .i64 b] w fun e w' => e = .returned (.tuple #[.bool (decide (i < k)), .int .i64 0]) ∧ ∃ m, w' = w.drewN m := by
  obtain ⟨s, hs, _, hf⟩ := find_pos h hi
  obtain ⟨t, ht, _, hg⟩ := find_pos h hk
  exact less_yes _ _ _ _ _ _ w hf hg (less_ord h hs ht)
theorem next_pos (h : Inv w O) {i a b : Nat} (hi : O.ids[i]? = some a) (hk : O.ids[i + 1]? = some b) :
    Calls Try.prog 21 #[.pointer (some ⟨O.lb, 0, none⟩), .int .i64 a] w fun e w' => e = .returned (.tuple #[.int .i64 b, .int .i64 0]) ∧ ∃ m, w' = w.drewN m := by
  obtain ⟨s, hs, _, hf⟩ := find_pos h hi
  obtain ⟨t, ht, htb, _⟩ := find_pos h hk
  have hfo := follow_ord h hs
  rw [ht] at hfo
  obtain ⟨g, _, _, hst⟩ := seg_stamp h.seg (List.mem_of_getElem? ht)
  refine next_of _ _ _ _ w (beside_yes41 _ _ s.b t.b _ w ?_ hf hfo)
  rw [← htb]; exact stamp_c0 hst
theorem next_end (h : Inv w O) {i a : Nat} (hi : O.ids[i]? = some a) (hk : O.ids.length = i + 1) :
    Calls Try.prog 21 #[.pointer (some ⟨O.lb, 0, none⟩), .int .i64 a] w fun e w' => e = .returned (.tuple #[.int .i64 0, .int .i64 3]) ∧ ∃ m, w' = w.drewN m := by
  obtain ⟨s, hs, _, hf⟩ := find_pos h hi
  have hfo := follow_ord h hs
  rw [List.getElem?_eq_none (by rw [len_ids]; omega)] at hfo
  exact next_of _ _ _ _ w (beside_none41 _ _ s.b w hf hfo)
theorem prev_pos (h : Inv w O) {i a b : Nat} (hi : O.ids[i + 1]? = some a) (hk : O.ids[i]? = some b) :
    Calls Try.prog 22 #[.pointer (some ⟨O.lb, 0, none⟩), .int .i64 a] w fun e w' => e = .returned (.tuple #[.int .i64 b, .int .i64 0]) ∧ ∃ m, w' = w.drewN m := by
  obtain ⟨s, hs, _, hf⟩ := find_pos h hi
  obtain ⟨t, ht, htb, _⟩ := find_pos h hk
  have hfo := ahead_ord h hs
  rw [if_neg (by omega), Nat.add_sub_cancel, ht] at hfo
  obtain ⟨g, _, _, hst⟩ := seg_stamp h.seg (List.mem_of_getElem? ht)
  refine prev_of _ _ _ _ w (beside_yes42 _ _ s.b t.b _ w ?_ hf hfo)
  rw [← htb]; exact stamp_c0 hst
theorem prev_end (h : Inv w O) {a : Nat} (hi : O.ids[0]? = some a) :
    Calls Try.prog 22 #[.pointer (some ⟨O.lb, 0, none⟩), .int .i64 a] w fun e w' => e = .returned (.tuple #[.int .i64 0, .int .i64 3]) ∧ ∃ m, w' = w.drewN m := by
  obtain ⟨s, hs, _, hf⟩ := find_pos h hi
  have hfo := ahead_ord h hs
  rw [if_pos rfl] at hfo
  exact prev_of _ _ _ _ w (beside_none42 _ _ s.b w hf hfo)
theorem len_pos (h : Inv w O) : Calls Try.prog 23 #[.pointer (some ⟨O.lb, 0, none⟩)] w fun e w' => e = .returned (.int .i64 O.ids.length) ∧ w = w' := by
  rw [← len_ids]; exact len_at O.lb _ w (list_c4 h.list)
theorem made_pos (h : Inv w O) : Calls Try.prog 14 #[.pointer (some ⟨O.lb, 0, none⟩)] w fun e w' => e = .returned (.int .i64 O.P.length) ∧ w = w' := by
  obtain ⟨ab, cap, cur, hall, _⟩ := h.table
  have c := list_c3 h.list
  rw [hall] at c
  exact made_at O.lb _ _ _ w c
theorem moves_pos (h : Inv w O) : Calls Try.prog 17 #[.pointer (some ⟨O.lb, 0, none⟩)] w fun e w' => e = .returned (.int .i64 O.moves) ∧ w = w' := moves_at O.lb _ w (list_c2 h.list)
/-- A number that is not there. -/
theorem look_none (h : Wf O) {v : Int} (hv : ∀ n, n ∈ O.ids → (n : Int) ≠ v) : look O.P v = none := by
  cases hl : look O.P v with
  | none => rfl
  | some b =>
    obtain ⟨s, hs, e, _⟩ := h.look_some hl
    exact absurd e.symm (hv s.id (List.mem_map.2 ⟨s, hs, rfl⟩))
theorem find_out (h : Inv w O) {v : Int} (hv : ∀ n, n ∈ O.ids → (n : Int) ≠ v) :
    Calls Try.prog 34 #[.pointer (some ⟨O.lb, 0, none⟩), .int .i64 v] w fun e w' => e = .returned (.pointer none) ∧ w = w' := by
  have := find_ord h v
  rwa [look_none h.wf hv] at this
theorem insert_out (h : Inv w O) {v : Int} (hv : ∀ n, n ∈ O.ids → (n : Int) ≠ v) :
    Calls Try.prog 16 #[.pointer (some ⟨O.lb, 0, none⟩), .int .i64 v] w fun e w' => e = .returned (.tuple #[.int .i64 0, .int .i64 180]) ∧ w = w' := insert_no _ _ w (find_out h hv)
theorem delete_out (h : Inv w O) {v : Int} (hv : (∀ n, n ∈ O.ids → (n : Int) ≠ v) ∨ v = 0) :
    Calls Try.prog 24 #[.pointer (some ⟨O.lb, 0, none⟩), .int .i64 v] w fun e w' => e = .returned (.int .i64 180) ∧ w = w' :=
  delete_refused h v (hv.imp (look_none h.wf) id)
end Go.Proofs.Ytijceljhpbdnnaa
