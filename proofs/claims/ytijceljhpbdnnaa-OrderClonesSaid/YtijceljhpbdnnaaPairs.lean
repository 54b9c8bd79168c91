/-
  Each function of the order beside the reference's: both answer alike. Conditions: each theorem's own hypotheses on memory.
-/
import Derived.Test.YtijceljhpbdnnaaRefE
namespace Go.Proofs.Ytijceljhpbdnnaa
open Go.RowKit

theorem seek (ids : List Nat) (v : Int) : (∃ i n : Nat, ids[i]? = some n ∧ v = n) ∨ (∀ n, n ∈ ids → (n : Int) ≠ v) := by
  by_cases h : ∃ n, n ∈ ids ∧ (n : Int) = v
  · obtain ⟨n, hn, e⟩ := h
    obtain ⟨i, hi⟩ := List.mem_iff_getElem?.1 hn
    exact .inl ⟨i, n, hi, e.symm⟩
  · exact .inr fun n hn e => h ⟨n, hn, e⟩
/-- A change of the order, seen from without. -/
structure Turn (W W' : World) (O O' : Ord) (ids' : List Nat) (made' : Nat) : Prop where
  inv : Inv W' O'
  few : ∃ S p j, Few O' S p j
  lb : O'.lb = O.lb
  ids : O'.ids = ids'
  made : O'.P.length = made'
  own : ∀ k, k < W.heap.size → O'.own k → O.own k
  kept : Kept O.own W W'
theorem Turn.same {W : World} {O : Ord} (h : Inv W O) (hf : ∃ S p j, Few O S p j) (m : Nat) : Turn W (W.drewN m) O O O.ids O.P.length :=
  ⟨h.drewN m, hf, rfl, rfl, rfl, fun _ _ h => h, (Kept.refl _ _).drewN m⟩
theorem Turn.same0 {W : World} {O : Ord} (h : Inv W O) (hf : ∃ S p j, Few O S p j) : Turn W W O O O.ids O.P.length :=
  ⟨h, hf, rfl, rfl, rfl, fun _ _ h => h, Kept.refl _ _⟩
abbrev lptr (O : Ord) : Value := .pointer (some ⟨O.lb, 0, none⟩)
/-- What the reference leaves. -/
def Left (W W' : World) (g : Nat) (ids' : List Nat) (g' cap' : Nat) : Prop := Lies W' g' cap' ids' ∧ (g' = g ∨ W.heap.size ≤ g') ∧ Kept (fun _ => False) W W'
theorem Left.same {W W' : World} {g cap : Nat} {ids : List Nat} (h : Lies W g cap ids) (hK : Kept (fun _ => False) W W') : Left W W' g ids g cap :=
  ⟨h.same (hK.block g h.lt (fun x => x)), .inl rfl, hK⟩
theorem less_both {w : World} {O : Ord} (h : Inv w O) (x y : Int) : ∃ (v : Bool) (er : Int),
    (∀ W, Inv W O → Calls Try.prog 20 #[lptr O, .int .i64 x, .int .i64 y] W fun e w' => e = .returned (.tuple #[.bool v, .int .i64 er]) ∧ ∃ m, w' = W.drewN m) ∧
    (∀ W g cap, Lies W g cap O.ids → Calls Try.prog 49 #[rlist g O.ids.length cap O.P.length, .int .i64 x, .int .i64 y] W fun e w' => e = .returned (.tuple #[.bool v, .int .i64 er]) ∧ Kept (fun _ => False) W w') := by
  have hnd : O.ids.Nodup := h.wf.ids
  rcases seek O.ids x with ⟨i, n, hi, rfl⟩ | hx
  · rcases seek O.ids y with ⟨k, m, hk, rfl⟩ | hy
    · exact ⟨decide (i < k), 0, fun W hW => less_pos hW hi hk, fun W g cap hL => ref_less_yes hL (at_pos hnd hi) (at_pos hnd hk)⟩
    · refine ⟨false, 180, fun W hW => ?_, fun W g cap hL => ref_less_no hL (at_pos hnd hi) (at_out hy) (by omega)⟩
      obtain ⟨s, _, _, hf⟩ := find_pos hW hi
      exact (less_no2 _ _ _ _ W hf (find_out hW hy)).mono fun _ _ ⟨h1, h2⟩ => ⟨h1, 0, h2.symm⟩
  · refine ⟨false, 180, fun W hW => ?_, fun W g cap hL => ?_⟩
    · exact (less_no1 _ _ _ _ W (find_out hW hx) (by have := find_ord hW y; exact this)).mono fun _ _ ⟨h1, h2⟩ => ⟨h1, 0, h2.symm⟩
    · rcases seek O.ids y with ⟨k, m, hk, rfl⟩ | hy
      · exact ref_less_no hL (at_out hx) (at_pos hnd hk) (by omega)
      · exact ref_less_no hL (at_out hx) (at_out hy) (by omega)
theorem next_both {w : World} {O : Ord} (h : Inv w O) (x : Int) : ∃ (v er : Int),
    (∀ W, Inv W O → Calls Try.prog 21 #[lptr O, .int .i64 x] W fun e w' => e = .returned (.tuple #[.int .i64 v, .int .i64 er]) ∧ ∃ m, w' = W.drewN m) ∧
    (∀ W g cap, Lies W g cap O.ids → Calls Try.prog 50 #[rlist g O.ids.length cap O.P.length, .int .i64 x, .int .i64 1] W fun e w' => e = .returned (.tuple #[.int .i64 v, .int .i64 er]) ∧ Kept (fun _ => False) W w') := by
  have hnd : O.ids.Nodup := h.wf.ids
  rcases seek O.ids x with ⟨i, n, hi, rfl⟩ | hx
  · have hil := (List.getElem?_eq_some_iff.1 hi).1
    by_cases hl : i + 1 < O.ids.length
    · have hk := List.getElem?_eq_getElem hl
      exact ⟨_, 0, fun W hW => next_pos hW hi hk, fun W g cap hL => ref_next_yes hL (at_pos hnd hi) hk⟩
    · have hl' : O.ids.length = i + 1 := by omega
      exact ⟨0, 3, fun W hW => next_end hW hi hl', fun W g cap hL => ref_next_end hL (at_pos hnd hi) hl'⟩
  · refine ⟨0, 180, fun W hW => ?_, fun W g cap hL => ref_beside_no 1 hL (at_out hx)⟩
    exact next_of _ _ _ _ W ((beside_no 41 _ _ W (find_out hW hx)).mono fun _ _ ⟨h1, h2⟩ => ⟨h1, 0, h2.symm⟩)
theorem prev_both {w : World} {O : Ord} (h : Inv w O) (x : Int) : ∃ (v er : Int),
    (∀ W, Inv W O → Calls Try.prog 22 #[lptr O, .int .i64 x] W fun e w' => e = .returned (.tuple #[.int .i64 v, .int .i64 er]) ∧ ∃ m, w' = W.drewN m) ∧
    (∀ W g cap, Lies W g cap O.ids → Calls Try.prog 50 #[rlist g O.ids.length cap O.P.length, .int .i64 x, .int .i64 (-1)] W fun e w' => e = .returned (.tuple #[.int .i64 v, .int .i64 er]) ∧ Kept (fun _ => False) W w') := by
  have hnd : O.ids.Nodup := h.wf.ids
  rcases seek O.ids x with ⟨i, n, hi, rfl⟩ | hx
  · have hil := (List.getElem?_eq_some_iff.1 hi).1
    cases i with
    | zero => exact ⟨0, 3, fun W hW => prev_end hW hi, fun W g cap hL => ref_prev_end hL (at_pos hnd hi)⟩
    | succ i =>
      have hk := List.getElem?_eq_getElem (show i < O.ids.length by omega)
      refine ⟨_, 0, fun W hW => prev_pos hW hi hk, fun W g cap hL => ref_prev_yes hL ?_ hk hil⟩
      have := at_pos (g := g) (cap := cap) (made := O.P.length) hnd hi
      rwa [Int.natCast_add] at this
  · refine ⟨0, 180, fun W hW => ?_, fun W g cap hL => ref_beside_no (-1) hL (at_out hx)⟩
    exact prev_of _ _ _ _ W ((beside_no 42 _ _ W (find_out hW hx)).mono fun _ _ ⟨h1, h2⟩ => ⟨h1, 0, h2.symm⟩)
theorem has_both {w : World} {O : Ord} (h : Inv w O) (x : Int) : ∃ r : Int,
    (∀ W, Inv W O → Calls Try.prog 25 #[lptr O, .int .i64 x] W fun e w' => e = .returned (.bool (decide (0 ≤ r))) ∧ W = w') ∧
    (∀ W g cap, Lies W g cap O.ids → Calls Try.prog 51 #[rlist g O.ids.length cap O.P.length, .int .i64 x] W fun e w' => e = .returned (.int .i64 r) ∧ w' = W.alloc (rbox g O.ids.length cap O.P.length)) := by
  have hnd : O.ids.Nodup := h.wf.ids
  rcases seek O.ids x with ⟨i, n, hi, rfl⟩ | hx
  · refine ⟨i, fun W hW => ?_, fun W g cap hL => at_pos hnd hi W hL⟩
    obtain ⟨s, _, _, hf⟩ := find_pos hW hi
    have := has_of _ _ _ W hf
    rw [decide_eq_true (Int.natCast_nonneg i)]
    exact this
  · exact ⟨-1, fun W hW => by rw [show decide ((0 : Int) ≤ -1) = false by decide]; exact has_of _ _ none W (find_out hW hx), fun W g cap hL => at_out hx W hL⟩
theorem insert_both {w : World} {O : Ord} (h : Inv w O) (hf : ∃ S p j, Few O S p j) (x : Int) : ∃ (s er : Int) (ids' : List Nat) (made' : Nat), made' ≤ O.P.length + 1 ∧
    (∀ W, Inv W O → Calls Try.prog 16 #[lptr O, .int .i64 x] W fun e w' => e = .returned (.tuple #[.int .i64 s, .int .i64 er]) ∧ ∃ O', Turn W w' O O' ids' made') ∧
    (∀ W g cap, Lies W g cap O.ids → Calls Try.prog 46 #[rlist g O.ids.length cap O.P.length, .int .i64 x] W fun e w' => ∃ g' cap', e = .returned (.tuple #[rlist g' ids'.length cap' made', .int .i64 s, .int .i64 er]) ∧ Left W w' g ids' g' cap') := by
  have hnd : O.ids.Nodup := h.wf.ids
  rcases seek O.ids x with ⟨i, n, hi, rfl⟩ | hx
  · have hil := (List.getElem?_eq_some_iff.1 hi).1
    by_cases hm : O.P.length < 100000
    · have hlen : O.ids.length < 100000 := by have := h.wf.stamps_le; rw [len_ids] at this; omega
      refine ⟨O.P.length, 0, putId O.ids i O.P.length, O.P.length + 1, Nat.le_refl _, fun W hW => ?_, fun W g cap hL => ?_⟩
      · obtain ⟨S, p, j, hf⟩ := hf
        refine (insert_pos hW hf hi hm).mono ?_
        rintro _ w' ⟨rfl, O', S', p', j', k1, k2, k3, k4⟩
        exact ⟨rfl, O', k1, ⟨S', p', j', k2⟩, k3.lb, k3.ids, k3.made, k3.own, k4⟩
      · refine (ref_insert_yes hL (at_pos hnd hi) hil hlen hm).mono ?_
        rintro _ w' ⟨g', cap', rfl, k1, k2, k3⟩
        have e : (putId O.ids i O.P.length).length = O.ids.length + 1 := by
          unfold putId
          simp
          omega
        exact ⟨g', cap', by rw [e], k1, .inr k2, k3⟩
    · refine ⟨0, 2, O.ids, O.P.length, by omega, fun W hW => ?_, fun W g cap hL => ?_⟩
      · obtain ⟨s, _, _, hfd⟩ := find_pos hW hi
        obtain ⟨ab, cap, cur, hall, _⟩ := hW.table
        have c := list_c3 hW.list
        rw [hall] at c
        refine (insert_long _ _ _ _ _ _ W hfd c (by omega)).mono ?_
        rintro _ _ ⟨rfl, rfl⟩
        exact ⟨rfl, O, Turn.same0 hW hf⟩
      · refine (ref_insert_long hL (at_pos hnd hi) (by omega)).mono ?_
        rintro _ w' ⟨rfl, hK⟩
        exact ⟨g, cap, rfl, Left.same hL hK⟩
  · refine ⟨0, 180, O.ids, O.P.length, by omega, fun W hW => ?_, fun W g cap hL => ?_⟩
    · refine (insert_out hW hx).mono ?_
      rintro _ _ ⟨rfl, rfl⟩
      exact ⟨rfl, O, Turn.same0 hW hf⟩
    · refine (ref_insert_no hL (at_out hx)).mono ?_
      rintro _ w' ⟨rfl, hK⟩
      exact ⟨g, cap, rfl, Left.same hL hK⟩
theorem first_id {O : Ord} (h : Wf O) : O.ids[0]? = some 0 := h.first
theorem delete_both {w : World} {O : Ord} (h : Inv w O) (hf : ∃ S p j, Few O S p j) (x : Int) : ∃ (er : Int) (ids' : List Nat),
    (∀ W, Inv W O → Calls Try.prog 24 #[lptr O, .int .i64 x] W fun e w' => e = .returned (.int .i64 er) ∧ ∃ O', Turn W w' O O' ids' O.P.length) ∧
    (∀ W g cap, Lies W g cap O.ids → Calls Try.prog 47 #[rlist g O.ids.length cap O.P.length, .int .i64 x] W fun e w' => ∃ g' cap', e = .returned (.tuple #[rlist g' ids'.length cap' O.P.length, .int .i64 er]) ∧ Left W w' g ids' g' cap') := by
  have hnd : O.ids.Nodup := h.wf.ids
  have refuse : ∀ r : Int, r < 1 → (∀ g cap, AtIs g cap O.P.length O.ids x r) → ((∀ n, n ∈ O.ids → (n : Int) ≠ x) ∨ x = 0) → ∃ (er : Int) (ids' : List Nat),
    (∀ W, Inv W O → Calls Try.prog 24 #[lptr O, .int .i64 x] W fun e w' => e = .returned (.int .i64 er) ∧ ∃ O', Turn W w' O O' ids' O.P.length) ∧
    (∀ W g cap, Lies W g cap O.ids → Calls Try.prog 47 #[rlist g O.ids.length cap O.P.length, .int .i64 x] W fun e w' => ∃ g' cap', e = .returned (.tuple #[rlist g' ids'.length cap' O.P.length, .int .i64 er]) ∧ Left W w' g ids' g' cap') := by
    intro r hr ha ho
    refine ⟨180, O.ids, fun W hW => ?_, fun W g cap hL => ?_⟩
    · refine (delete_out hW ho).mono ?_
      rintro _ _ ⟨rfl, rfl⟩
      exact ⟨rfl, O, Turn.same0 hW hf⟩
    · refine (ref_delete_no hL (ha g cap) hr).mono ?_
      rintro _ w' ⟨rfl, hK⟩
      exact ⟨g, cap, rfl, Left.same hL hK⟩
  rcases seek O.ids x with ⟨i, n, hi, rfl⟩ | hx
  · have hil := (List.getElem?_eq_some_iff.1 hi).1
    by_cases h0 : i = 0
    · subst h0
      have h1 := first_id h.wf
      rw [hi] at h1
      exact refuse 0 (by omega) (fun g cap => at_pos hnd hi) (.inr (by simp only [Option.some.injEq] at h1; rw [h1]; rfl))
    · obtain ⟨s, hs, hid⟩ := stamp_of hi
      have hs0 : s.id ≠ 0 := ids_pos h.wf hs (by omega)
      refine ⟨0, O.ids.take i ++ O.ids.drop (i + 1), fun W hW => ?_, fun W g cap hL => ?_⟩
      · have := delete_ord hW hs hs0
        rw [hid] at this
        refine this.mono ?_
        rintro _ w' ⟨rfl, O', k1, k2, k3⟩
        obtain ⟨S, p, j, hf⟩ := hf
        refine ⟨rfl, O', k1, ⟨S, p, j, hf.shrunk k2⟩, k2.lb, ?_, by rw [k2.P]; simp, fun k _ hk => k2.own k hk, k3⟩
        show idsOf O'.gs = _
        unfold idsOf
        rw [k2.stamps, List.eraseIdx_eq_take_drop_succ, List.map_append, List.map_take, List.map_drop]
        rfl
      · refine (ref_delete_yes hL (at_pos hnd hi) (by omega) hil).mono ?_
        rintro _ w' ⟨g', cap', rfl, k1, k2, k3⟩
        have e : (O.ids.take i ++ O.ids.drop (i + 1)).length = O.ids.length - 1 := by simp; omega
        exact ⟨g', cap', by rw [e], k1, .inr k2, k3⟩
  · exact refuse (-1) (by omega) (fun g cap => at_out hx) (.inl hx)
theorem between_both {w : World} {O : Ord} (h : Inv w O) (hf : ∃ S p j, Few O S p j) (x y : Int) : ∃ (s er : Int) (ids' : List Nat),
    (∀ W, Inv W O → Calls Try.prog 28 #[lptr O, .int .i64 x, .int .i64 y] W fun e w' => e = .returned (.tuple #[.int .i64 s, .int .i64 er]) ∧ ∃ O', Turn W w' O O' ids' O.P.length) ∧
    (∀ W g cap, Lies W g cap O.ids → Calls Try.prog 48 #[rlist g O.ids.length cap O.P.length, .int .i64 x, .int .i64 y] W fun e w' => ∃ g' cap', e = .returned (.tuple #[rlist g' ids'.length cap' O.P.length, .int .i64 s, .int .i64 er]) ∧ Left W w' g ids' g' cap') := by
  have hnd : O.ids.Nodup := h.wf.ids
  rcases seek O.ids x with ⟨i, n, hi, rfl⟩ | hx
  · have hil := (List.getElem?_eq_some_iff.1 hi).1
    rcases seek O.ids y with ⟨k, m, hk, rfl⟩ | hy
    · have hkl := (List.getElem?_eq_some_iff.1 hk).1
      obtain ⟨s, hs, hsid⟩ := stamp_of hi
      obtain ⟨t, ht, htid⟩ := stamp_of hk
      by_cases hik : i < k
      · refine ⟨((k - i - 1 : Nat) : Int), 0, O.ids.take (i + 1) ++ O.ids.drop k, fun W hW => ?_, fun W g cap hL => ?_⟩
        · have := db_yes hW hs ht hik
          rw [hsid, htid] at this
          refine this.mono ?_
          rintro _ w' ⟨rfl, O', hB⟩
          obtain ⟨S, p, j, hf⟩ := hf
          refine ⟨rfl, O', hB.inv, ⟨S, p, j, hf.fewer hB.few.len hB.few.moves hB.few.tags hB.few.over⟩, hB.few.lb, ?_, hB.few.len, fun q _ hq => hB.few.own q hq, hB.kept⟩
          show idsOf O'.gs = _
          unfold idsOf
          rw [hB.stamps, List.map_append, List.map_take, List.map_drop, show i + 1 + (k - i - 1) = k by omega]
          rfl
        · refine (ref_between_yes hL (at_pos hnd hi) (at_pos hnd hk) hik hkl).mono ?_
          rintro _ w' ⟨g', cap', rfl, k1, k2, k3⟩
          have e : (O.ids.take (i + 1) ++ O.ids.drop k).length = i + 1 + (O.ids.length - k) := by simp; omega
          exact ⟨g', cap', by rw [e], k1, .inr k2, k3⟩
      · refine ⟨0, 3, O.ids, fun W hW => ?_, fun W g cap hL => ?_⟩
        · obtain ⟨s', hs', hsid', hfs⟩ := find_pos hW hi
          obtain ⟨t', ht', htid', hft⟩ := find_pos hW hk
          have hl := less_ord hW hs' ht'
          rw [decide_eq_false hik] at hl
          refine (db_none _ _ _ _ _ W hfs hft hl).mono ?_
          rintro _ w' ⟨rfl, m, rfl⟩
          exact ⟨rfl, O, Turn.same hW hf m⟩
        · refine (ref_between_none hL (at_pos hnd hi) (at_pos hnd hk) (by omega)).mono ?_
          rintro _ w' ⟨rfl, hK⟩
          exact ⟨g, cap, rfl, Left.same hL hK⟩
    · refine ⟨0, 180, O.ids, fun W hW => ?_, fun W g cap hL => ?_⟩
      · obtain ⟨s, _, _, hfs⟩ := find_pos hW hi
        refine (db_no2 _ _ _ _ W hfs (find_out hW hy)).mono ?_
        rintro _ w' ⟨rfl, rfl⟩
        exact ⟨rfl, O, Turn.same0 hW hf⟩
      · refine (ref_between_no hL (at_pos hnd hi) (at_out hy) (by omega)).mono ?_
        rintro _ w' ⟨rfl, hK⟩
        exact ⟨g, cap, rfl, Left.same hL hK⟩
  · refine ⟨0, 180, O.ids, fun W hW => ?_, fun W g cap hL => ?_⟩
    · refine (db_no1 _ _ _ _ W (find_out hW hx) (find_ord hW y)).mono ?_
      rintro _ w' ⟨rfl, rfl⟩
      exact ⟨rfl, O, Turn.same0 hW hf⟩
    · have hy : ∃ r, AtIs g cap O.P.length O.ids y r := by
        rcases seek O.ids y with ⟨k, m, hk, rfl⟩ | hy
        · exact ⟨k, at_pos hnd hk⟩
        · exact ⟨-1, at_out hy⟩
      obtain ⟨r, hr⟩ := hy
      refine (ref_between_no hL (at_out hx) hr (by omega)).mono ?_
      rintro _ w' ⟨rfl, hK⟩
      exact ⟨g, cap, rfl, Left.same hL hK⟩
theorem delete_both' {w : World} {O : Ord} (h : Inv w O) (hf : ∃ S p j, Few O S p j) (x : Int) : ∃ (er : Int) (ids' : List Nat) (made' : Nat), made' ≤ O.P.length + 1 ∧
    (∀ W, Inv W O → Calls Try.prog 24 #[lptr O, .int .i64 x] W fun e w' => e = .returned (.int .i64 er) ∧ ∃ O', Turn W w' O O' ids' made') ∧
    (∀ W g cap, Lies W g cap O.ids → Calls Try.prog 47 #[rlist g O.ids.length cap O.P.length, .int .i64 x] W fun e w' => ∃ g' cap', e = .returned (.tuple #[rlist g' ids'.length cap' made', .int .i64 er]) ∧ Left W w' g ids' g' cap') := by
  obtain ⟨er, ids', hA, hB⟩ := delete_both h hf x
  exact ⟨er, ids', O.P.length, by omega, hA, hB⟩
theorem between_both' {w : World} {O : Ord} (h : Inv w O) (hf : ∃ S p j, Few O S p j) (x y : Int) : ∃ (s er : Int) (ids' : List Nat) (made' : Nat), made' ≤ O.P.length + 1 ∧
    (∀ W, Inv W O → Calls Try.prog 28 #[lptr O, .int .i64 x, .int .i64 y] W fun e w' => e = .returned (.tuple #[.int .i64 s, .int .i64 er]) ∧ ∃ O', Turn W w' O O' ids' made') ∧
    (∀ W g cap, Lies W g cap O.ids → Calls Try.prog 48 #[rlist g O.ids.length cap O.P.length, .int .i64 x, .int .i64 y] W fun e w' => ∃ g' cap', e = .returned (.tuple #[rlist g' ids'.length cap' made', .int .i64 s, .int .i64 er]) ∧ Left W w' g ids' g' cap') := by
  obtain ⟨s, er, ids', hA, hB⟩ := between_both h hf x y
  exact ⟨s, er, ids', O.P.length, by omega, hA, hB⟩
end Go.Proofs.Ytijceljhpbdnnaa
