/-
  after over a whole order. Conditions: each theorem's own hypotheses on memory.
-/
import Derived.Test.YtijceljhpbdnnaaAfterC
namespace Go.Proofs.Ytijceljhpbdnnaa
open Go.RowKit

/-- The tag ahead of which a new group must stay. -/
def high : List Grp → Nat
  | [] => space
  | x :: _ => x.tag
theorem nodup_lt : ∀ (n : Nat) (l : List Nat), l.Nodup → (∀ x, x ∈ l → x < n) → l.length ≤ n := by
  intro n
  induction n with
  | zero =>
    intro l _ h
    cases l with
    | nil => simp
    | cons x l => exact absurd (h x (by simp)) (by omega)
  | succ n ih =>
    intro l nd h
    by_cases hn : n ∈ l
    · have h1 := ih (l.erase n) (nd.erase n) (fun x hx => by
        have h2 := (List.Nodup.mem_erase_iff nd).1 hx
        have h3 := h x h2.2
        have h4 := h2.1
        omega)
      rw [List.length_erase_of_mem hn] at h1
      omega
    · have h1 := ih l nd (fun x hx => by
        have h3 := h x hx
        have h4 : x ≠ n := fun e => hn (e ▸ hx)
        omega)
      omega
theorem Wf.stamps_le {O : Ord} (h : Wf O) : (stampsOf O.gs).length ≤ O.P.length := by
  have := nodup_lt O.P.length (idsOf O.gs) h.ids (fun x hx => by
    obtain ⟨s, hs, rfl⟩ := List.mem_map.1 hx
    exact (List.getElem?_eq_some_iff.1 (h.tabled s hs)).1)
  simpa [idsOf] using this
theorem full_le {gs : List Grp} (h : ∀ g, g ∈ gs → g.ss ≠ []) : gs.length ≤ (stampsOf gs).length := by
  induction gs with
  | nil => simp
  | cons g gs ih =>
    have h1 := ih (fun x hx => h x (by simp [hx]))
    have h2 : 0 < g.ss.length := List.length_pos_iff.2 (h g (by simp))
    simp; omega
theorem Wf.groups_le {O : Ord} (h : Wf O) : O.gs.length ≤ 100000 := by
  have h1 := h.stamps_le
  have h2 := full_le h.full
  have h3 := h.made
  omega
theorem tagOf_lt {n j : Nat} (hn : n ≤ 100000) (h : j < n) : tagOf n j < space := by
  unfold tagOf space
  have h1 : (n + 1) * (1099511627776 / (n + 1)) ≤ 1099511627776 := Nat.mul_div_le _ _
  have h2 : 0 < 1099511627776 / (n + 1) := Nat.div_pos (by omega) (by omega)
  have h3 : (j + 1) * (1099511627776 / (n + 1)) < (n + 1) * (1099511627776 / (n + 1)) := Nat.mul_lt_mul_of_pos_right (by omega) h2
  omega
theorem tagOf_mono {n j k : Nat} (hn : n ≤ 100000) (h : j < k) : tagOf n j < tagOf n k := by
  unfold tagOf
  have h2 : 0 < 1099511627776 / (n + 1) := Nat.div_pos (by omega) (by omega)
  exact Nat.mul_lt_mul_of_pos_right (by omega) h2
theorem spread_pairwise {gs : List Grp} (hn : gs.length ≤ 100000) : (spreadGs gs).Pairwise (fun g h => g.tag < h.tag) := by
  rw [List.pairwise_iff_getElem]
  intro i j hi hj hij
  simp only [spreadGs, List.getElem_mapIdx]
  exact tagOf_mono hn hij
theorem spread_lt {gs : List Grp} (hn : gs.length ≤ 100000) : ∀ g, g ∈ spreadGs gs → g.tag < space := by
  intro g hg
  obtain ⟨i, hi, rfl⟩ := List.getElem_of_mem hg
  simp only [spreadGs, List.getElem_mapIdx]
  exact tagOf_lt hn (by simpa [spreadGs] using hi)
theorem tag_high {l r : List Grp} {g : Grp} (hp : (l ++ g :: r).Pairwise (fun g h => g.tag < h.tag)) (hl : ∀ x, x ∈ l ++ g :: r → x.tag < space) : g.tag < high r := by
  cases r with
  | nil => exact hl g (by simp)
  | cons x r =>
    have := (List.pairwise_append.1 hp).2.1
    exact (List.pairwise_cons.1 this).1 x (by simp)
theorem room_of (w : World) (bx : Nat) (l r : List Grp) (g : Grp) (hS : Seg w none (l ++ g :: r) none) (h1 : g.tag < high r) (h2 : ∀ x, x ∈ l ++ g :: r → x.tag < space)
    (c1 : w.cell? ⟨bx, 0, none⟩ = some (.pointer (some ⟨g.b, 0, none⟩))) :
    Calls Try.prog 58 #[.pointer (some ⟨bx, 0, none⟩)] w fun e w' => e = .returned (.tuple #[.int .i64 ((g.tag + (high r - g.tag) / 2 : Nat) : Int), .bool (decide (2 ≤ high r - g.tag))]) ∧ ∃ m, w' = w.drewN m := by
  have hG := (seg_append.1 hS).2.1
  have c2 := group_c35 hG.1 hG.2.1
  have c3 := group_c0 hG.1
  cases r with
  | nil => exact room_last bx g.b g.tag w h1 c1 c2 c3
  | cons x r =>
    have hX := (seg_append.1 hS).2.2.1
    exact room_next bx g.b x.b g.tag x.tag w h1 (h2 x (by simp)) c1 c2 c3 (group_c0 hX.1)

/-- What a new group behind g does to the tags. -/
def Turned (gs : List Grp) (moves : Nat) (l : List Grp) (g : Grp) (r l' : List Grp) (g' : Grp) (r' : List Grp) (mv : Nat) : Prop :=
  (l' = l ∧ g' = g ∧ r' = r ∧ mv = moves ∧ 2 ≤ high r - g.tag) ∨ (l' ++ g' :: r' = spreadGs gs ∧ l'.length = l.length ∧ mv ≤ moves + gs.length ∧ high r - g.tag < 2)
theorem after_ord {w : World} {O : Ord} (h : Inv w O) {l r : List Grp} {g : Grp} (e : O.gs = l ++ g :: r) (hmv : O.moves ≤ 1000000000000) :
    Calls Try.prog 52 #[.pointer (some ⟨O.lb, 0, none⟩), .pointer (some ⟨g.b, 0, none⟩)] w fun en w' => ∃ hb l' g' r' mv, en = .returned (.pointer (some ⟨hb, 0, none⟩)) ∧
      Afters w w' O.lb l' g' r' (headB none O.gs) O.gs.length mv O.all (stampsOf O.gs).length (g'.tag + (high r' - g'.tag) / 2) hb ∧ g'.core = g.core ∧ (l' ++ g' :: r').map Grp.core = O.gs.map Grp.core ∧
      Turned O.gs O.moves l g r l' g' r' mv := by
  have hlen := h.wf.groups_le
  have hS : Seg w none (l ++ g :: r) none := by rw [← e]; exact h.seg
  have nd : (foot (l ++ g :: r)).Nodup := by rw [← e]; exact h.wf.nodup
  have hp : (l ++ g :: r).Pairwise (fun g h => g.tag < h.tag) := by rw [← e]; exact h.wf.tags
  have hlt : ∀ x, x ∈ l ++ g :: r → x.tag < space := by rw [← e]; exact h.wf.tagLt
  have hgl : g.b < w.heap.size := seg_lt hS _ (mem_foot_group (by simp))
  have hroom := room_of (gbox w g.b) w.heap.size l r g (seg_box (n := 0) hS) (tag_high hp hlt) hlt (by rw [cell_of_block (heap_alloc_at _ _)]; rfl)
  by_cases h2 : 2 ≤ high r - g.tag
  · rw [decide_eq_true h2] at hroom
    cases r with
    | nil =>
      refine (after_ok_last w O.lb l g _ _ _ _ _ _ hroom hS nd h.list (by omega)).mono ?_
      rintro _ w' ⟨hb, rfl, ha⟩
      exact ⟨hb, l, g, [], _, rfl, ha, rfl, by rw [e], .inl ⟨rfl, rfl, rfl, rfl, h2⟩⟩
    | cons x r =>
      refine (after_ok_next w O.lb l r g x _ _ _ _ _ _ hroom hS nd h.list (by omega)).mono ?_
      rintro _ w' ⟨hb, rfl, ha⟩
      exact ⟨hb, l, g, x :: r, _, rfl, ha, rfl, by rw [e], .inl ⟨rfl, rfl, rfl, rfl, h2⟩⟩
  · rw [decide_eq_false h2] at hroom
    obtain ⟨l', g', r', e', hl', hc, ht⟩ := spread_at (l := l) (g := g) (r := r)
    rw [← e] at e'
    have eb : g'.b = g.b := congrArg (fun c : Nat × List Stp × List Value => c.1) hc
    have hp' : (l' ++ g' :: r').Pairwise (fun g h => g.tag < h.tag) := by rw [← e']; exact spread_pairwise hlen
    have hlt' : ∀ x, x ∈ l' ++ g' :: r' → x.tag < space := by rw [← e']; exact spread_lt hlen
    have hroom2 : ∀ W : World, W.cell? ⟨w.heap.size, 0, none⟩ = some (.pointer (some ⟨g.b, 0, none⟩)) → Seg W none (l' ++ g' :: r') none → _ := fun W hW hS' =>
      room_of W w.heap.size l' r' g' hS' (tag_high hp' hlt') hlt' (by rw [eb]; exact hW)
    have hne : O.gs ≠ [] := by rw [e]; simp
    cases r' with
    | nil =>
      refine (after_sp_last w O.lb O.gs g.b l' g' _ _ _ _ _ _ _ _ hroom hroom2 h.seg h.wf.nodup h.list h.reads (by omega) e'.symm eb hne hmv hlen).mono ?_
      rintro _ w' ⟨hb, mv, rfl, hm, ha⟩
      exact ⟨hb, l', g', [], mv, rfl, ha, hc, by rw [← e']; exact core_spread _, .inr ⟨e'.symm, hl', hm, by omega⟩⟩
    | cons x r' =>
      refine (after_sp_next w O.lb O.gs g.b l' r' g' x _ _ _ _ _ _ _ _ hroom hroom2 h.seg h.wf.nodup h.list h.reads (by omega) e'.symm eb hne hmv hlen).mono ?_
      rintro _ w' ⟨hb, mv, rfl, hm, ha⟩
      exact ⟨hb, l', g', x :: r', mv, rfl, ha, hc, by rw [← e']; exact core_spread _, .inr ⟨e'.symm, hl', hm, by omega⟩⟩
end Go.Proofs.Ytijceljhpbdnnaa
