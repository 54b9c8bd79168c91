/-
  How few moves there are: plain counters on the ghost order. No program, no memory.
-/
import Derived.Test.YtijceljhpbdnnaaInsertW
import Derived.Test.YtijceljhpbdnnaaNew
import Derived.Test.YtijceljhpbdnnaaBetween
namespace Go.Proofs.Ytijceljhpbdnnaa
open Go.RowKit

/-- The tags ts lie far apart, j halvings after a spread. -/
structure Gaps (j : Nat) (ts : List Nat) : Prop where
  pairs : ts.Pairwise (fun a b => a < b ∧ 8388608 ≤ (b - a + 1) * 2 ^ j)
  last : ∀ t, t ∈ ts → t < space ∧ 8388608 ≤ (space - t + 1) * 2 ^ j
theorem Gaps.sub {j : Nat} {ts us : List Nat} (h : Gaps j ts) (hs : us.Sublist ts) : Gaps j us := ⟨h.pairs.sublist hs, fun t ht => h.last t (hs.subset ht)⟩
theorem half_gap {x y P : Nat} (h : 8388608 ≤ x * P) (hy : x ≤ 2 * y) : 8388608 ≤ y * (P * 2) := by
  have : x * P ≤ (2 * y) * P := Nat.mul_le_mul_right P hy
  have e : y * (P * 2) = (2 * y) * P := by rw [Nat.mul_comm P 2, ← Nat.mul_assoc, Nat.mul_comm y 2]
  omega
theorem Gaps.ins {j : Nat} {A B : List Nat} {g h : Nat} (hG : Gaps j (A ++ g :: B)) (hh : h = B.headD space) (hgh : g + 2 ≤ h) : Gaps (j + 1) (A ++ g :: (g + (h - g) / 2) :: B) := by
  have hp := hG.pairs
  rw [List.pairwise_append, List.pairwise_cons] at hp
  obtain ⟨hA, ⟨hgB, hBB⟩, hAB⟩ := hp
  have up : ∀ x y, 8388608 ≤ x * 2 ^ j → x ≤ 2 * y → 8388608 ≤ y * 2 ^ (j + 1) := fun x y h1 h2 => by rw [Nat.pow_succ]; exact half_gap h1 h2
  have hlg := hG.last g (by simp)
  have hB : (∀ b, b ∈ B → h ≤ b) ∧ h ≤ space := by
    cases B with
    | nil => exact ⟨fun b hb => by simp at hb, by rw [hh]; exact Nat.le_refl _⟩
    | cons c B =>
      have hc : h = c := hh
      refine ⟨fun b hb => ?_, by rw [hc]; exact Nat.le_of_lt (hG.last c (by simp)).1⟩
      rcases List.mem_cons.1 hb with rfl | hb
      · omega
      · have := ((List.pairwise_cons.1 hBB).1 b hb).1; omega
  have hgt : 8388608 ≤ (h - g + 1) * 2 ^ j := by
    cases B with
    | nil => rw [hh]; exact hlg.2
    | cons c B => rw [hh]; exact (hgB c (by simp)).2
  refine ⟨?_, ?_⟩
  · rw [List.pairwise_append, List.pairwise_cons, List.pairwise_cons]
    refine ⟨hA.imp (fun {a b} hab => ⟨hab.1, up _ _ hab.2 (by omega)⟩), ⟨?_, ?_, hBB.imp (fun {a b} hab => ⟨hab.1, up _ _ hab.2 (by omega)⟩)⟩, ?_⟩
    · intro b hb
      rcases List.mem_cons.1 hb with rfl | hb
      · exact ⟨by omega, up _ _ hgt (by omega)⟩
      · exact ⟨(hgB b hb).1, up _ _ (hgB b hb).2 (by omega)⟩
    · intro b hb
      have h1 := hB.1 b hb
      exact ⟨by omega, up _ _ (hgB b hb).2 (by omega)⟩
    · intro a ha b hb
      have h1 := hAB a ha g (by simp)
      rcases List.mem_cons.1 hb with rfl | hb
      · exact ⟨h1.1, up _ _ h1.2 (by omega)⟩
      · rcases List.mem_cons.1 hb with rfl | hb
        · exact ⟨by omega, up _ _ h1.2 (by omega)⟩
        · have h2 := hAB a ha b (by simp [hb])
          exact ⟨h2.1, up _ _ h2.2 (by omega)⟩
  · intro t ht
    simp only [List.mem_append, List.mem_cons] at ht
    rcases ht with ht | rfl | rfl | ht
    · have := hG.last t (by simp [ht]); exact ⟨this.1, up _ _ this.2 (by omega)⟩
    · exact ⟨hlg.1, up _ _ hlg.2 (by omega)⟩
    · exact ⟨by omega, up _ _ hlg.2 (by omega)⟩
    · have := hG.last t (by simp [ht]); exact ⟨this.1, up _ _ this.2 (by omega)⟩
theorem gaps_spread {gs : List Grp} (hn : gs.length ≤ 100000) : Gaps 0 ((spreadGs gs).map (·.tag)) := by
  have hd : 8388608 ≤ 1099511627776 / (gs.length + 1) := (Nat.le_div_iff_mul_le (by omega)).2 (by omega)
  have hm : (gs.length + 1) * (1099511627776 / (gs.length + 1)) ≤ 1099511627776 := Nat.mul_div_le _ _
  refine ⟨?_, ?_⟩
  · rw [List.pairwise_map, List.pairwise_iff_getElem]
    intro i k hi hk hik
    simp only [spreadGs, List.getElem_mapIdx]
    refine ⟨tagOf_mono hn hik, ?_⟩
    unfold tagOf
    have h1 : (i + 1 + 1) * (1099511627776 / (gs.length + 1)) ≤ (k + 1) * (1099511627776 / (gs.length + 1)) := Nat.mul_le_mul_right _ (by omega)
    rw [Nat.add_mul (i + 1) 1] at h1
    omega
  · intro t ht
    obtain ⟨g, hg, rfl⟩ := List.mem_map.1 ht
    refine ⟨spread_lt hn g hg, ?_⟩
    obtain ⟨i, hi, rfl⟩ := List.getElem_of_mem hg
    simp only [spreadGs, List.getElem_mapIdx]
    have hi2 : i < gs.length := by simpa [spreadGs] using hi
    unfold tagOf space
    have h1 : (i + 1 + 1) * (1099511627776 / (gs.length + 1)) ≤ (gs.length + 1) * (1099511627776 / (gs.length + 1)) := Nat.mul_le_mul_right _ (by omega)
    rw [Nat.add_mul (i + 1) 1] at h1
    omega
/-- S splits, p spreads, j splits since the last spread. -/
structure Few (O : Ord) (S p j : Nat) : Prop where
  moves : O.moves ≤ 32 * (O.P.length - 1) + 48 * S + p * (S + 1)
  ov : 16 * S + over O.gs ≤ O.P.length - 1
  len : O.gs.length ≤ S + 1
  sp : 22 * p + j ≤ S
  gaps : Gaps j (O.gs.map (·.tag))
theorem Few.bound {O : Ord} {S p j : Nat} (h : Few O S p j) (hw : Wf O) : O.moves ≤ 800000000000 := by
  have h1 := h.moves
  have h2 := h.ov
  have h3 := h.sp
  have h4 := hw.made
  have h5 : p * (S + 1) ≤ 6250 * 6251 := Nat.mul_le_mul (by omega) (by omega)
  omega
/-- The law's bound, where few were made. -/
theorem Few.law {O : Ord} {S p j : Nat} (h : Few O S p j) (hm : O.P.length ≤ 4000) : O.moves ≤ 60 * (O.P.length - 1) := by
  have h1 := h.moves
  have h2 := h.ov
  have h3 := h.sp
  have h5 : p * (S + 1) ≤ p * 250 := Nat.mul_le_mul_left _ (by omega)
  omega
theorem few_fresh (n : Nat) : Few (Ord.fresh n) 0 0 0 := by
  refine ⟨by simp [Ord.fresh], by simp [Ord.fresh], by simp [Ord.fresh], by omega, ⟨by simp [Ord.fresh], ?_⟩⟩
  intro t ht
  simp [Ord.fresh] at ht
  subst ht
  unfold space; omega
theorem Few.put {O : Ord} {S p j : Nat} (h : Few O S p j) (hw : Wf O) {l r : List Grp} {g : Grp} {ss : List Stp} {mv k xb m : Nat} {all' : Value} (e : O.gs = l ++ g :: r) (hl : ss.length = g.ss.length) (hk : k < ss.length) (h32 : g.ss.length ≤ 32)
    (hm : mv ≤ O.moves + 32) : Few ((O.tagged l g r ss mv).put l { g with ss := ss } r k xb m all') S p j := by
  have hpos := hw.pos
  have ht : ((O.tagged l g r ss mv).put l { g with ss := ss } r k xb m all').gs.map (·.tag) = O.gs.map (·.tag) := by rw [e]; simp [Ord.put]
  have hlen : ((O.tagged l g r ss mv).put l { g with ss := ss } r k xb m all').gs.length = O.gs.length := by rw [e]; simp [Ord.put]
  have hP : ((O.tagged l g r ss mv).put l { g with ss := ss } r k xb m all').P.length = O.P.length + 1 := by simp [Ord.put]
  have hov : over ((O.tagged l g r ss mv).put l { g with ss := ss } r k xb m all').gs ≤ over O.gs + 1 := by
    rw [e]
    simp only [Ord.put, over_append, over_cons, putAt, List.length_append, List.length_cons, List.length_take, List.length_drop]
    omega
  refine ⟨?_, ?_, by rw [hlen]; exact h.len, h.sp, by rw [ht]; exact h.gaps⟩
  · have h1 := h.moves
    rw [hP]
    show mv ≤ _
    omega
  · have h1 := h.ov
    rw [hP]
    omega
theorem high_headD (r : List Grp) : high r = (r.map (·.tag)).headD space := by cases r <;> rfl
theorem core_map {β : Type} {gs gs' : List Grp} (f : Nat × List Stp × List Value → β) (h : gs'.map Grp.core = gs.map Grp.core) : gs'.map (fun g => f g.core) = gs.map (fun g => f g.core) := by
  have := congrArg (List.map f) h
  simpa [Function.comp_def] using this
theorem Few.split {O O1 : Ord} {S p j : Nat} (h : Few O S p j) (hw : Wf O) {l r l' r' : List Grp} {g g' g1 h1 : Grp} {mv : Nat} (e : O.gs = l ++ g :: r) (h32 : g.ss.length = 32) (hs : Splits O O1 l g r l' g' g1 h1 r' mv) :
    ∃ p' j', Few O1 (S + 1) p' j' := by
  have hgl := hw.groups_le
  have hov : over O1.gs + 16 = over O.gs := by
    rw [hs.gs, e]
    simp only [over_append, over_cons, hs.s1, hs.s2, reminor_length, List.length_take, List.length_drop, h32, core_over hs.cl, core_over hs.cr]
    omega
  have hll : l'.length = l.length := by have := congrArg List.length hs.cl; simpa using this
  have hrl : r'.length = r.length := by have := congrArg List.length hs.cr; simpa using this
  have hlen : O1.gs.length = O.gs.length + 1 := by rw [hs.gs, e]; simp; omega
  have htg : O1.gs.map (·.tag) = l'.map (·.tag) ++ g'.tag :: (g'.tag + (high r' - g'.tag) / 2) :: r'.map (·.tag) := by
    rw [hs.gs]; simp [hs.t1, hs.t2]
  have h1' := h.ov
  have h2' := h.len
  have h3' := h.sp
  have h4' := h.moves
  have h5' := hs.moves
  rcases hs.turned with ⟨rfl, rfl, rfl, rfl, hgap⟩ | ⟨h6, h7, h8, h9⟩
  · have hG := h.gaps
    rw [e, List.map_append, List.map_cons] at hG
    refine ⟨p, j + 1, ?_, by rw [hs.P]; omega, by rw [hlen]; omega, by omega, ?_⟩
    · rw [hs.P]
      have : p * (S + 1 + 1) = p * (S + 1) + p := by rw [Nat.mul_add p (S + 1) 1]; omega
      omega
    · rw [htg]
      exact hG.ins (high_headD _) (by omega)
  · have hG := gaps_spread (gs := O.gs) hgl
    rw [← h6, List.map_append, List.map_cons] at hG
    have hj : 22 ≤ j := by
      refine Nat.le_of_not_lt (fun hlt => ?_)
      have hg0 := h.gaps
      rw [e, List.map_append, List.map_cons] at hg0
      have hx : 8388608 ≤ (high r - g.tag + 1) * 2 ^ j := by
        cases r with
        | nil => exact (hg0.last g.tag (by simp)).2
        | cons x r =>
          have hp := hg0.pairs
          rw [List.pairwise_append, List.pairwise_cons] at hp
          exact (hp.2.1.1 x.tag (by simp)).2
      have h10 : (high r - g.tag + 1) * 2 ^ j ≤ 2 * 2 ^ 21 := Nat.mul_le_mul (by omega) (Nat.pow_le_pow_right (by omega) (by omega))
      omega
    have hgap : g'.tag + 2 ≤ high r' := by
      rw [high_headD]
      have hp := hG.pairs
      rw [List.pairwise_append, List.pairwise_cons] at hp
      cases r' with
      | nil => have := hG.last g'.tag (by simp); show _ ≤ space; omega
      | cons x r' => have := hp.2.1.1 x.tag (by simp); show _ ≤ x.tag; omega
    refine ⟨p + 1, 1, ?_, by rw [hs.P]; omega, by rw [hlen]; omega, by omega, ?_⟩
    · rw [hs.P]
      have : (p + 1) * (S + 1 + 1) = p * (S + 1) + p + (S + 1) + 1 := by rw [Nat.mul_add (p + 1) (S + 1) 1, Nat.add_mul p 1 (S + 1)]; omega
      omega
    · rw [htg]
      exact hG.ins (high_headD _) hgap
theorem Few.fewer {O O' : Ord} {S p j : Nat} (h : Few O S p j) (hP : O'.P.length = O.P.length) (hm : O'.moves = O.moves) (tags : (O'.gs.map (·.tag)).Sublist (O.gs.map (·.tag))) (hov : over O'.gs ≤ over O.gs) : Few O' S p j := by
  have h1 := h.moves
  have h2 := h.ov
  have h3 := h.len
  have h4 := tags.length_le
  simp only [List.length_map] at h4
  exact ⟨by rw [hm, hP]; exact h1, by rw [hP]; omega, by omega, h.sp, h.gaps.sub tags⟩
theorem Few.shrunk {O O' : Ord} {S p j : Nat} (h : Few O S p j) {s : Stp} {i : Nat} (hs : Shrunk O O' s i) : Few O' S p j := h.fewer (by rw [hs.P]; simp) hs.moves hs.tags hs.over
end Go.Proofs.Ytijceljhpbdnnaa
