/-
  Plain facts: minor tags spread anew; a stamp put behind another one. No program, no memory.
-/
import Derived.Test.YtijceljhpbdnnaaAfterD
namespace Go.Proofs.Ytijceljhpbdnnaa
open Go.RowKit

/-- A stamp without its tag. -/
def Stp.core (s : Stp) : Nat × Nat := (s.b, s.id)
theorem core_ids {ss ss' : List Stp} (h : ss'.map Stp.core = ss.map Stp.core) : ss'.map (·.id) = ss.map (·.id) := by
  have := congrArg (List.map (fun c : Nat × Nat => c.2)) h
  simpa [Stp.core, Function.comp_def] using this
theorem core_blocks {ss ss' : List Stp} (h : ss'.map Stp.core = ss.map Stp.core) : ss'.map (·.b) = ss.map (·.b) := by
  have := congrArg (List.map (fun c : Nat × Nat => c.1)) h
  simpa [Stp.core, Function.comp_def] using this
theorem mem_core {ss ss' : List Stp} (h : ss'.map Stp.core = ss.map Stp.core) {s : Stp} (hs : s ∈ ss') : ∃ t, t ∈ ss ∧ t.id = s.id ∧ t.b = s.b := by
  have : s.core ∈ ss.map Stp.core := by rw [← h]; exact List.mem_map.2 ⟨s, hs, rfl⟩
  obtain ⟨t, ht, e⟩ := List.mem_map.1 this
  simp only [Stp.core, Prod.mk.injEq] at e
  exact ⟨t, ht, e.2, e.1⟩
theorem Wf.of_shape {O O' : Ord} (h : Wf O) (hP : O'.P = O.P) (hs : (stampsOf O'.gs).map Stp.core = (stampsOf O.gs).map Stp.core) (full : ∀ g, g ∈ O'.gs → g.ss ≠ []) (nodup : (foot O'.gs).Nodup)
    (tags : O'.gs.Pairwise (fun g h => g.tag < h.tag)) (tagLt : ∀ g, g ∈ O'.gs → g.tag < space) (minors : ∀ g, g ∈ O'.gs → g.ss.Pairwise (fun s t => s.minor < t.minor)) (minorLt : ∀ s, s ∈ stampsOf O'.gs → s.minor < space) (ones : ∀ g, g ∈ O'.gs → ∀ v, v ∈ g.rest → v.oneCell' = true) : Wf O' := by
  have hids : idsOf O'.gs = idsOf O.gs := core_ids hs
  refine ⟨full, nodup, by rw [hids]; exact h.ids, ?_, ?_, by rw [hids]; exact h.first, tags, tagLt, minors, minorLt, by rw [hP]; exact h.made, ones⟩
  · intro s hm
    obtain ⟨t, ht, e1, e2⟩ := mem_core hs hm
    rw [hP, ← e1, ← e2]
    exact h.tabled t ht
  · intro i b hi
    rw [hP] at hi
    obtain ⟨s, hm, e1, e2⟩ := h.back i b hi
    obtain ⟨t, ht, e3, e4⟩ := mem_core hs.symm hm
    exact ⟨t, ht, by omega, by omega⟩
/-- The minor tags spread anew. -/
def reminor (ss : List Stp) : List Stp := ss.mapIdx fun j s => { s with minor := tagOf ss.length j }
@[simp] theorem reminor_length (ss : List Stp) : (reminor ss).length = ss.length := by simp [reminor]
theorem reminor_core (ss : List Stp) : (reminor ss).map Stp.core = ss.map Stp.core := by
  unfold reminor
  exact List.ext_getElem? (fun i => by simp [List.getElem?_mapIdx, Stp.core, Function.comp_def]; rfl)
theorem reminor_at {ss : List Stp} {j : Nat} {s : Stp} (h : ss[j]? = some s) : (reminor ss)[j]? = some { s with minor := tagOf ss.length j } := by
  simp [reminor, List.getElem?_mapIdx, h]
theorem reminor_inv {ss : List Stp} {j : Nat} {s : Stp} (h : (reminor ss)[j]? = some s) : ∃ t, ss[j]? = some t ∧ s = { t with minor := tagOf ss.length j } := by
  simp only [reminor, List.getElem?_mapIdx, Option.map_eq_some_iff] at h
  obtain ⟨t, h1, h2⟩ := h
  exact ⟨t, h1, h2.symm⟩
theorem reminor_pairwise {ss : List Stp} (h : ss.length ≤ 100000) : (reminor ss).Pairwise (fun s t => s.minor < t.minor) := by
  rw [List.pairwise_iff_getElem]
  intro i j hi hj hij
  simp only [reminor, List.getElem_mapIdx]
  exact tagOf_mono h hij
theorem reminor_lt {ss : List Stp} (h : ss.length ≤ 100000) : ∀ s, s ∈ reminor ss → s.minor < space := by
  intro s hs
  obtain ⟨i, hi, rfl⟩ := List.getElem_of_mem hs
  simp only [reminor, List.getElem_mapIdx]
  exact tagOf_lt h (by simpa using hi)
/-- The tag ahead of which a new stamp behind place k must stay. -/
def ceil (ss : List Stp) (k : Nat) : Nat := match ss[k + 1]? with
  | some x => x.minor
  | none => space
theorem reminor_gap {ss : List Stp} (h : ss.length ≤ 1000) {k : Nat} {s : Stp} (hk : (reminor ss)[k]? = some s) : s.minor + 2 ≤ ceil (reminor ss) k := by
  obtain ⟨t, h1, rfl⟩ := reminor_inv hk
  have hl := (List.getElem?_eq_some_iff.1 h1).1
  have h2 : 2 ≤ 1099511627776 / (ss.length + 1) := (Nat.le_div_iff_mul_le (by omega)).2 (by omega)
  unfold ceil
  show tagOf ss.length k + 2 ≤ _
  cases hn : (reminor ss)[k + 1]? with
  | some x =>
    obtain ⟨y, h3, rfl⟩ := reminor_inv hn
    show _ ≤ tagOf ss.length (k + 1)
    unfold tagOf
    rw [Nat.add_mul (k + 1) 1]
    omega
  | none =>
    have h3 : ss.length ≤ k + 1 := by simpa using hn
    have h4 : (ss.length + 1) * (1099511627776 / (ss.length + 1)) ≤ 1099511627776 := Nat.mul_div_le _ _
    show _ ≤ space
    unfold tagOf space
    have h5 : (k + 1 + 1) * (1099511627776 / (ss.length + 1)) = (ss.length + 1) * (1099511627776 / (ss.length + 1)) := by rw [show k + 1 = ss.length from by omega]
    rw [Nat.add_mul (k + 1) 1] at h5
    omega
/-- A stamp put behind place k. -/
def putAt (ss : List Stp) (k : Nat) (x : Stp) : List Stp := ss.take (k + 1) ++ x :: ss.drop (k + 1)
theorem putAt_pairwise {ss : List Stp} {k : Nat} {s x : Stp} (h : ss.Pairwise (fun s t => s.minor < t.minor)) (hk : ss[k]? = some s) (h1 : s.minor < x.minor) (h2 : x.minor < ceil ss k) (_hx : x.minor < space) :
    (putAt ss k x).Pairwise (fun s t => s.minor < t.minor) := by
  obtain ⟨hkl, hks⟩ := List.getElem?_eq_some_iff.1 hk
  have hp := h
  rw [← List.take_append_drop (k + 1) ss] at hp
  rw [List.pairwise_append] at hp
  unfold putAt
  rw [List.pairwise_append, List.pairwise_cons]
  have hle : ∀ a, a ∈ ss.take (k + 1) → a.minor ≤ s.minor := by
    intro a ha
    obtain ⟨i, hi, e⟩ := List.getElem_of_mem ha
    rw [List.getElem_take] at e
    have hi2 : i ≤ k := by simp at hi; omega
    rcases Nat.lt_or_ge i k with hlt | hge
    · have := (List.pairwise_iff_getElem.1 h) i k (by omega) hkl hlt
      rw [e, hks] at this
      omega
    · obtain rfl : i = k := by omega
      rw [hks] at e; rw [e]; exact Nat.le_refl _
  have hge : ∀ b, b ∈ ss.drop (k + 1) → x.minor < b.minor := by
    intro b hb
    obtain ⟨i, hi, e⟩ := List.getElem_of_mem hb
    rw [List.getElem_drop] at e
    have hlen : k + 1 + i < ss.length := by simp at hi; omega
    have hc : ceil ss k = (ss[k + 1]'(by omega)).minor := by unfold ceil; rw [List.getElem?_eq_getElem (by omega)]
    rw [hc] at h2
    rcases Nat.eq_zero_or_pos i with rfl | hpos
    · rw [← e]; exact h2
    · have := (List.pairwise_iff_getElem.1 h) (k + 1) (k + 1 + i) (by omega) hlen (by omega)
      rw [e] at this
      omega
  refine ⟨hp.1, ⟨hge, hp.2.1⟩, ?_⟩
  intro a ha b hb
  rcases List.mem_cons.1 hb with rfl | hb
  · have := hle a ha; omega
  · exact hp.2.2 a ha b hb
theorem putAt_mem {ss : List Stp} {k : Nat} {x s : Stp} (h : s ∈ putAt ss k x) : s = x ∨ s ∈ ss := by
  rcases List.mem_append.1 h with h | h
  · exact .inr (List.mem_of_mem_take h)
  · rcases List.mem_cons.1 h with h | h
    · exact .inl h
    · exact .inr (List.mem_of_mem_drop h)
theorem mem_putAt {ss : List Stp} {k : Nat} {x s : Stp} (h : s ∈ ss) : s ∈ putAt ss k x := by
  unfold putAt
  rw [← List.take_append_drop (k + 1) ss] at h
  rcases List.mem_append.1 h with h | h
  · exact List.mem_append.2 (.inl h)
  · exact List.mem_append.2 (.inr (List.mem_cons_of_mem _ h))
theorem putAt_stamps {l r : List Grp} {g g2 : Grp} {k : Nat} {x : Stp} (hk : k < g.ss.length) (e : g2.ss = putAt g.ss k x) :
    stampsOf (l ++ g2 :: r) = putAt (stampsOf (l ++ g :: r)) ((stampsOf l).length + k) x := by
  simp only [stampsOf_append, stampsOf_cons, e, putAt]
  rw [show (stampsOf l).length + k + 1 = (stampsOf l).length + (k + 1) from by omega, List.take_length_add_append, List.drop_length_add_append, List.take_append_of_le_length (by omega), List.drop_append_of_le_length (by omega)]
  simp
/-- The order with a new stamp behind place k of group g. -/
theorem Wf.put {O O2 : Ord} (h : Wf O) {l r : List Grp} {g g2 : Grp} {k : Nat} {s x : Stp} (e : O.gs = l ++ g :: r) (hk : g.ss[k]? = some s) (e2 : O2.gs = l ++ g2 :: r) (hg : g2.ss = putAt g.ss k x) (hb : g2.b = g.b) (ht : g2.tag = g.tag)
    (hP : O2.P = O.P ++ [some x.b]) (hid : x.id = O.P.length) (hnew : x.b ∉ foot O.gs) (h1 : s.minor < x.minor) (h2 : x.minor < ceil g.ss k) (h3 : x.minor < space) (hmade : O.P.length < 100000) (hrest : ∀ v, v ∈ g2.rest → v ∈ g.rest) : Wf O2 := by
  obtain ⟨hkl, hks⟩ := List.getElem?_eq_some_iff.1 hk
  have hst := putAt_stamps (l := l) (r := r) hkl hg
  rw [← e, ← e2] at hst
  have hids : ∀ t, t ∈ stampsOf O.gs → t.id < O.P.length := fun t ht => (List.getElem?_eq_some_iff.1 (h.tabled t ht)).1
  have hset : (O2.gs.map (·.tag)) = O.gs.map (·.tag) := by rw [e, e2]; simp [ht]
  have htags : ∀ (P : Nat → Nat → Prop), (O.gs.Pairwise fun a b => P a.tag b.tag) → O2.gs.Pairwise fun a b => P a.tag b.tag := by
    intro P hp
    have : (O.gs.map (·.tag)).Pairwise P := List.pairwise_map.2 hp
    rw [← hset] at this
    exact List.pairwise_map.1 this
  have hmem : ∀ t, t ∈ stampsOf O2.gs → t = x ∨ t ∈ stampsOf O.gs := fun t ht => by rw [hst] at ht; exact putAt_mem ht
  have hgm : ∀ y, y ∈ O2.gs → y = g2 ∨ y ∈ O.gs := by
    intro y hy
    rw [e2] at hy
    rw [e]
    rcases List.mem_append.1 hy with hy | hy
    · exact .inr (List.mem_append.2 (.inl hy))
    · rcases List.mem_cons.1 hy with hy | hy
      · exact .inl hy
      · exact .inr (List.mem_append.2 (.inr (List.mem_cons_of_mem _ hy)))
  have hgO : g ∈ O.gs := by rw [e]; simp
  refine ⟨?_, ?_, ?_, ?_, ?_, ?_, htags _ h.tags, ?_, ?_, ?_, by rw [hP]; simp; omega, fun y hy v hv => by rcases hgm y hy with rfl | hy; exact h.ones g hgO v (hrest v hv); exact h.ones y hy v hv⟩
  · intro y hy
    rcases hgm y hy with rfl | hy
    · rw [hg]; simp [putAt]
    · exact h.full y hy
  · have hperm : (foot O2.gs).Perm (x.b :: foot O.gs) := by
      rw [e, e2]
      simp only [foot_append, foot_cons, Grp.foot, hg, hb, putAt]
      have hp1 : ((g.ss.take (k + 1) ++ x :: g.ss.drop (k + 1)).map (·.b)).Perm (x.b :: g.ss.map (·.b)) := by
        have : (g.ss.take (k + 1) ++ x :: g.ss.drop (k + 1)).Perm (x :: (g.ss.take (k + 1) ++ g.ss.drop (k + 1))) := List.perm_middle
        rw [List.take_append_drop] at this
        exact this.map (·.b)
      have hp2 : (g.b :: (g.ss.take (k + 1) ++ x :: g.ss.drop (k + 1)).map (·.b)).Perm (x.b :: (g.b :: g.ss.map (·.b))) := (hp1.cons _).trans (List.Perm.swap _ _ _)
      refine ((List.Perm.append_left _ (hp2.append_right _))).trans ?_
      exact List.perm_middle
    exact hperm.nodup_iff.2 (List.nodup_cons.2 ⟨hnew, h.nodup⟩)
  · have hperm : (idsOf O2.gs).Perm (x.id :: idsOf O.gs) := by
      unfold idsOf
      rw [hst]
      have : (putAt (stampsOf O.gs) ((stampsOf l).length + k) x).Perm (x :: stampsOf O.gs) := by
        unfold putAt
        have hm : ((stampsOf O.gs).take ((stampsOf l).length + k + 1) ++ x :: (stampsOf O.gs).drop ((stampsOf l).length + k + 1)).Perm (x :: ((stampsOf O.gs).take ((stampsOf l).length + k + 1) ++ (stampsOf O.gs).drop ((stampsOf l).length + k + 1))) := List.perm_middle
        rwa [List.take_append_drop] at hm
      exact this.map (·.id)
    refine hperm.nodup_iff.2 (List.nodup_cons.2 ⟨?_, h.ids⟩)
    intro hm
    obtain ⟨t, ht, et⟩ := List.mem_map.1 hm
    have := hids t ht
    omega
  · intro t ht
    rw [hP]
    rcases hmem t ht with rfl | ht
    · rw [hid]; simp
    · rw [List.getElem?_append_left (hids t ht)]; exact h.tabled t ht
  · intro i b hi
    rw [hP] at hi
    by_cases hlt : i < O.P.length
    · rw [List.getElem?_append_left hlt] at hi
      obtain ⟨t, ht, e1, e3⟩ := h.back i b hi
      exact ⟨t, by rw [hst]; exact mem_putAt ht, e1, e3⟩
    · rw [List.getElem?_append_right (by omega)] at hi
      have hi0 : i - O.P.length = 0 := by
        rcases Nat.eq_zero_or_pos (i - O.P.length) with h0 | h0
        · exact h0
        · rw [List.getElem?_eq_none (by rw [List.length_singleton]; exact h0)] at hi; cases hi
      rw [hi0] at hi
      simp at hi
      exact ⟨x, by rw [hst]; simp [putAt], by omega, hi⟩
  · have hf := h.first
    unfold idsOf at hf ⊢
    rw [hst, putAt, List.map_append, List.getElem?_append_left, ← hf, List.getElem?_map, List.getElem?_map, List.getElem?_take, if_pos (by omega)]
    have hlen : (stampsOf l).length + k < (stampsOf O.gs).length := by rw [e]; simp; omega
    simp
    omega
  · intro y hy
    rcases hgm y hy with rfl | hy
    · rw [ht]; exact h.tagLt g hgO
    · exact h.tagLt y hy
  · intro y hy
    rcases hgm y hy with rfl | hy
    · rw [hg]; exact putAt_pairwise (h.minors g hgO) hk h1 h2 h3
    · exact h.minors y hy
  · intro t ht
    rcases hmem t ht with rfl | ht
    · exact h3
    · exact h.minorLt t ht
end Go.Proofs.Ytijceljhpbdnnaa
