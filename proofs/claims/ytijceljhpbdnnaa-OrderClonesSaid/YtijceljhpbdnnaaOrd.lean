/-
  The functions of package order that only read, over a whole order. Condition: Inv, the order as it lies in memory.
-/
import Derived.Test.YtijceljhpbdnnaaGhost
import Derived.Test.YtijceljhpbdnnaaRead2
namespace Go.Proofs.Ytijceljhpbdnnaa
open Go.RowKit

theorem split_stamps {gs : List Grp} {s : Stp} {i : Nat} (h : (stampsOf gs)[i]? = some s) :
    ∃ l g r k, gs = l ++ g :: r ∧ g.ss[k]? = some s ∧ i = (stampsOf l).length + k := by
  induction gs generalizing i with
  | nil => simp at h
  | cons g gs ih =>
    rw [stampsOf_cons] at h
    by_cases hi : i < g.ss.length
    · rw [List.getElem?_append_left hi] at h
      exact ⟨[], g, gs, i, rfl, h, by simp⟩
    · rw [List.getElem?_append_right (by omega)] at h
      obtain ⟨l, g', r, k, rfl, hk, e⟩ := ih h
      exact ⟨g :: l, g', r, k, rfl, hk, by simp; omega⟩
theorem stampsOf_at {l r : List Grp} {g : Grp} {k : Nat} (h : k < g.ss.length) : (stampsOf (l ++ g :: r))[(stampsOf l).length + k]? = g.ss[k]? := by
  rw [stampsOf_append, List.getElem?_append_right (by omega), stampsOf_cons, List.getElem?_append_left (by omega)]
  congr 1; omega

section
variable {w : World} {O : Ord}
theorem Inv.drewN (h : Inv w O) (n : Nat) : Inv (w.drewN n) O := by
  obtain ⟨a, b, c, d⟩ := h
  exact ⟨a, b, seg_frame (w := w) c (fun _ _ => rfl), d⟩
theorem Inv.drew (h : Inv w O) : Inv w.drew O := by
  obtain ⟨a, b, c, d⟩ := h
  exact ⟨a, b, seg_frame (w := w) c (fun _ _ => rfl), d⟩
theorem Wf.pos (h : Wf O) : 0 < O.P.length := by
  have h1 := h.first
  simp only [idsOf, List.getElem?_map, Option.map_eq_some_iff] at h1
  obtain ⟨s, hs, h0⟩ := h1
  have := h.tabled s (List.mem_of_getElem? hs)
  rw [h0] at this
  exact (List.getElem?_eq_some_iff.1 this).1
theorem Inv.table (h : Inv w O) : ∃ ab cap cur, O.all = .slice (some ⟨ab, 0, none⟩) O.P.length cap ∧ w.heap[ab]? = some (.cells cur 67 (0, 0)) ∧ O.P.length ≤ cap ∧ cur.size = cap ∧
    (∀ (j : Nat) p, O.P[j]? = some p → cur[j]? = some (.pointer (optp p))) := by
  have hp := h.wf.pos
  obtain ⟨h1, h2⟩ := h.row
  rcases h2 with ⟨_, h2⟩ | ⟨g, cap, cur, hv, _, hg, hc1, _, hs, ht⟩
  · omega
  · refine ⟨g, cap, cur, hv, hg, hc1, by simpa using hs, fun j p hj => ?_⟩
    have hj' : j < O.P.length := (List.getElem?_eq_some_iff.1 hj).1
    have h3 : (cur.toList.take (O.P.length * 1))[j]? = some (.pointer (optp p)) := by rw [ht]; simp [hj]
    rw [List.getElem?_take] at h3
    rw [if_pos (by omega)] at h3
    simpa using h3
theorem Inv.clean (h : Inv w O) {k : Nat} (hk : k ∈ foot O.gs) : clean w k := by
  obtain ⟨c, t, hc, _⟩ := seg_kind h.seg k hk
  exact ⟨c, t, hc⟩
theorem Inv.own_lt (h : Inv w O) {k : Nat} (hk : O.own k) : k < w.heap.size := by
  rcases hk with rfl | hk | hk
  · exact heap_lt h.list
  · obtain ⟨ab, cap, cur, e, hg, _⟩ := h.table
    rw [e] at hk
    simp [Value.ownBlock] at hk
    subst hk
    exact heap_lt hg
  · exact seg_lt h.seg k hk
/-- The order lies as it lay where none of its blocks has turned. -/
theorem Inv.frame {w' : World} {S : Nat → Prop} (h : Inv w O) (hk : Kept S w w') (hS : ∀ k, O.own k → ¬ S k) : Inv w' O := by
  have hb : ∀ k, O.own k → w'.heap[k]? = w.heap[k]? := fun k ho => hk.block k (h.own_lt ho) (hS k ho)
  refine ⟨?_, ?_, seg_frame h.seg (fun k hk => hb k (.inr (.inr hk))), h.wf⟩
  · rw [hb _ (.inl rfl)]; exact h.list
  · obtain ⟨h1, h2⟩ := h.row
    refine ⟨h1, ?_⟩
    rcases h2 with h2 | ⟨g, cap, cur, hv, hz, hg, r⟩
    · exact .inl h2
    · exact .inr ⟨g, cap, cur, hv, hz, by rw [hb g (.inr (.inl (by rw [hv]; rfl)))]; exact hg, r⟩
theorem Wf.look_of (h : Wf O) {s : Stp} (hs : s ∈ stampsOf O.gs) : look O.P s.id = some s.b := by
  unfold look; rw [if_pos (by omega)]; simp [h.tabled s hs]
theorem Wf.look_some (h : Wf O) {v : Int} {b : Nat} (hl : look O.P v = some b) : ∃ s, s ∈ stampsOf O.gs ∧ v = s.id ∧ s.b = b := by
  unfold look at hl
  split at hl
  · rename_i h0
    cases hp : O.P[v.toNat]? with
    | none => simp [hp] at hl
    | some q =>
      simp [hp] at hl; subst hl
      obtain ⟨s, hs, hid, hb⟩ := h.back _ _ hp
      exact ⟨s, hs, by omega, hb⟩
  · simp at hl
theorem find_ord (h : Inv w O) (v : Int) :
    Calls Try.prog 34 #[.pointer (some ⟨O.lb, 0, none⟩), .int .i64 v] w fun e w' => e = .returned (.pointer (optp (look O.P v))) ∧ w = w' := by
  obtain ⟨ab, cap, cur, hall, hg, _, _, ht⟩ := h.table
  refine find_any O.lb ab cap O.P v w ?_ ?_
  · rw [list_c3 h.list, hall]
  · intro j p hj
    rw [cell_of_block hg]; exact ht j p hj
theorem Inv.group (h : Inv w O) {l r : List Grp} {g : Grp} (e : O.gs = l ++ g :: r) : GroupAt w (lastB none l) (headB none r) g := by
  have hs := h.seg
  rw [e, seg_append] at hs
  exact hs.2.1
theorem Wf.apart (h : Wf O) {g : Grp} (hg : g ∈ O.gs) : Apart g.ss := by
  refine apart_of_nodup ?_
  have h1 := h.nodup
  obtain ⟨l, r, e⟩ := List.append_of_mem hg
  rw [e, foot_append, foot_cons] at h1
  have h2 := (List.nodup_append.1 (List.nodup_append.1 h1).2.1).1
  exact (List.nodup_cons.1 h2).2
theorem follow_ord (h : Inv w O) {i : Nat} {s : Stp} (hi : (stampsOf O.gs)[i]? = some s) :
    Calls Try.prog 41 #[.pointer (some ⟨s.b, 0, none⟩)] w fun e w' => e = .returned (.pointer (optp (((stampsOf O.gs)[i + 1]?).map (·.b)))) ∧ ∃ m, w' = w.drewN m := by
  obtain ⟨l, g, r, k, e, hk, rfl⟩ := split_stamps hi
  have hG := h.group e
  have hgm : g ∈ O.gs := by rw [e]; simp
  have hp := place_of hG hk (h.wf.apart hgm)
  have hkl : k < g.ss.length := (List.getElem?_eq_some_iff.1 hk).1
  have h32 := hG.2.1
  have hL : g.ss.length ≤ 32 := by simp [Grp.arr] at h32; omega
  have c1 := stamp_c2 (hG.2.2 s (List.mem_of_getElem? hk))
  have c2 := group_c1 hG.1
  by_cases hk1 : k + 1 < g.ss.length
  · rw [e, Nat.add_assoc, stampsOf_at hk1, List.getElem?_eq_getElem hk1]
    exact follow_in s.b g.b k g.ss.length _ w hL hk1 hp c1 c2 (group_ca hG.1 (by simp [Grp.arr, List.getElem?_append, hk1]))
  · have hke : g.ss.length = k + 1 := by omega
    have c3 := group_c35 hG.1 h32
    cases r with
    | nil =>
      rw [e]
      have : (stampsOf (l ++ [g]))[(stampsOf l).length + k + 1]? = none := List.getElem?_eq_none (by simp; omega)
      rw [this]
      exact follow_none s.b g.b k _ w hL hke hp c1 c2 c3
    | cons g' r =>
      have hG' := h.group (l := l ++ [g]) (g := g') (r := r) (by rw [e]; simp)
      have hg'm : g' ∈ O.gs := by rw [e]; simp
      have hne := h.wf.full g' hg'm
      obtain ⟨t, ts, ht⟩ : ∃ t ts, g'.ss = t :: ts := by cases hss : g'.ss with | nil => exact absurd hss hne | cons t ts => exact ⟨t, ts, rfl⟩
      have hst : (stampsOf O.gs)[(stampsOf l).length + k + 1]? = some t := by
        rw [e, stampsOf_append, List.getElem?_append_right (by omega), stampsOf_cons, List.getElem?_append_right (by omega), stampsOf_cons, ht]
        rw [show (stampsOf l).length + k + 1 - (stampsOf l).length - g.ss.length = 0 from by omega]
        rfl
      rw [hst]
      refine follow_next s.b g.b k _ g'.b w _ hL hke hp c1 c2 c3 ?_
      have := group_ca hG'.1 (i := 0) (v := ptr t.b) (by simp [Grp.arr, ht])
      exact this
theorem ahead_ord (h : Inv w O) {i : Nat} {s : Stp} (hi : (stampsOf O.gs)[i]? = some s) :
    Calls Try.prog 42 #[.pointer (some ⟨s.b, 0, none⟩)] w fun e w' => e = .returned (.pointer (optp (if i = 0 then none else ((stampsOf O.gs)[i - 1]?).map (·.b)))) ∧ ∃ m, w' = w.drewN m := by
  obtain ⟨l, g, r, k, e, hk, rfl⟩ := split_stamps hi
  have hG := h.group e
  have hgm : g ∈ O.gs := by rw [e]; simp
  have hp := place_of hG hk (h.wf.apart hgm)
  have hkl : k < g.ss.length := (List.getElem?_eq_some_iff.1 hk).1
  have h32 := hG.2.1
  have hL : g.ss.length ≤ 32 := by simp [Grp.arr] at h32; omega
  have c1 := stamp_c2 (hG.2.2 s (List.mem_of_getElem? hk))
  cases k with
  | succ k =>
    have hk1 : k < g.ss.length := by omega
    rw [if_neg (by omega), show (stampsOf l).length + (k + 1) - 1 = (stampsOf l).length + k from by omega, e, stampsOf_at hk1, List.getElem?_eq_getElem hk1]
    exact ahead_in s.b g.b k _ w (by omega) hp c1 (group_ca hG.1 (by simp [Grp.arr, List.getElem?_append, hk1]))
  | zero =>
    have c3 := group_c34 hG.1 h32
    rcases List.eq_nil_or_concat l with rfl | ⟨l', p, rfl⟩
    · simp only [stampsOf_nil, List.length_nil, Nat.add_zero, if_true]
      exact ahead_none s.b g.b w hp c1 c3
    · rw [List.concat_eq_append] at *
      have hG' := h.group (l := l') (g := p) (r := g :: r) (by rw [e]; simp)
      have hpm : p ∈ O.gs := by rw [e]; simp
      have hne := h.wf.full p hpm
      obtain ⟨M, hM⟩ : ∃ M, p.ss.length = M + 1 := ⟨p.ss.length - 1, by have := List.length_pos_iff.2 hne; omega⟩
      have hp32 := hG'.2.1
      have hMl : M < p.ss.length := by omega
      have hsz : (stampsOf (l' ++ [p])).length = (stampsOf l').length + (M + 1) := by simp [hM]
      have hlt : p.ss.length ≤ 32 := by simp [Grp.arr] at hp32; omega
      have hst : (stampsOf O.gs)[(stampsOf (l' ++ [p])).length + 0 - 1]? = p.ss[M]? := by
        rw [hsz, e, List.append_assoc, List.singleton_append, show (stampsOf l').length + (M + 1) + 0 - 1 = (stampsOf l').length + M from by omega, stampsOf_at hMl]
      rw [if_neg (by omega), hst, List.getElem?_eq_getElem hMl]
      simp only [lastB_append, lastB, optp_some] at c3
      refine ahead_prev s.b g.b p.b M _ w (by omega) hp c1 c3 ?_ (group_ca hG'.1 (by simp [Grp.arr, List.getElem?_append, hMl]))
      rw [group_c1 hG'.1, hM]
theorem place_ord (h : Inv w O) {l r : List Grp} {g : Grp} (e : O.gs = l ++ g :: r) {k : Nat} {s : Stp} (hk : g.ss[k]? = some s) :
    Calls Try.prog 36 #[.pointer (some ⟨g.b, 0, none⟩), .pointer (some ⟨s.b, 0, none⟩)] w fun e w' => e = .returned (.int .i64 k) ∧ ∃ m, w' = w.drewN m :=
  place_of (h.group e) hk (h.wf.apart (by rw [e]; simp))
theorem pairwise_lt {α : Type} {R : α → α → Prop} {l : List α} (h : l.Pairwise R) {i j : Nat} {x y : α} (hi : l[i]? = some x) (hj : l[j]? = some y) (hij : i < j) : R x y := by
  have h1 := List.getElem?_eq_some_iff.1 hi
  have h2 := List.getElem?_eq_some_iff.1 hj
  obtain ⟨a, rfl⟩ := h1
  obtain ⟨b, rfl⟩ := h2
  exact List.pairwise_iff_getElem.1 h i j a b hij
theorem less_ord (h : Inv w O) {i j : Nat} {s t : Stp} (hi : (stampsOf O.gs)[i]? = some s) (hj : (stampsOf O.gs)[j]? = some t) :
    Calls Try.prog 39 #[.pointer (some ⟨s.b, 0, none⟩), .pointer (some ⟨t.b, 0, none⟩)] w fun e w' => e = .returned (.bool (decide (i < j))) ∧ ∃ m, w' = w.drewN m := by
  obtain ⟨l, g, r, k, e, hk, rfl⟩ := split_stamps hi
  obtain ⟨l', g', r', k', e', hk', rfl⟩ := split_stamps hj
  have hG := h.group e
  have hG' := h.group e'
  have a1 := stamp_c2 (hG.2.2 s (List.mem_of_getElem? hk))
  have a2 := stamp_c2 (hG'.2.2 t (List.mem_of_getElem? hk'))
  have m1 := stamp_c1 (hG.2.2 s (List.mem_of_getElem? hk))
  have m2 := stamp_c1 (hG'.2.2 t (List.mem_of_getElem? hk'))
  have hkl : k < g.ss.length := (List.getElem?_eq_some_iff.1 hk).1
  have hkl' : k' < g'.ss.length := (List.getElem?_eq_some_iff.1 hk').1
  have hgi : O.gs[l.length]? = some g := by rw [e]; simp
  have hgi' : O.gs[l'.length]? = some g' := by rw [e']; simp
  have hmin := h.wf.minors g (by rw [e]; simp)
  rcases Nat.lt_trichotomy l.length l'.length with hlt | heq | hgt
  · have ht := pairwise_lt h.wf.tags hgi hgi' hlt
    have hle : (stampsOf l).length + g.ss.length ≤ (stampsOf l').length := by
      have : l ++ [g] <+: l' := by
        have h1 : l ++ [g] = O.gs.take (l.length + 1) := by rw [e, show l ++ g :: r = (l ++ [g]) ++ r from by simp, List.take_left' (by simp)]
        have h2 : l' = O.gs.take l'.length := by rw [e']; simp
        rw [h1, h2]; exact List.take_prefix_take_left (by omega)
      obtain ⟨z, hz⟩ := this
      rw [← hz]; simp only [stampsOf_append, List.length_append, stampsOf_cons, stampsOf_nil, List.append_nil]; omega
    have := less_other s.b t.b g.b g'.b g.tag g'.tag w (group_clean hG.1) (group_clean hG'.1) (fun eb => by
      have h1 := hG.1; have h2 := hG'.1; rw [eb] at h1; rw [h1] at h2; simp [groupObj, groupCells] at h2; omega) a1 a2 (group_c0 hG.1) (group_c0 hG'.1)
    refine this.mono fun e1 w1 ⟨he, hw⟩ => ⟨?_, hw⟩
    rw [he, decide_eq_true (by omega), decide_eq_true (by omega)]
  · have hgg : g = g' := by rw [heq] at hgi; rw [hgi] at hgi'; simpa using hgi'
    subst hgg
    have hll : l = l' := by
      have h1 : l = O.gs.take l.length := by rw [e]; simp
      have h2 : l' = O.gs.take l'.length := by rw [e']; simp
      rw [h1, h2, heq]
    subst hll
    have := less_same s.b t.b g.b s.minor t.minor w (group_clean hG.1) a1 a2 m1 m2
    refine this.mono fun e1 w1 ⟨he, hw⟩ => ⟨?_, hw⟩
    rw [he]
    congr 2
    rcases Nat.lt_trichotomy k k' with h1 | h1 | h1
    · have := pairwise_lt hmin hk hk' h1
      rw [decide_eq_true (by omega), decide_eq_true (by omega)]
    · subst h1
      have : s = t := by rw [hk] at hk'; simpa using hk'
      subst this
      simp
    · have := pairwise_lt hmin hk' hk h1
      rw [decide_eq_false (by omega), decide_eq_false (by omega)]
  · have ht := pairwise_lt h.wf.tags hgi' hgi hgt
    have hle : (stampsOf l').length + g'.ss.length ≤ (stampsOf l).length := by
      have : l' ++ [g'] <+: l := by
        have h1 : l' ++ [g'] = O.gs.take (l'.length + 1) := by rw [e', show l' ++ g' :: r' = (l' ++ [g']) ++ r' from by simp, List.take_left' (by simp)]
        have h2 : l = O.gs.take l.length := by rw [e]; simp
        rw [h1, h2]; exact List.take_prefix_take_left (by omega)
      obtain ⟨z, hz⟩ := this
      rw [← hz]; simp only [stampsOf_append, List.length_append, stampsOf_cons, stampsOf_nil, List.append_nil]; omega
    have := less_other s.b t.b g.b g'.b g.tag g'.tag w (group_clean hG.1) (group_clean hG'.1) (fun eb => by
      have h1 := hG.1; have h2 := hG'.1; rw [eb] at h1; rw [h1] at h2; simp [groupObj, groupCells] at h2; omega) a1 a2 (group_c0 hG.1) (group_c0 hG'.1)
    refine this.mono fun e1 w1 ⟨he, hw⟩ => ⟨?_, hw⟩
    rw [he, decide_eq_false (by omega), decide_eq_false (by omega)]
end
end Go.Proofs.Ytijceljhpbdnnaa
