/-
  A clone that is being made: a group is done. Conditions: each theorem's own hypotheses.
-/
import Derived.Test.YtijceljhpbdnnaaCloneA
namespace Go.Proofs.Ytijceljhpbdnnaa
open Go.RowKit

/-- What a round of Clone may change of what lay there. -/
def cset (w : World) (T : Trio) (cs : List Grp) (k : Nat) : Prop := k = T.tb ∨ k = T.nb ∨ k = w.heap.size + 3 ∨ k ∈ foot cs
/-- The new group. -/
abbrev newG (g : Grp) (hb : Nat) (xs : List Stp) : Grp := { b := hb, tag := g.tag, ss := xs, rest := g.rest }
theorem newG_arr {g : Grp} {hb k : Nat} {xs : List Stp} (hk : k = g.ss.length) : xs.map (fun s => ptr s.b) ++ g.arr.drop k = (newG g hb xs).arr := by
  subst hk
  simp [Grp.arr]
/-- The parts that are alike whether the new group is the first or not. W2: behind the link and the store to last. -/
theorem CAt.done {w W wr W2 : World} {O : Ord} {T : Trio} {i hb k : Nat} {cs : List Grp} {g : Grp} {xs : List Stp} (hC : CAt w O T i cs W) (h : InAt w O T cs g W hb k xs wr) (hk : k = g.ss.length) (hg : O.gs[i]? = some g) (h32 : g.arr.length = 32) (hhb : W.heap.size ≤ hb)
    (hkept : Kept (fun b => b = T.nb ∨ b = w.heap.size + 3 ∨ b ∈ foot cs) wr W2)
    (hlist : W2.heap[T.nb]? = some (listObj (headB none (cs ++ [newG g hb xs])) O.gs.length O.moves (.slice (some ⟨T.tb, 0, none⟩) O.P.length O.P.length) (stampsOf O.gs).length))
    (hlast : W2.heap[w.heap.size + 3]? = some (.cells #[ptr hb] 61)) (hseg : Seg W2 none cs (some hb)) : CAt w O T (i + 1) (cs ++ [newG g hb xs]) W2 ∧ Kept (cset w T cs) W W2 := by
  obtain ⟨t0, t1, n0, n1, o0, o1, tn, to, no⟩ := hC.ok
  have hf5 : ∀ q, q ∈ foot cs → q < W.heap.size := fun q hq => seg_lt hC.seg q hq
  have hnew := hC.new
  have hbx := heap_lt hC.box
  have hwr := h.kept.size
  have hW2 : Kept (cset w T cs) W W2 := by
    refine (h.kept.mono (T := cset w T cs) (fun _ _ x => .inl x)).trans (hkept.mono (T := cset w T cs) (fun _ _ x => .inr x)) (fun _ _ x => x)
  have hsame : ∀ q, q < wr.heap.size → q ≠ T.nb → q ≠ w.heap.size + 3 → q ∉ foot cs → W2.heap[q]? = wr.heap[q]? := by
    intro q hq h1 h2 h3
    exact hkept.block q hq (fun x => by rcases x with x | x | x <;> contradiction)
  have hhl := heap_lt h.grp
  have hhbf : hb ∉ foot cs := fun x => by have := hf5 hb x; omega
  have hgrp : W2.heap[hb]? = some (groupObj g.tag g.ss.length (newG g hb xs).arr (lastB none cs) none) := by
    rw [hsame hb hhl (by omega) (by omega) hhbf, h.grp, newG_arr hk]
  have hst : ∀ x, x ∈ xs → StampAt W2 hb x := by
    intro x hx
    have h1 := h.new x hx
    have h2 := heap_lt (h.st x hx)
    unfold StampAt
    rw [hsame x.b h2 (by omega) (by omega) (fun y => by have := hf5 x.b y; omega)]
    exact h.st x hx
  have hlen : xs.length = g.ss.length := by rw [h.len, hk]
  refine ⟨⟨hC.ok, ?_, hlist, ?_, ?_, ?_, ?_, ?_, ?_, ?_, ?_⟩, hW2⟩
  · rw [List.map_append, hC.looks, List.take_add_one, hg, List.map_append]
    congr 1
    have := h.looks
    rw [hk, List.take_length] at this
    simp [Grp.look, this]
  · rw [hsame _ (heap_lt h.tab) (by omega) (by omega) (fun y => by have := hnew _ y; omega), h.tab]
    simp
  · rw [hsame T.ob (by omega) (by omega) (by omega) (fun y => by have := hnew _ y; omega), h.kept.block _ (heap_lt hC.out) (by omega)]
    exact hC.out
  · rw [hlast]; simp [lastB]
  · rw [hsame (w.heap.size + 4) (by omega) (by omega) (by omega) (fun y => by have := hnew _ y; omega), h.kept.block _ hbx (by omega)]
    exact hC.box
  · refine seg_append.2 ⟨hseg, ⟨?_, ?_, hst⟩, trivial⟩
    · show W2.heap[hb]? = some (groupObj g.tag xs.length (newG g hb xs).arr (lastB none cs) none)
      rw [hgrp, hlen]
    · have := newG_arr (g := g) (hb := hb) (xs := xs) hk
      rw [← this, List.length_append, List.length_map, List.length_drop, h32, h.len, hk]
      have : g.ss.length ≤ 32 := by simp [Grp.arr] at h32; omega
      omega
  · rw [foot_append]
    refine List.nodup_append.2 ⟨hC.nodup, ?_, ?_⟩
    · simp only [foot_cons, foot_nil, List.append_nil, Grp.foot]
      refine List.nodup_cons.2 ⟨fun hx => ?_, h.nodup⟩
      obtain ⟨x, hx, e⟩ := List.mem_map.1 hx
      have := h.new x hx
      omega
    · intro a ha b hb' e
      subst e
      have h1 := hf5 a ha
      simp only [foot_cons, foot_nil, List.append_nil, Grp.foot, List.mem_cons, List.mem_map] at hb'
      rcases hb' with rfl | ⟨x, hx, rfl⟩
      · omega
      · have := h.new x hx; omega
  · intro q hq
    rw [foot_append, List.mem_append] at hq
    rcases hq with hq | hq
    · exact hnew q hq
    · simp only [foot_cons, foot_nil, List.append_nil, Grp.foot, List.mem_cons, List.mem_map] at hq
      rcases hq with rfl | ⟨x, hx, rfl⟩
      · omega
      · have := h.new x hx; omega
  · refine hC.below.trans (hW2.below (by have := hC.below.size; omega) (fun q hq => ?_))
    rcases hq with rfl | rfl | rfl | hq
    · omega
    · omega
    · omega
    · have := hnew q hq; omega
/-- The first group. -/
theorem CAt.first {w W wr : World} {O : Ord} {T : Trio} {i hb k : Nat} {g : Grp} {xs : List Stp} (hC : CAt w O T i [] W) (h : InAt w O T [] g W hb k xs wr) (hk : k = g.ss.length) (hg : O.gs[i]? = some g) (h32 : g.arr.length = 32) (hhb : W.heap.size ≤ hb) :
    CAt w O T (i + 1) ([] ++ [newG g hb xs]) ((wr.setCell ⟨T.nb, 0, none⟩ (ptr hb)).setCell ⟨w.heap.size + 3, 0, none⟩ (ptr hb)) ∧ Kept (cset w T []) W ((wr.setCell ⟨T.nb, 0, none⟩ (ptr hb)).setCell ⟨w.heap.size + 3, 0, none⟩ (ptr hb)) := by
  obtain ⟨t0, t1, n0, n1, o0, o1, tn, to, no⟩ := hC.ok
  have hl : wr.heap[T.nb]? = _ := (h.kept.block _ (heap_lt hC.list) (by omega)).trans hC.list
  have hl3 : wr.heap[w.heap.size + 3]? = _ := (h.kept.block _ (heap_lt hC.last) (by omega)).trans hC.last
  refine hC.done h hk hg h32 hhb ?_ ?_ ?_ trivial
  · exact ((Kept.refl _ _).setCell (p := ⟨T.nb, 0, none⟩) (fun _ => .inl rfl) _).setCell (p := ⟨w.heap.size + 3, 0, none⟩) (fun _ => .inr (.inl rfl)) _
  · rw [heap_set_other _ (by omega)]
    exact list_set0 hl (some hb)
  · have := heap_set_same (o := 0) (show (wr.setCell ⟨T.nb, 0, none⟩ (ptr hb)).heap[w.heap.size + 3]? = _ by rw [heap_set_other _ (by omega)]; exact hl3) (ptr hb)
    rw [this]
    rfl
/-- A later group. -/
theorem CAt.later {w W wr : World} {O : Ord} {T : Trio} {i hb k : Nat} {cs0 : List Grp} {p : Grp} {g : Grp} {xs : List Stp} (hC : CAt w O T i (cs0 ++ [p]) W) (h : InAt w O T (cs0 ++ [p]) g W hb k xs wr) (hk : k = g.ss.length) (hg : O.gs[i]? = some g) (h32 : g.arr.length = 32) (hhb : W.heap.size ≤ hb) :
    CAt w O T (i + 1) ((cs0 ++ [p]) ++ [newG g hb xs]) ((wr.setCell ⟨p.b, 35, none⟩ (ptr hb)).setCell ⟨w.heap.size + 3, 0, none⟩ (ptr hb)) ∧ Kept (cset w T (cs0 ++ [p])) W ((wr.setCell ⟨p.b, 35, none⟩ (ptr hb)).setCell ⟨w.heap.size + 3, 0, none⟩ (ptr hb)) := by
  obtain ⟨t0, t1, n0, n1, o0, o1, tn, to, no⟩ := hC.ok
  have hl : wr.heap[T.nb]? = _ := (h.kept.block _ (heap_lt hC.list) (by omega)).trans hC.list
  have hl3 : wr.heap[w.heap.size + 3]? = _ := (h.kept.block _ (heap_lt hC.last) (by omega)).trans hC.last
  have hpf : p.b ∈ foot (cs0 ++ [p]) := by simp [Grp.foot]
  have hp5 := hC.new _ hpf
  have hsegr : Seg wr none (cs0 ++ [p]) none := seg_frame hC.seg (fun q hq => h.kept.block q (seg_lt hC.seg q hq) (by have := hC.new q hq; omega))
  have hG := (seg_append.1 hsegr).2.1
  refine hC.done h hk hg h32 hhb ?_ ?_ ?_ ?_
  · exact ((Kept.refl _ _).setCell (p := ⟨p.b, 35, none⟩) (fun _ => .inr (.inr hpf)) _).setCell (p := ⟨w.heap.size + 3, 0, none⟩) (fun _ => .inr (.inl rfl)) _
  · rw [heap_set_other _ (by omega), heap_set_other _ (by omega), hl]
    cases cs0 <;> rfl
  · have := heap_set_same (o := 0) (show (wr.setCell ⟨p.b, 35, none⟩ (ptr hb)).heap[w.heap.size + 3]? = _ by rw [heap_set_other _ (by omega)]; exact hl3) (ptr hb)
    rw [this]
    rfl
  · refine seg_relink hsegr (fun q hq hne => ?_) hC.nodup ?_
    · have := hC.new q hq
      rw [heap_set_other _ (by omega), heap_set_other _ hne]
    · rw [heap_set_other _ (by omega)]
      exact group_set35 hG.1 hG.2.1 (some hb)
end Go.Proofs.Ytijceljhpbdnnaa
