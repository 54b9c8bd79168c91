/-
  after: the groups' tags spread first. Conditions: each theorem's own hypotheses on memory.
-/
import Derived.Test.YtijceljhpbdnnaaAfter
import Derived.Test.YtijceljhpbdnnaaStamps
namespace Go.Proofs.Ytijceljhpbdnnaa
open Go.RowKit

def spreadGs (gs : List Grp) : List Grp := gs.mapIdx fun j g => { g with tag := tagOf gs.length j }
/-- A group without its tag. -/
def Grp.core (g : Grp) : Nat × List Stp × List Value := (g.b, g.ss, g.rest)
theorem core_spread (gs : List Grp) : (spreadGs gs).map Grp.core = gs.map Grp.core := by
  unfold spreadGs
  exact List.ext_getElem? (fun i => by simp [List.getElem?_mapIdx, Grp.core, Function.comp_def]; rfl)
theorem core_bs {gs gs' : List Grp} (h : gs'.map Grp.core = gs.map Grp.core) : gs'.map (·.b) = gs.map (·.b) := by
  have := congrArg (List.map (fun c : Nat × List Stp × List Value => c.1)) h
  simpa [Grp.core, Function.comp_def] using this
theorem core_foot {gs gs' : List Grp} (h : gs'.map Grp.core = gs.map Grp.core) : foot gs' = foot gs := by
  have := congrArg (fun l => List.flatMap (fun c : Nat × List Stp × List Value => c.1 :: c.2.1.map (·.b)) l) h
  simp only [Grp.core, List.flatMap_map] at this
  exact this
theorem core_stamps {gs gs' : List Grp} (h : gs'.map Grp.core = gs.map Grp.core) : stampsOf gs' = stampsOf gs := by
  have := congrArg (fun l => List.flatMap (fun c : Nat × List Stp × List Value => c.2.1) l) h
  simpa [Grp.core, List.flatMap_map, stampsOf] using this
theorem core_over {gs gs' : List Grp} (h : gs'.map Grp.core = gs.map Grp.core) : over gs' = over gs := by
  have := congrArg (fun l => (List.map (fun c : Nat × List Stp × List Value => c.2.1.length - 16) l).sum) h
  simpa [Grp.core, Function.comp_def, over] using this
theorem headB_bs {gs gs' : List Grp} (nx : Option Nat) (h : gs'.map (·.b) = gs.map (·.b)) : headB nx gs' = headB nx gs := by
  cases gs with
  | nil => simp at h; simp [h]
  | cons g gs => cases gs' with
    | nil => simp at h
    | cons g' gs' => simp at h; simp [headB, h.1]
theorem lastB_bs {gs gs' : List Grp} (h : gs'.map (·.b) = gs.map (·.b)) : ∀ pv, lastB pv gs' = lastB pv gs := by
  induction gs generalizing gs' with
  | nil => intro pv; simp at h; simp [h]
  | cons g gs ih => intro pv; cases gs' with
    | nil => simp at h
    | cons g' gs' => simp at h; simp [lastB, h.1, ih h.2]
theorem gapart_of {gs : List Grp} (nd : (foot gs).Nodup) : Gapart gs := by
  have hbs : (gs.map (·.b)).Nodup := by
    refine List.Nodup.sublist ?_ nd
    clear nd
    induction gs with
    | nil => simp
    | cons g gs ih =>
      simp only [List.map_cons, foot_cons, Grp.foot, List.cons_append]
      exact List.Sublist.cons_cons _ (ih.trans (List.sublist_append_right _ _))
  intro j k x y hj hk e
  have h1 : (gs.map (·.b))[j]? = some x.b := by simp [hj]
  have h2 : (gs.map (·.b))[k]? = some x.b := by simp [hk, e]
  have hjl := (List.getElem?_eq_some_iff.1 h1).1
  exact (List.getElem?_inj hjl hbs).1 (h1.trans h2.symm)
theorem SpreadRel.seg {w wr : World} {lb : Nat} {gs : List Grp} {first : Option Nat} {many moves : Nat} {all : Value} {nn : Nat}
    (h : SpreadRel w lb gs first many moves all nn gs.length wr) (hS : Seg w none gs none) (nd : (foot gs).Nodup) (hl : w.heap[lb]? = some (listObj first many moves all nn)) : Seg wr none (spreadGs gs) none := by
  refine seg_of_at (fun j y hy => ?_)
  simp only [spreadGs, List.getElem?_mapIdx, Option.map_eq_some_iff] at hy
  obtain ⟨x, hx, rfl⟩ := hy
  have hj := (List.getElem?_eq_some_iff.1 hx).1
  have hb : ∀ (f : List Grp → List Grp), (∀ a b : List Grp, a.map (·.b) = b.map (·.b) → (f a).map (·.b) = (f b).map (·.b)) → (f (spreadGs gs)).map (·.b) = (f gs).map (·.b) := fun f hf => hf _ _ (core_bs (core_spread gs))
  have hG := seg_at hS hx
  refine ⟨?_, hG.2.1, fun s hs => ?_⟩
  · rw [lastB_bs (hb (fun l => l.take j) (fun a b e => by rw [List.map_take, List.map_take, e])), headB_bs _ (hb (fun l => l.drop (j + 1)) (fun a b e => by rw [List.map_drop, List.map_drop, e]))]
    have := h.groups j x hx
    rwa [if_pos hj] at this
  · have hst := hG.2.2 s hs
    show wr.heap[s.b]? = _
    rw [h.kept.block s.b (heap_lt hst)]
    · exact hst
    · rintro (e | ⟨g', hg', e⟩)
      · exact ne_list_stamp hl hst e.symm
      · obtain ⟨p, n, hG'⟩ := seg_group hS hg'
        exact ne_group_stamp hG'.1 hst e
theorem spread_at {l r : List Grp} {g : Grp} : ∃ l' g' r', spreadGs (l ++ g :: r) = l' ++ g' :: r' ∧ l'.length = l.length ∧ g'.core = g.core ∧ g'.tag = tagOf (l ++ g :: r).length l.length := by
  have hlen : l.length < (spreadGs (l ++ g :: r)).length := by simp [spreadGs]
  refine ⟨(spreadGs (l ++ g :: r)).take l.length, (spreadGs (l ++ g :: r))[l.length], (spreadGs (l ++ g :: r)).drop (l.length + 1), ?_, by rw [List.length_take]; omega, ?_, ?_⟩
  · rw [← List.drop_eq_getElem_cons hlen, List.take_append_drop]
  · simp [spreadGs, Grp.core]
  · simp [spreadGs]
abbrev lbox (w : World) (lb : Nat) : World := w.alloc (.cells #[.pointer (some ⟨lb, 0, none⟩)] 97)

/-- What Collect gives for after. -/
structure Gathered (w w' : World) (gb : Nat) (gs : List Grp) (rb : Nat) (cur : Array Value) : Prop where
  kept : Kept (fun _ => False) w w'
  box : w'.heap[w.heap.size]? = some (.cells #[.pointer (some ⟨gb, 0, none⟩)] 61 (0, 0))
  size : w.heap.size + 2 ≤ w'.heap.size
  rb : w'.heap[rb]? = some (.cells cur 61 (0, 0))
  cur : ∀ (j : Nat) g, gs[j]? = some g → cur[j]? = some (ptr g.b)
theorem gather (w : World) (lb gb : Nat) (gs : List Grp) (m : Nat) (hr : Reads gs lb w) (hlb : lb < w.heap.size) (hgl : ∀ g, g ∈ gs → g.b < w.heap.size) (hlen : gs.length ≤ 100000) (hne : gs ≠ []) :
    Calls Try.prog 59 #[.func (.func 57) #[] #[.pointer (some ⟨w.heap.size + 1, 0, none⟩)]] (lbox ((gbox w gb).drewN m) lb)
      fun e w' => ∃ rb cap cur, e = .returned (.slice (some ⟨rb, 0, none⟩) gs.length cap) ∧ Gathered w w' gb gs rb cur := by
  have hsz : ((gbox w gb).drewN m).heap.size = w.heap.size + 1 := World.size_alloc _ _
  have hb0 : Below w.heap.size w (lbox ((gbox w gb).drewN m) lb) := (((Kept.refl (fun _ => False) w).alloc _).drewN m |>.alloc _).below (Nat.le_refl _) (fun _ h => h.elim)
  have hsz2 : (lbox ((gbox w gb).drewN m) lb).heap.size = w.heap.size + 2 := by rw [lbox, World.size_alloc, hsz]
  have hbx : (lbox ((gbox w gb).drewN m) lb).cell? ⟨w.heap.size + 1, 0, none⟩ = some (.pointer (some ⟨lb, 0, none⟩)) := by
    have := heap_alloc_at ((gbox w gb).drewN m) (.cells #[.pointer (some ⟨lb, 0, none⟩)] 97)
    rw [hsz] at this
    rw [cell_of_block this]; rfl
  have hgb : (lbox ((gbox w gb).drewN m) lb).heap[w.heap.size]? = some (.cells #[.pointer (some ⟨gb, 0, none⟩)] 61 (0, 0)) := heap_alloc_old _ (heap_alloc_at w _)
  refine (collect_of _ (w.heap.size + 1) lb gs hbx (by omega) (hr.of_below hb0 hlb hgl) (by omega) (fun g hg => by have := hgl g hg; omega) hlen).mono ?_
  rintro e w' ⟨v, rfl, h1, h2⟩
  rw [hsz2] at h2
  obtain ⟨h1, h3⟩ := h1
  rcases h3 with ⟨_, h3⟩ | ⟨rb, cap, cur, rfl, _, hg, hc1, _, hs, ht⟩
  · exact absurd (List.length_eq_zero_iff.1 h3) hne
  refine ⟨rb, cap, cur, rfl, ⟨⟨h2.os.trans hb0.os, h2.tape.trans hb0.tape, h2.output.trans hb0.output, by have := h2.size; omega, fun k hk _ => (h2.block k (by omega)).trans (hb0.block k hk)⟩, ?_, by have := h2.size; omega, hg, fun j g hj => ?_⟩⟩
  · rw [h2.block _ (by omega)]; exact hgb
  · have hj' : j < gs.length := (List.getElem?_eq_some_iff.1 hj).1
    have h3 : (cur.toList.take (gs.length * 1))[j]? = some (ptr g.b) := by rw [ht]; simp [hj]
    rw [List.getElem?_take, if_pos (by omega)] at h3
    simpa using h3
end Go.Proofs.Ytijceljhpbdnnaa
