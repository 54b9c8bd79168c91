/-
  A clone that is being made, in memory. Conditions: each theorem's own hypotheses.
-/
import Derived.Test.YtijceljhpbdnnaaCloneP
namespace Go.Proofs.Ytijceljhpbdnnaa
open Go.RowKit

def ptab (P : List (Option Nat)) : Obj := .cells (P.map fun o => Value.pointer (optp o)).toArray 67
/-- Where the table, the new list and the variable that holds it lie: the order of the statement is free. -/
structure Trio where
  tb : Nat
  nb : Nat
  ob : Nat
structure Trio.ok (T : Trio) (B : Nat) : Prop where
  t0 : B ≤ T.tb
  t1 : T.tb < B + 3
  n0 : B ≤ T.nb
  n1 : T.nb < B + 3
  o0 : B ≤ T.ob
  o1 : T.ob < B + 3
  tn : T.tb ≠ T.nb
  to : T.tb ≠ T.ob
  no : T.nb ≠ T.ob
/-- So many groups have been cloned: cs. -/
structure CAt (w : World) (O : Ord) (T : Trio) (i : Nat) (cs : List Grp) (W : World) : Prop where
  ok : T.ok w.heap.size
  looks : cs.map Grp.look = (O.gs.take i).map Grp.look
  list : W.heap[T.nb]? = some (listObj (headB none cs) O.gs.length O.moves (.slice (some ⟨T.tb, 0, none⟩) O.P.length O.P.length) (stampsOf O.gs).length)
  tab : W.heap[T.tb]? = some (ptab (setAll (List.replicate O.P.length none) (stampsOf cs)))
  out : W.heap[T.ob]? = some (.cells #[ptr T.nb] 27)
  last : W.heap[w.heap.size + 3]? = some (.cells #[.pointer (optp (lastB none cs))] 61)
  box : W.heap[w.heap.size + 4]? = some (.cells #[ptr O.lb] 97)
  seg : Seg W none cs none
  nodup : (foot cs).Nodup
  new : ∀ k, k ∈ foot cs → w.heap.size + 5 ≤ k
  below : Below w.heap.size w W
theorem CAt.frame {w W W' : World} {O : Ord} {T : Trio} {i : Nat} {cs : List Grp} (h : CAt w O T i cs W) (hb : ∀ k c t, W.heap[k]? = some (.cells c t (0, 0)) → (w.heap.size ≤ k) → W'.heap[k]? = W.heap[k]?) (hB : Below w.heap.size w W') : CAt w O T i cs W' := by
  have hk := seg_kind h.seg
  obtain ⟨t0, t1, n0, n1, o0, o1, tn, to, no⟩ := h.ok
  refine ⟨h.ok, h.looks, ?_, ?_, ?_, ?_, ?_, seg_frame h.seg (fun k hf => ?_), h.nodup, h.new, hB⟩
  · rw [hb _ _ _ h.list (by omega)]; exact h.list
  · rw [hb _ _ _ h.tab (by omega)]; exact h.tab
  · rw [hb _ _ _ h.out (by omega)]; exact h.out
  · rw [hb _ _ _ h.last (by omega)]; exact h.last
  · rw [hb _ _ _ h.box (by omega)]; exact h.box
  · obtain ⟨c, t, hc, _⟩ := hk k hf
    exact hb k c t hc (by have := h.new k hf; omega)
theorem CAt.alloc {w W : World} {O : Ord} {T : Trio} {i : Nat} {cs : List Grp} (h : CAt w O T i cs W) (o : Obj) : CAt w O T i cs (W.alloc o) :=
  h.frame (fun _ _ _ hc _ => Below.heap_alloc _ _ _ (heap_lt hc)) (h.below.alloc h.below.size _)
theorem CAt.drew {w W : World} {O : Ord} {T : Trio} {i : Nat} {cs : List Grp} (h : CAt w O T i cs W) : CAt w O T i cs W.drew :=
  h.frame (fun _ _ _ _ _ => rfl) h.below.drew
theorem CAt.putObj {w W : World} {O : Ord} {T : Trio} {i : Nat} {cs : List Grp} (h : CAt w O T i cs W) {b : Nat} {o : Obj} (o' : Obj) (hb : w.heap.size ≤ b) (ho : W.heap[b]? = some o) (hc : o.isCells = false) : CAt w O T i cs (W.putObj b o') :=
  h.frame (fun k c t hk _ => World.putObj_heap_other (fun e => by subst e; rw [hk] at ho; cases ho; cases hc)) (below_putObj h.below hb o')
/-- Within a group: so many stamps have been cloned: xs; hb is the new group's block. -/
structure InAt (w : World) (O : Ord) (T : Trio) (cs : List Grp) (g : Grp) (W : World) (hb k : Nat) (xs : List Stp) (wr : World) : Prop where
  len : xs.length = k
  looks : xs.map Stp.look = (g.ss.take k).map Stp.look
  grp : wr.heap[hb]? = some (groupObj g.tag g.ss.length (xs.map (fun s => ptr s.b) ++ g.arr.drop k) (lastB none cs) none)
  st : ∀ x, x ∈ xs → StampAt wr hb x
  tab : wr.heap[T.tb]? = some (ptab (setAll (List.replicate O.P.length none) (stampsOf cs ++ xs)))
  nodup : (xs.map (·.b)).Nodup
  new : ∀ x, x ∈ xs → hb < x.b
  kept : Kept (fun b => b = T.tb) W wr
theorem InAt.start {w W W1 : World} {O : Ord} {T : Trio} {i hb : Nat} {cs : List Grp} {g : Grp} (h : CAt w O T i cs W) (hk : Kept (fun _ => False) W W1) (hg : W1.heap[hb]? = some (groupObj g.tag g.ss.length g.arr (lastB none cs) none)) : InAt w O T cs g W hb 0 [] W1 :=
  ⟨rfl, rfl, by simpa using hg, fun x hx => by simp at hx, by rw [hk.block _ (heap_lt h.tab) (fun x => x)]; simpa using h.tab, by simp, fun x hx => by simp at hx, hk.mono (fun _ _ x => x.elim)⟩
theorem drop_set_core {α : Type} (xs l : List α) (x : α) {k : Nat} (hx : xs.length = k) (hk : k < l.length) : (xs ++ l.drop k).set k x = (xs ++ [x]) ++ l.drop (k + 1) := by
  subst hx
  rw [List.set_append_right _ _ (Nat.le_refl _), Nat.sub_self, List.drop_eq_getElem_cons hk, List.set_cons_zero]
  simp
/-- One stamp more. -/
theorem InAt.step {w W wr : World} {O : Ord} {T : Trio} {i hb k : Nat} {cs : List Grp} {g : Grp} {xs : List Stp} {s : Stp} (hC : CAt w O T i cs W) (h : InAt w O T cs g W hb k xs wr) (hs : g.ss[k]? = some s) (h32 : g.arr.length = 32) (hhb : W.heap.size ≤ hb) (hid : s.id < O.P.length) :
    InAt w O T cs g W hb (k + 1) (xs ++ [⟨wr.heap.size, s.id, s.minor⟩]) (((wr.alloc (stampObj s.id s.minor hb)).setCell ⟨hb, 2 + k, none⟩ (ptr wr.heap.size)).setCell ⟨T.tb, s.id, none⟩ (ptr wr.heap.size)) := by
  have hB := heap_lt hC.tab
  obtain ⟨t0, t1, n0, n1, o0, o1, tn, to, no⟩ := hC.ok
  have hhl := heap_lt h.grp
  have hbt : hb ≠ T.tb := by omega
  have hkl : k < g.arr.length := by
    have := (List.getElem?_eq_some_iff.1 hs).1
    simp [Grp.arr]; omega
  have hoth : ∀ b, b < wr.heap.size → b ≠ hb → b ≠ T.tb → (((wr.alloc (stampObj s.id s.minor hb)).setCell ⟨hb, 2 + k, none⟩ (ptr wr.heap.size)).setCell ⟨T.tb, s.id, none⟩ (ptr wr.heap.size)).heap[b]? = wr.heap[b]? := by
    intro b hb1 h1 h2
    rw [heap_set_other _ h2, heap_set_other _ h1]
    exact _root_.Go.heap_alloc_old _ _ hb1
  have hnew : (((wr.alloc (stampObj s.id s.minor hb)).setCell ⟨hb, 2 + k, none⟩ (ptr wr.heap.size)).setCell ⟨T.tb, s.id, none⟩ (ptr wr.heap.size)).heap[wr.heap.size]? = some (stampObj s.id s.minor hb) := by
    have hs := h.kept.size
    rw [heap_set_other _ (by omega), heap_set_other _ (by omega)]
    exact heap_alloc_at _ _
  refine ⟨by simp [h.len], ?_, ?_, ?_, ?_, ?_, ?_, ?_⟩
  · rw [List.map_append, h.looks, List.take_add_one, hs]
    simp [Stp.look]
  · rw [heap_set_other _ hbt, List.map_append]
    have := group_seta (heap_alloc_old (stampObj s.id s.minor hb) h.grp) k (by simp [h.len]; omega) (ptr wr.heap.size)
    rw [this, drop_set_core _ _ _ (by simp [h.len]) hkl]
    rfl
  · intro x hx
    rcases List.mem_append.1 hx with hx | hx
    · have hst := h.st x hx
      have h1 := h.new x hx
      have h2 := heap_lt hst
      unfold StampAt
      rw [hoth x.b h2 (by omega) (by have := h.kept.size; omega)]
      exact hst
    · simp only [List.mem_singleton] at hx
      subst hx
      exact hnew
  · rw [← List.append_assoc, setAll_snoc]
    have ht : ((wr.alloc (stampObj s.id s.minor hb)).setCell ⟨hb, 2 + k, none⟩ (ptr wr.heap.size)).heap[T.tb]? = some (ptab (setAll (List.replicate O.P.length none) (stampsOf cs ++ xs))) := by
      rw [heap_set_other _ (by omega)]
      exact heap_alloc_old _ h.tab
    have := heap_set_same (o := s.id) ht (ptr wr.heap.size)
    rw [this]
    simp [ptab, List.map_set]
  · rw [List.map_append]
    refine List.nodup_append.2 ⟨h.nodup, by simp, ?_⟩
    intro a ha b hb'
    simp only [List.map_cons, List.map_nil, List.mem_singleton] at hb'
    obtain ⟨x, hx, rfl⟩ := List.mem_map.1 ha
    have := heap_lt (h.st x hx)
    omega
  · intro x hx
    rcases List.mem_append.1 hx with hx | hx
    · exact h.new x hx
    · simp only [List.mem_singleton] at hx
      subst hx
      exact hhl
  · refine ((h.kept.alloc _).setCell (p := ⟨hb, 2 + k, none⟩) (fun (hh : hb < W.heap.size) => absurd hh (by omega)) _).setCell (p := ⟨T.tb, s.id, none⟩) (fun _ => rfl) _
end Go.Proofs.Ytijceljhpbdnnaa
