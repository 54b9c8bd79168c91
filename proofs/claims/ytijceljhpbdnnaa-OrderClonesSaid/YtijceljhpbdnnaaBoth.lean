/-
  The order and the reference together. Conditions: each theorem's own hypotheses on memory.
-/
import Derived.Test.YtijceljhpbdnnaaPick
import Derived.Test.YtijceljhpbdnnaaPairs
import Derived.Deep.RegionHeld3
namespace Go.Proofs.Ytijceljhpbdnnaa
open Go.RowKit

abbrev xobj (lb g n cap made : Nat) : Obj := .cells #[.pointer (some ⟨lb, 0, none⟩), .slice (some ⟨g, 0, none⟩) n cap, .int .i64 made] 32
/-- The order and the reference lie in w, and agree. -/
structure Both (w : World) (xb : Nat) (O : Ord) (g cap : Nat) : Prop where
  inv : Inv w O
  few : ∃ S p j, Few O S p j
  box : w.heap[xb]? = some (xobj O.lb g O.ids.length cap O.P.length)
  lies : Lies w g cap O.ids
  boxOff : ¬ O.own xb
  gOff : ¬ O.own g
  gx : g ≠ xb
/-- What an operation with both leaves. -/
structure Did (w w' : World) (xb : Nat) (O O' : Ord) (g g' cap' : Nat) : Prop where
  both : Both w' xb O' g' cap'
  made : O'.P.length ≤ O.P.length + 1
  own : ∀ k, k < w.heap.size → O'.own k → O.own k
  kept : Kept (fun k => O.own k ∨ k = xb) w w'
  old : g' = g ∨ w.heap.size ≤ g'
/-- Nothing of both is touched. -/
theorem Both.frame {w w' : World} {xb : Nat} {O : Ord} {g cap : Nat} {S : Nat → Prop} (h : Both w xb O g cap) (hK : Kept S w w') (hS : ∀ k, S k → ¬ O.own k ∧ k ≠ xb ∧ k ≠ g) : Both w' xb O g cap := by
  have hb : ∀ k, k < w.heap.size → ¬ S k → w'.heap[k]? = w.heap[k]? := hK.block
  refine ⟨h.inv.frame hK (fun k ho s => (hS k s).1 ho), h.few, ?_, h.lies.same (hb g h.lies.lt (fun s => (hS g s).2.2 rfl)), h.boxOff, h.gOff, h.gx⟩
  rw [hb xb (heap_lt h.box) (fun s => (hS xb s).2.1 rfl)]
  exact h.box
theorem Both.kept {w w' : World} {xb : Nat} {O : Ord} {g cap : Nat} (h : Both w xb O g cap) (hK : Kept (fun _ => False) w w') : Both w' xb O g cap := h.frame hK (fun _ s => s.elim)
theorem Both.cells {w : World} {xb : Nat} {O : Ord} {g cap : Nat} (h : Both w xb O g cap) :
    w.cell? ⟨xb, 0, none⟩ = some (.pointer (some ⟨O.lb, 0, none⟩)) ∧ w.cell? ⟨xb, 1, none⟩ = some (.slice (some ⟨g, 0, none⟩) O.ids.length cap) ∧ w.cell? ⟨xb, 2, none⟩ = some (.int .i64 O.P.length) ∧
    w.frozen? ⟨xb, 1, none⟩ = false ∧ w.frozen? ⟨xb, 2, none⟩ = false := by
  have a := h.box
  refine ⟨?_, ?_, ?_, ?_, ?_⟩
  · simp only [World.cell?]; rw [a]; rfl
  · simp only [World.cell?]; rw [a]; rfl
  · simp only [World.cell?]; rw [a]; rfl
  · simp only [World.frozen?]; rw [a]; rfl
  · simp only [World.frozen?]; rw [a]; rfl
abbrev opobj (kd a b : Int) (md : Bool) : Obj := .cells #[.int .i64 kd, .int .i64 a, .int .i64 b, .bool md] 58
/-- Within do, ahead of any change to both. -/
structure DoAt (w : World) (xb : Nat) (O : Ord) (g cap B : Nat) (kd a b : Int) (md : Bool) (W : World) : Prop where
  both : Both W xb O g cap
  op : W.heap[B]? = some (opobj kd a b md)
  kept : Kept (fun _ => False) w W
theorem DoAt.cells {w W : World} {xb : Nat} {O : Ord} {g cap B : Nat} {kd a b : Int} {md : Bool} (h : DoAt w xb O g cap B kd a b md W) :
    W.cell? ⟨B, 0, none⟩ = some (.int .i64 kd) ∧ W.cell? ⟨B, 1, none⟩ = some (.int .i64 a) ∧ W.cell? ⟨B, 2, none⟩ = some (.int .i64 b) ∧ W.cell? ⟨B, 3, none⟩ = some (.bool md) := by
  have a := h.op
  refine ⟨?_, ?_, ?_, ?_⟩ <;> (simp only [World.cell?]; rw [a]; rfl)
theorem DoAt.on {w W W' : World} {xb : Nat} {O : Ord} {g cap B : Nat} {kd a b : Int} {md : Bool} (h : DoAt w xb O g cap B kd a b md W) (hK : Kept (fun _ => False) W W') : DoAt w xb O g cap B kd a b md W' :=
  ⟨h.both.kept hK, by rw [hK.block B (heap_lt h.op) (fun x => x)]; exact h.op, h.kept.trans hK (fun _ _ x => x)⟩
theorem DoAt.start {w : World} {xb : Nat} {O : Ord} {g cap : Nat} {kd a b : Int} {md : Bool} (h : Both w xb O g cap) : DoAt w xb O g cap w.heap.size kd a b md (w.alloc (opobj kd a b md)) :=
  ⟨h.kept ((Kept.refl _ _).alloc _), heap_alloc_at _ _, (Kept.refl _ _).alloc _⟩
theorem made_bounds {w : World} {O : Ord} (h : Inv w O) : 0 < O.P.length ∧ O.P.length ≤ 100000 := by
  refine ⟨?_, h.wf.made⟩
  have h1 := h.wf.first
  unfold idsOf at h1
  rw [List.getElem?_map, Option.map_eq_some_iff] at h1
  obtain ⟨s, hs, h0⟩ := h1
  have := h.wf.tabled s (List.mem_of_getElem? hs)
  exact (List.getElem?_eq_some_iff.1 this).1 |> fun h => by omega
theorem keptDrew {w w' : World} (h : Kept (fun _ => False) w.drew w') : Kept (fun _ => False) w w' := ⟨h.os, h.tape, h.output, h.size, h.block⟩
/-- Nothing has changed. -/
theorem DoAt.did {w W W' : World} {xb : Nat} {O : Ord} {g cap B : Nat} {kd a b : Int} {md : Bool} (h : DoAt w xb O g cap B kd a b md W) (hK : Kept (fun _ => False) W W') : Did w W' xb O O g g cap :=
  ⟨h.both.kept hK, by omega, fun _ _ k => k, (h.kept.trans hK (fun _ _ x => x)).mono (fun _ _ x => x.elim), .inl rfl⟩
/-- The order has changed, the reference's answer is stored. -/
theorem DoAt.fin {w W w2 w3 : World} {xb : Nat} {O O' : Ord} {g cap B : Nat} {kd a b : Int} {md : Bool} {ids' : List Nat} {made' g' cap' : Nat} (h : DoAt w xb O g cap B kd a b md W) (hT : Turn W w2 O O' ids' made') (hm : made' ≤ O.P.length + 1) (hL : Left w2 w3 g ids' g' cap') (o : Obj) :
    Did w (((w3.setCell ⟨xb, 1, none⟩ (.slice (some ⟨g', 0, none⟩) ids'.length cap')).setCell ⟨xb, 2, none⟩ (.int .i64 (made' : Int))).alloc o) xb O O' g g' cap' := by
  obtain ⟨l1, l2, l3⟩ := hL
  have hx : xb < W.heap.size := heap_lt h.both.box
  have hg : g < W.heap.size := h.both.lies.lt
  have s1 := hT.kept.size
  have s2 := l3.size
  have s0 := h.kept.size
  have hxo : ¬ O'.own xb := fun k => h.both.boxOff (hT.own xb hx k)
  have hgx : g' ≠ xb := by
    rcases l2 with rfl | l2
    · exact h.both.gx
    · omega
  have hgo : ¬ O'.own g' := by
    intro k
    rcases l2 with rfl | l2
    · exact h.both.gOff (hT.own _ hg k)
    · have := hT.inv.own_lt k; omega
  have hK2 : Kept (fun k => k = xb) w2 (((w3.setCell ⟨xb, 1, none⟩ (.slice (some ⟨g', 0, none⟩) ids'.length cap')).setCell ⟨xb, 2, none⟩ (.int .i64 (made' : Int))).alloc o) :=
    (Kept.setCell (S := fun k => k = xb) (p := ⟨xb, 2, none⟩) (Kept.setCell (S := fun k => k = xb) (p := ⟨xb, 1, none⟩) (l3.mono (fun _ _ x => x.elim)) (fun _ => rfl) _) (fun _ => rfl) _).alloc o
  have hbox : w3.heap[xb]? = some (xobj O.lb g O.ids.length cap O.P.length) := by
    rw [l3.block xb (by omega) (fun x => x), hT.kept.block xb hx h.both.boxOff]
    exact h.both.box
  refine ⟨⟨hT.inv.frame hK2 (fun k hk e => hxo (e ▸ hk)), hT.few, ?_, ?_, hxo, hgo, hgx⟩, by rw [hT.made]; exact hm, fun k hk q => hT.own k (by omega) q, ?_, ?_⟩
  · have e1 := heap_set_same (o := 1) hbox (.slice (some ⟨g', 0, none⟩) ids'.length cap')
    have e2 := heap_set_same (o := 2) e1 (.int .i64 (made' : Int))
    rw [hT.ids, hT.made, hT.lb]
    exact heap_alloc_old _ e2
  · rw [hT.ids]
    refine lies_alloc (l1.same ?_) _
    rw [heap_set_other _ hgx, heap_set_other _ hgx]
  · refine (h.kept.mono (fun _ _ x => x.elim)).trans (hT.kept.mono (T := fun k => O.own k ∨ k = xb) (fun _ _ x => .inl x)) (fun _ _ x => x) |>.trans (hK2.mono (T := fun k => O.own k ∨ k = xb) (fun _ _ x => .inr x)) (fun _ _ x => x)
  · rcases l2 with rfl | l2
    · exact .inl rfl
    · exact .inr (by omega)
end Go.Proofs.Ytijceljhpbdnnaa
