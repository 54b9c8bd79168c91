/-
  New: the order with the stamp 0 alone. No condition.
-/
import Derived.Test.YtijceljhpbdnnaaSplitO
namespace Go.Proofs.Ytijceljhpbdnnaa
open Go.RowKit

/-- The order that New makes in a heap of n blocks. -/
def Ord.fresh (n : Nat) : Ord := { lb := n, all := .slice (some ⟨n + 3, 0, none⟩) 1 1, P := [some (n + 2)], gs := [⟨n + 1, 0, [⟨n + 2, 0, 0⟩], List.replicate 31 (.pointer none)⟩], moves := 0 }
theorem wf_fresh (n : Nat) : Wf (Ord.fresh n) := by
  refine ⟨?_, ?_, ?_, ?_, ?_, rfl, ?_, ?_, ?_, ?_, by simp [Ord.fresh], ?_⟩
  · intro g hg; simp [Ord.fresh] at hg; subst hg; simp
  · simp [Ord.fresh, Grp.foot]
  · simp [Ord.fresh]
  · intro s hs; simp [Ord.fresh] at hs; subst hs; rfl
  · intro i b h
    simp only [Ord.fresh] at h
    cases i with
    | zero => simp at h; exact ⟨⟨n + 2, 0, 0⟩, by simp [Ord.fresh], rfl, h⟩
    | succ i => simp at h
  · simp [Ord.fresh]
  · intro g hg; simp [Ord.fresh] at hg; subst hg; show 0 < space; unfold space; omega
  · intro g hg; simp [Ord.fresh] at hg; subst hg; simp
  · intro s hs; simp [Ord.fresh] at hs; subst hs; show 0 < space; unfold space; omega
  · intro g hg v hv
    have hg : g = ⟨n + 1, 0, [⟨n + 2, 0, 0⟩], List.replicate 31 (.pointer none)⟩ := by simpa [Ord.fresh] using hg
    subst hg
    have hv : v ∈ List.replicate 31 (Value.pointer none) := hv
    rw [List.eq_of_mem_replicate hv]
    rfl
abbrev heap4 (w : World) (a b c d : Obj) : World := (((w.alloc a).alloc b).alloc c).alloc d
theorem heap4_at (w : World) (a b c d : Obj) : (heap4 w a b c d).heap[w.heap.size]? = some a ∧ (heap4 w a b c d).heap[w.heap.size + 1]? = some b ∧ (heap4 w a b c d).heap[w.heap.size + 2]? = some c ∧ (heap4 w a b c d).heap[w.heap.size + 3]? = some d := by
  have h1 : (w.alloc a).heap[w.heap.size]? = some a := heap_alloc_at _ _
  have h2 : ((w.alloc a).alloc b).heap[w.heap.size + 1]? = some b := by have := heap_alloc_at (w.alloc a) b; rwa [World.size_alloc] at this
  have h3 : (((w.alloc a).alloc b).alloc c).heap[w.heap.size + 2]? = some c := by have := heap_alloc_at ((w.alloc a).alloc b) c; rwa [World.size_alloc, World.size_alloc] at this
  have h4 : (heap4 w a b c d).heap[w.heap.size + 3]? = some d := by have := heap_alloc_at (((w.alloc a).alloc b).alloc c) d; rwa [World.size_alloc, World.size_alloc, World.size_alloc] at this
  exact ⟨heap_alloc_old _ (heap_alloc_old _ (heap_alloc_old _ h1)), heap_alloc_old _ (heap_alloc_old _ h2), heap_alloc_old _ h3, h4⟩
set_option maxRecDepth 100000 in
theorem new_of (w : World) : Calls Try.prog 32 #[] w fun e w' => e = .returned (.pointer (some ⟨w.heap.size, 0, none⟩)) ∧ Inv w' (Ord.fresh w.heap.size) ∧ Kept (fun _ => False) w w' := by
  go_enter Try.func32, Try.ntmps32
  go_wp2
  go_ret
  refine ⟨rfl, ?_, (((Kept.refl _ w).alloc _).alloc _).alloc _ |>.alloc _⟩
  obtain ⟨h1, h2, h3, h4⟩ := heap4_at w (.cells #[.pointer (some ⟨w.heap.size + 1, 0, none⟩), .int .i64 1, .int .i64 0, .slice (some ⟨w.heap.size + 1 + 1 + 1, 0, none⟩) 1 1, .int .i64 1] 66)
    (.cells (groupCells 0 1 (ptr (w.heap.size + 2) :: List.replicate 31 (.pointer none)) none none) 71) (.cells #[.int .i64 0, .int .i64 0, .pointer (some ⟨w.heap.size + 1, 0, none⟩)] 73) (.cells #[.pointer (some ⟨w.heap.size + 1 + 1, 0, none⟩)] 67)
  refine ⟨h1, ⟨rfl, .inr ⟨w.heap.size + 3, 1, _, rfl, Nat.zero_le _, h4, Nat.le_refl _, by unfold maxLen; omega, rfl, rfl⟩⟩, ⟨⟨h2, rfl, ?_⟩, trivial⟩, wf_fresh _⟩
  intro s hs
  simp at hs
  subst hs
  exact h3
end Go.Proofs.Ytijceljhpbdnnaa
