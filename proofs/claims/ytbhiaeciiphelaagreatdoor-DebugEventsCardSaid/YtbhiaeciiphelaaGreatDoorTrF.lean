/-
  DERIVED. Nodes as trees in memory; nodes that are the same trees are alike to the reference. Condition: they lie in memory.
-/
import Derived.Test.YtbhiaeciiphelaaGreatDoorTrA
namespace Go.Proofs.YtbhiaeciiphelaaGreatDoor
open Go.RowKit
def NodesAt (w : World) (A : Nat → Prop) (e : Nat) : Nat → List ND → Value → Prop
  | 0, l, v => l = [] ∧ ∃ p c, v = .slice p 0 c
  | d + 1, l, v => ∃ p c, v = .slice p l.length c ∧ l.length * 184 ≤ 140737488355328 ∧
      ∀ (j : Nat) (mod : Bool) (site addr : Int) (args : List RV) (seen wrote : RV) (kids : List ND), l[j]? = some (.mk mod site addr args seen wrote kids) → ∃ g o va s0 s1 s2 s3 w0 w1 w2 w3 vk, p = some ⟨g, o, none⟩ ∧ ¬ A g ∧
        (∀ (i : Nat) (v : Value), ([.bool mod, .int .i64 site, .int .i64 addr, va, s0, s1, s2, s3, w0, w1, w2, w3, vk] : List Value)[i]? = some v → w.cell? ⟨g, o + j * 13 + i, none⟩ = some v) ∧
        RunsAt w A e va args ∧ RunAt w A e seen [s0, s1, s2, s3] ∧ RunAt w A e wrote [w0, w1, w2, w3] ∧ NodesAt w A e d kids vk
theorem NodesAt.form {w : World} {A : Nat → Prop} {e d : Nat} {l : List ND} {v : Value} (h : NodesAt w A e d l v) : ∃ p c, v = .slice p l.length c := by
  cases d with
  | zero =>
    obtain ⟨rfl, p, c, rfl⟩ := h
    exact ⟨p, c, rfl⟩
  | succ d =>
    obtain ⟨p, c, rfl, _⟩ := h
    exact ⟨p, c, rfl⟩
theorem NodesAt.keep {w w' : World} {A A' : Nat → Prop} {e : Nat} (hk : ∀ (g : Nat) (o : Obj), w.heap[g]? = some o → ¬ A g → w'.heap[g]? = some o ∧ ¬ A' g) : ∀ {d : Nat} {l : List ND} {v : Value}, NodesAt w A e d l v → NodesAt w' A' e d l v
  | 0, _, _, h => h
  | d + 1, l, v, h => by
    obtain ⟨p, c, rfl, hl, h1⟩ := h
    refine ⟨p, c, rfl, hl, fun j mod site addr args seen wrote kids hj => ?_⟩
    obtain ⟨g, o, va, s0, s1, s2, s3, w0, w1, w2, w3, vk, rfl, hA, hc, ha, hs, hw, hk2⟩ := h1 j mod site addr args seen wrote kids hj
    have hg := World.block_lt_of_cell? _ _ (hc 0 _ rfl)
    obtain ⟨h5, h6⟩ := hk g _ (Array.getElem?_eq_getElem hg) hA
    refine ⟨g, o, va, s0, s1, s2, s3, w0, w1, w2, w3, vk, rfl, h6, fun i v hi => ?_, ha.keep hk, hs.keep hk, hw.keep hk, NodesAt.keep hk hk2⟩
    rw [World.cell?_of_block (w := w) (a := ⟨g, o + j * 13 + i, none⟩) (by rw [h5, Array.getElem?_eq_getElem hg])]
    exact hc i v hi
end Go.Proofs.YtbhiaeciiphelaaGreatDoor
