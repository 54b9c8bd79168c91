/-
  A range over a function whose rounds all go on, at the wide fence; rounds may call a yield of another loop. Conditions: each theorem's own hypotheses.
-/
import Derived.Test.YtbhiaeciiphelaaGreatDoorEvZ
import Derived.RangeFuncNested
import Derived.RangeFuncBound
import Derived.RangeFuncCalls
import Derived.RangeFuncLeaves
import Derived.Shelf.Abstract
import Derived.Shelf.RegionOpen
import Derived.OwnWalkIn
import Derived.TacticsInMore
import Derived.LoopNIn
import Derived.LoopIn
namespace Go.Proofs.YtbhiaeciiphelaaGreatDoor
open Go.RowKit Go.Shelf

/-- What a round of a loop never turns: blocks that are no cells, and the boxes of chains and yields; but for the blocks of X. -/
def Obj.firm : Obj → Bool
  | .cells _ _ _ => false
  | _ => true
structure KeepNC (X : Nat → Prop) (W W' : World) : Prop where
  size : W.heap.size ≤ W'.heap.size
  same : ∀ b o, ¬ X b → W.heap[b]? = some o → Obj.firm o = true → W'.heap[b]? = some o
theorem KeepNC.refl (X : Nat → Prop) (W : World) : KeepNC X W W := ⟨Nat.le_refl _, fun _ _ _ h _ => h⟩
theorem KeepNC.trans {X : Nat → Prop} {A B C : World} (h : KeepNC X A B) (k : KeepNC X B C) : KeepNC X A C :=
  ⟨Nat.le_trans h.size k.size, fun b o hx hb ho => k.same b o hx (h.same b o hx hb ho) ho⟩
theorem KeepNC.mono {X Y : Nat → Prop} {A B : World} (h : KeepNC X A B) (hXY : ∀ b, X b → Y b) : KeepNC Y A B := ⟨h.size, fun b o hy => h.same b o (fun hx => hy (hXY b hx))⟩
theorem KeepNC.drewN {X : Nat → Prop} {A B : World} (h : KeepNC X A B) (n : Nat) : KeepNC X A (B.drewN n) := ⟨h.size, h.same⟩
theorem KeepNC.drew {X : Nat → Prop} {A B : World} (h : KeepNC X A B) : KeepNC X A B.drew := ⟨h.size, h.same⟩
theorem KeepNC.alloc {X : Nat → Prop} {A B : World} (h : KeepNC X A B) (o : Obj) : KeepNC X A (B.alloc o) :=
  ⟨Nat.le_trans h.size (by simp), fun b o' hx hb ho => by have := h.same b o' hx hb ho; rw [Below.heap_alloc _ _ _ (lt_of_block this)]; exact this⟩
theorem KeepNC.setCell {X : Nat → Prop} {A B : World} (h : KeepNC X A B) (p : Addr) (v : Value) (hp : ∀ o, B.heap[p.block]? = some o → Obj.firm o = false) : KeepNC X A (B.setCell p v) := by
  refine ⟨Nat.le_trans h.size (by simp [World.setCell]), fun b o hx hb ho => ?_⟩
  have h1 := h.same b o hx hb ho
  rw [Below.heap_setCell _ _ _ _ (fun e => by subst e; have := hp _ h1; rw [ho] at this; cases this)]; exact h1
theorem KeepNC.grown {X : Nat → Prop} {A B C : World} (h : KeepNC X A B) {row : Option Nat} (hg : B.grownBy C row) (hr : ∀ k, row = some k → ∀ o, B.heap[k]? = some o → Obj.firm o = false) : KeepNC X A C := by
  refine ⟨Nat.le_trans h.size hg.size, fun b o hx hb ho => ?_⟩
  have h1 := h.same b o hx hb ho
  rw [hg.block b (lt_of_block h1) (fun e => by have := hr b e.symm _ h1; rw [ho] at this; cases this)]
  exact h1
theorem KeepNC.kept {X S : Nat → Prop} {A B C : World} (h : KeepNC X A B) (hk : Kept S B C) (hS : ∀ b, S b → ∀ o, B.heap[b]? = some o → Obj.firm o = false) : KeepNC X A C := by
  refine ⟨Nat.le_trans h.size hk.size, fun b o hx hb ho => ?_⟩
  have h1 := h.same b o hx hb ho
  rw [hk.block b (lt_of_block h1) (fun e => by have := hS b e _ h1; rw [ho] at this; cases this)]
  exact h1
/-- One round of loop l: yield called with args. (At the wide fence no number of frames matters.) -/
def Yields (l : Nat) (args : Array Value) (W : World) (R : Ending → World → Prop) : Prop := YieldAt Fence.wide 0 Tryz.prog l args W R
theorem roundIn_any {m : Nat} (m' : Nat) {l : Nat} {f : FuncId} {tmps : Array Value} {assign body : Code} {w : World} {R : Ending → World → Prop}
    (h : RoundIn Fence.wide m Tryz.prog l f tmps assign body w R) : RoundIn Fence.wide m' Tryz.prog l f tmps assign body w R := ⟨trivial, fun c cs _ => h.2 c cs (room_wide _)⟩
theorem roundIn_inRound {m : Nat} (l' : Nat) {l : Nat} {f : FuncId} {tmps : Array Value} {assign body : Code} {w : World} {R : Ending → World → Prop}
    (h : RoundIn Fence.wide m Tryz.prog l f tmps assign body w R) : RoundIn (Fence.wide.inRound l') m Tryz.prog l f tmps assign body w R := h

/-- What a round's body must come to. -/
def goesOn (l : Nat) (rec : Loop) (X : Nat → Prop) (J : World → Prop) (W : World) : Exit → Act → World → Prop
  | .normal, _, W' => W'.heap[l]? = some (.loop rec) ∧ W'.heap[rec.defers]? = some (.deferred (some [])) ∧ KeepNC X W W' ∧ J W'
  | _, _, _ => False

theorem wpIn_range {g : Operand} {ps : Array Tmp} {assign body : Code} {Q : Exit → Act → World → Prop} {a : Act} {w : World} {n : Nat}
    {gf : Nat} {lb : Array Value} (hg : a.eval g = .func (.func gf) #[] lb) (eg : ∀ args w, (callFunc gf args).run Tryz.prog w = .ok (.enter gf args) w)
    (N : Nat) (x : Nat → Array Value) (J : Nat → World → Prop) (X : Nat → Prop) (_hX : ∀ b, X b → b < w.heap.size)
    (hps : ∀ i, (x i).size = ps.size)
    (hJa : ∀ i W o, J i W → J i (W.alloc o)) (hJd : ∀ i W, J i W → J i W.drew)
    (hJp : ∀ i W b o o', J i W → w.heap.size ≤ b → W.heap[b]? = some o → o.isCells = false → J i (W.putObj b o'))
    (h0 : J 0 w)
    (hiter : ∀ (l : Nat) (J' : Nat → World → Prop) (W : World), (∀ i W', J' i W' → J i W') → J' 0 W → l < W.heap.size → w.heap.size ≤ W.heap.size →
      (∀ i W' o, J' i W' → J' i (W'.alloc o)) → (∀ i W', J' i W' → J' i W'.drew) →
      (∀ i W' b o o', J' i W' → W.heap.size ≤ b → W'.heap[b]? = some o → o.isCells = false → J' i (W'.putObj b o')) →
      (∀ i W1, i < N → J' i W1 → Yields l (x i) W1 fun e W' => e = .returned (.bool true) ∧ J' (i + 1) W' ∧ KeepNC (fun b => X b ∨ b = l) W1 W') →
      CallsIn Fence.wide (n - 1) Tryz.prog gf (#[.func (.yield l) #[] #[]] ++ lb) W fun e W' => (∃ v, e = .returned v) ∧ J' N W')
    (a₁ : Nat → Act)
    (hassign : ∀ (l i : Nat) (W : World) (K : Act → World → Prop), K (a₁ i) W →
      assign.wpIn (Fence.wide.inRound l) 0 Tryz.prog (Exit.then K (fun _ _ _ => False)) { tmps := (ps.zip (x i)).foldl (fun t (p, v) => t.setIfInBounds p v) a.tmps, defers := [] } W)
    (hbody : ∀ (l i : Nat) (rec : Loop) (W : World), i < N → w.heap.size < l → rec.defers = w.heap.size → W.heap[l]? = some (.loop rec) → W.heap[w.heap.size]? = some (.deferred (some [])) → J i W →
      body.wpIn (Fence.wide.inRound l) 0 Tryz.prog (goesOn l rec X (J (i + 1)) W) (a₁ i) W)
    (hdone : ∀ (D : Nat) (W : World), w.heap.size ≤ D → J N W → W.heap[D]? = some (.deferred (some [])) → Q .normal { a with defers := { target := .collected D, args := #[] } :: a.defers } W) :
    (Code.rangeFunc g ps assign body).wpIn Fence.wide n Tryz.prog Q a w := by
  refine wpIn_rangeFunc ?_
  intro fn hfn
  obtain ⟨rec, hrec⟩ : ∃ rec : LoopState → Option Code → Loop, rec = fun st pe => { state := st, pending := pe, fn, tmps := a.tmps, params := ps, assign, body, defers := w.heap.size } := ⟨_, rfl⟩
  obtain ⟨l, hl⟩ : ∃ l, l = w.heap.size + 1 := ⟨_, rfl⟩
  obtain ⟨W1, hW1⟩ : ∃ W1, W1 = (w.alloc (.deferred (some []))).alloc (.loop (rec .ready none)) := ⟨_, rfl⟩
  have hsz : W1.heap.size = w.heap.size + 2 := by rw [hW1]; simp
  have hL1 : W1.heap[l]? = some (.loop (rec .ready none)) := by
    have := heap_alloc_at (w.alloc (.deferred (some []))) (.loop (rec .ready none))
    rw [World.size_alloc] at this
    rw [hW1, hl]; exact this
  have hD1 : W1.heap[w.heap.size]? = some (.deferred (some [])) := by rw [hW1]; exact heap_alloc_old _ (heap_alloc_at w _)
  refine ⟨l, [{ target := .collected w.heap.size, args := #[] }], W1, { target := .fn (.func gf) lb, args := #[.func (.yield l) #[] #[]] }, W1, gf,
    #[.func (.yield l) #[] #[]] ++ lb, W1, ?_, ?_, ?_, ?_, fun h => by simp [Fence.wide] at h, ?_⟩
  · rw [hW1, hrec, hl]; exact run_enterLoop_outer _ _ _ _ _
  · simp only [resolve, hg]
    simp [go_sem]
  · intro f' hf'; trivial
  · simp [invoke, go_sem, eg]
  · have hnd : (rec .ready none).defers = w.heap.size := by rw [hrec]
    refine (hiter l (fun i W => J i W ∧ W.heap[l]? = some (.loop (rec .ready none)) ∧ W.heap[w.heap.size]? = some (.deferred (some []))) W1 (fun i W' h => h.1)
      ⟨by rw [hW1]; exact hJa _ _ _ (hJa _ _ _ h0), hL1, hD1⟩ (by omega) (by omega)
      (fun i W' o h => ⟨hJa _ _ _ h.1, heap_alloc_old _ h.2.1, heap_alloc_old _ h.2.2⟩) (fun i W' h => ⟨hJd _ _ h.1, h.2.1, h.2.2⟩)
      (fun i W' b o o' h hb ho hc => ⟨hJp i W' b o o' h.1 (by omega) ho hc, by rw [World.putObj_heap_other (by omega)]; exact h.2.1, by rw [World.putObj_heap_other (by omega)]; exact h.2.2⟩) ?_).mono ?_
    · rintro i W hi ⟨hJ, hlW, hdW⟩
      have hy := run_yield (P := Tryz.prog) (args := x i) hlW (by rw [hrec]; exact hps i)
      refine ⟨fn, _, assign, body, by rw [hy, hrec], ?_⟩
      have hb := run_beginRound (P := Tryz.prog) hlW (by rw [hrec])
      have hll : l < W.heap.size := lt_of_block hlW
      refine roundIn_of_wpIn trivial (wpIn_mono (hassign l i W _ ⟨_, hb, ?_⟩) (fun e a' w' h => h))
      have hlW2 : (W.putObj l (.loop { rec .ready none with state := .busy })).heap[l]? = some (.loop { rec .ready none with state := .busy }) := World.putObj_heap_same hll
      have hdW2 : (W.putObj l (.loop { rec .ready none with state := .busy })).heap[w.heap.size]? = some (.deferred (some [])) := by rw [World.putObj_heap_other (by omega)]; exact hdW
      have hJ2 := hJp i W l _ (.loop { rec .ready none with state := .busy }) hJ (by omega) hlW rfl
      refine wpIn_mono (hbody l i _ _ hi (by omega) (by rw [hrec]) hlW2 hdW2 hJ2) ?_
      intro e a' W' he
      cases e with
      | normal =>
        obtain ⟨k1, k2, k3, k4⟩ := he
        rw [show ({ rec .ready none with state := .busy } : Loop).defers = w.heap.size from by rw [hrec]] at k2
        have hend := run_endRound (P := Tryz.prog) none k1
        have hback : ({ ({ rec .ready none with state := .busy } : Loop) with state := .ready, pending := none } : Loop) = rec .ready none := by rw [hrec]
        simp only [Option.isNone_none, if_true, hback] at hend
        refine ⟨.bool true, _, hend, rfl, ⟨hJp (i + 1) W' l _ _ k4 (by omega) k1 rfl, World.putObj_heap_same (lt_of_block k1), ?_⟩, ?_⟩
        · rw [World.putObj_heap_other (by omega)]; exact k2
        · refine ⟨by rw [World.putObj_size]; exact Nat.le_trans (by rw [World.putObj_size]; exact Nat.le_refl _) k3.size, fun b o hx hb ho => ?_⟩
          have hbl : b ≠ l := fun e => hx (.inr e)
          rw [World.putObj_heap_other hbl]
          exact k3.same b o (fun e => hx (.inl e)) (by rw [World.putObj_heap_other hbl]; exact hb) ho
      | ret => exact he.elim
      | exit id => exact he.elim
      | goto t => exact he.elim
      | panic chain => exact he.elim
      | outgrown => exact he.elim
    · rintro e W ⟨⟨v, rfl⟩, hJ, hlW, hdW⟩
      have hend := run_endLoop (P := Tryz.prog) hlW (by rw [hrec]; simp)
      refine ⟨_, _, hend, ?_⟩
      have hp : (rec .ready none).pending = none := by rw [hrec]
      rw [hp]
      refine hdone w.heap.size _ (Nat.le_refl _) (hJp N W l _ _ hJ (by omega) hlW rfl) ?_
      rw [World.putObj_heap_other (by omega)]; exact hdW
end Go.Proofs.YtbhiaeciiphelaaGreatDoor
