/-
  DERIVED. Contracts of Readers, of package debug and of the reference, and of the comparing of numbers. Condition: the events lie in a row; there are at most sixty thousand.
-/
import Derived.Test.YtbhiaeciiphelaaGreatDoorEvX
import Derived.RangeFuncBox
namespace Go.Proofs.YtbhiaeciiphelaaGreatDoor
open Go.RowKit Go.Shelf
attribute [local go_sem] Oper.semAt_some
end Go.Proofs.YtbhiaeciiphelaaGreatDoor
namespace Go.Proofs.YtbhiaeciiphelaaGreatDoor
open Go.RowKit Go.Shelf
attribute [local go_sem] Oper.semAt_some
structure ItAt (w : World) (bx bk ba L : Nat) (a : Option Addr) (n c : Nat) (y : Int) (evs : List Ev) : Prop where
  x : w.cell? ⟨bx, 0, none⟩ = some (.pointer (some ⟨L, 0, none⟩))
  k : w.cell? ⟨bk, 0, none⟩ = some (.int .i64 2)
  y : w.cell? ⟨ba, 0, none⟩ = some (.int .i64 y)
  l : w.cell? ⟨L, 0, none⟩ = some (.slice a n c)
  ev : EvIn w a n evs
  lx : bx < w.heap.size
  lk : bk < w.heap.size
  ly : ba < w.heap.size
  ll : L < w.heap.size
theorem ItAt.below {w w' : World} {bx bk ba L : Nat} {a : Option Addr} {n c : Nat} {y : Int} {evs : List Ev} (h : ItAt w bx bk ba L a n c y evs) (hb : Below w.heap.size w w') : ItAt w' bx bk ba L a n c y evs :=
  ⟨by rw [hb.cell (p := ⟨bx, 0, none⟩) h.lx]; exact h.x, by rw [hb.cell (p := ⟨bk, 0, none⟩) h.lk]; exact h.k, by rw [hb.cell (p := ⟨ba, 0, none⟩) h.ly]; exact h.y, by rw [hb.cell (p := ⟨L, 0, none⟩) h.ll]; exact h.l,
    h.ev.keeps ⟨hb.os, hb.tape, hb.output, hb.size, fun k hk _ => hb.block k hk⟩, Nat.lt_of_lt_of_le h.lx hb.size, Nat.lt_of_lt_of_le h.lk hb.size, Nat.lt_of_lt_of_le h.ly hb.size, Nat.lt_of_lt_of_le h.ll hb.size⟩
end Go.Proofs.YtbhiaeciiphelaaGreatDoor
namespace Go.Proofs.YtbhiaeciiphelaaGreatDoor
open Go.RowKit Go.Shelf
attribute [local go_sem] Oper.semAt_some
theorem below_putObj {B : Nat} {w W : World} (h : Below B w W) {b : Nat} (hb : B ≤ b) (o' : Obj) : Below B w (W.putObj b o') :=
  ⟨h.os, h.tape, h.output, by rw [World.putObj_size]; exact h.size, fun k hk => (World.putObj_heap_other (by omega)).trans (h.block k hk)⟩
theorem nums_take_succ {ids : List Nat} {i n : Nat} (h : ids[i]? = some n) : nums (ids.take (i + 1)) = nums (ids.take i) ++ [.int .i64 n] := by
  obtain ⟨hi, e⟩ := List.getElem?_eq_some_iff.1 h
  rw [List.take_succ_eq_append_getElem hi, e]; simp [nums]
def QJ (w : World) (Bo : Nat) (ids : List Nat) (i : Nat) (W : World) : Prop :=
  (∃ v, W.heap[Bo]? = some (.cells #[v] 35 (0, 0)) ∧ W.ownsRow w.heap.size 3 1 v i (nums (ids.take i))) ∧ Below w.heap.size w W
section
variable {w : World} {Bo : Nat} {ids : List Nat} {i : Nat} {W : World}
theorem QJ.alloc (h : QJ w Bo ids i W) (o : Obj) : QJ w Bo ids i (W.alloc o) := by
  obtain ⟨⟨v, h1, h2⟩, h3⟩ := h
  exact ⟨⟨v, heap_alloc_old _ h1, h2.alloc _⟩, h3.alloc h3.size _⟩
theorem QJ.drew (h : QJ w Bo ids i W) : QJ w Bo ids i W.drew := by
  obtain ⟨⟨v, h1, h2⟩, h3⟩ := h
  exact ⟨⟨v, h1, h2⟩, h3.drew⟩
theorem QJ.putObj (h : QJ w Bo ids i W) {b : Nat} {o : Obj} (o' : Obj) (hb : w.heap.size ≤ b) (ho : W.heap[b]? = some o) (hc : o.isCells = false) : QJ w Bo ids i (W.putObj b o') := by
  obtain ⟨⟨v, h1, h2⟩, h3⟩ := h
  refine ⟨⟨v, ?_, ownsRow_putObj h2 o' ho hc⟩, below_putObj h3 hb o'⟩
  rw [World.putObj_heap_other (fun e => by subst e; rw [h1] at ho; cases ho; cases hc)]
  exact h1
theorem QJ.put {W2 : World} {v v' : Value} {n : Nat} {o : Obj} (hB : w.heap.size ≤ Bo) (h1 : W.heap[Bo]? = some (.cells #[v] 35 (0, 0)))
    (h2 : W.ownsRow w.heap.size 3 1 v i (nums (ids.take i))) (h3 : Below w.heap.size w W) (hn : ids[i]? = some n)
    (hown : W2.ownsRow w.heap.size 3 1 v' (i + 1) (nums (ids.take i) ++ [.int .i64 n])) (hg : (W.alloc o).grownBy W2 v.ownBlock) :
    QJ w Bo ids (i + 1) (W2.setCell ⟨Bo, 0, none⟩ v') ∧ KeepNC (fun _ => False) W (W2.setCell ⟨Bo, 0, none⟩ v') ∧ W2.heap[Bo]? = some (.cells #[v] 35 (0, 0)) := by
  have hso : ∀ k, v.ownBlock = some k → ∀ o, W.heap[k]? = some o → Obj.firm o = false := by
    intro k hk o ho
    obtain ⟨cur, hc⟩ := row_block h2 hk
    rw [hc] at ho; cases ho; rfl
  have hbo : ∀ k, v.ownBlock = some k → k ≠ Bo := by
    intro k hk e
    obtain ⟨cur, hc⟩ := row_block h2 hk
    rw [e, h1] at hc; simp at hc
  have hk5 : Kept (fun b => v.ownBlock = some b) W W2 := ((Kept.refl _ W).alloc o).grown hg (fun b hb _ => hb)
  have hk1 : KeepNC (fun _ => False) W W2 := (KeepNC.refl _ W).kept hk5 (fun b hb o ho => hso b hb o ho)
  have hB1 : W2.heap[Bo]? = some (.cells #[v] 35 (0, 0)) := hk5.at h1 (fun e => hbo Bo e rfl)
  refine ⟨⟨⟨v', ?_, ?_⟩, ?_⟩, hk1.setCell _ _ (fun o ho => by rw [hB1] at ho; cases ho; rfl), hB1⟩
  · rw [heap_set_same hB1]; rfl
  · rw [nums_take_succ hn]
    refine row_same hown fun g hg' => heap_set_other _ ?_
    intro e
    obtain ⟨cur, hc⟩ := row_block hown hg'
    rw [e, hB1] at hc; simp at hc
  · refine Below.setCell ?_ (p := ⟨Bo, 0, none⟩) hB _
    exact h3.trans ⟨hk5.os, hk5.tape, hk5.output, hk5.size, fun k hk => hk5.block k (Nat.lt_of_lt_of_le hk h3.size) (fun e => by have := (h2.lt k e).1; omega)⟩
end
end Go.Proofs.YtbhiaeciiphelaaGreatDoor
