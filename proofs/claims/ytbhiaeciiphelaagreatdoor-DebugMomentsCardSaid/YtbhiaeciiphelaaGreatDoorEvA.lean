/-
  DERIVED. Contracts of the small functions on events: few, isNothing, zero. No condition.
-/
import Derived.Test.YtbhiaeciiphelaaGreatDoorProg
import Derived.WalkKit
import Derived.WalkSpells
import Derived.WalkLawsBesides
import Derived.Handy
import Derived.Deep.QuietTactic
import Derived.BigQuiet
import Derived.LaidEqlPtr
import Derived.Lib.Hide
import Derived.Below
import Derived.Maps.AppendAt
namespace Go.Proofs.YtbhiaeciiphelaaGreatDoor
open Go.RowKit

theorem few_of (a : Option Addr) (n c : Nat) (w : World) :
    Calls Tryz.prog 10 #[.slice a n c] w fun e w' => e = .returned (.bool (decide (n ≤ 600))) ∧ w = w' := by
  go_enter Tryz.func10, Tryz.ntmps10
  go_wp2
  go_ret
  exact ⟨by have : ((n : Int) ≤ 600) ↔ n ≤ 600 := by omega
            simp [this], rfl⟩

/-- A value at run time that is zero. -/
def nothing (k m : Int) (s : ByteArray) (n : Nat) : Bool := decide (k = 0 ∧ m = 0 ∧ s.toList = [] ∧ n = 0)

set_option maxHeartbeats 800000 in
theorem isNothing_of (k m : Int) (s : ByteArray) (a : Option Addr) (n c : Nat) (w : World) :
    Calls Tryz.prog 122 #[.agg #[.int .i64 k, .int .i64 m, .string s, .slice a n c]] w fun e w' => e = .returned (.bool (nothing k m s n)) ∧ ∃ o, w' = w.alloc o := by
  go_enter Tryz.func122, Tryz.ntmps122
  go_wp2
  all_goals go_ret
  all_goals refine ⟨?_, _, rfl⟩
  all_goals simp [nothing, *]
  all_goals first | done | (by_cases h : n = 0 <;> simp [h])

set_option maxHeartbeats 800000 in
theorem zero_of (k m : Int) (s : ByteArray) (a : Option Addr) (n c : Nat) (w : World) :
    Calls Tryz.prog 57 #[.agg #[.int .i64 k, .int .i64 m, .string s, .slice a n c]] w fun e w' => e = .returned (.bool (nothing k m s n)) ∧ ∃ o, w' = w.alloc o := by
  go_enter Tryz.func57, Tryz.ntmps57
  go_wp2
  all_goals go_ret
  all_goals refine ⟨?_, _, rfl⟩
  all_goals simp [nothing, *]
  all_goals first | done | (by_cases h : n = 0 <;> simp [h])
end Go.Proofs.YtbhiaeciiphelaaGreatDoor
namespace Go.Proofs.YtbhiaeciiphelaaGreatDoor
open Go.RowKit

/-- Worlds that differ in blocks of S, and in new blocks, alone. -/
structure Kept (S : Nat → Prop) (w w' : World) : Prop where
  os : w'.os = w.os
  tape : w'.tape = w.tape
  output : w'.output = w.output
  size : w.heap.size ≤ w'.heap.size
  block : ∀ k, k < w.heap.size → ¬ S k → w'.heap[k]? = w.heap[k]?

theorem Kept.refl (S : Nat → Prop) (w : World) : Kept S w w := ⟨rfl, rfl, rfl, Nat.le_refl _, fun _ _ _ => rfl⟩
theorem Kept.trans {S T : Nat → Prop} {a b c : World} (h : Kept S a b) (k : Kept T b c) (hT : ∀ x, x < a.heap.size → T x → S x) : Kept S a c :=
  ⟨k.os.trans h.os, k.tape.trans h.tape, k.output.trans h.output, Nat.le_trans h.size k.size,
    fun i hi hn => (k.block i (Nat.lt_of_lt_of_le hi h.size) (fun t => hn (hT i hi t))).trans (h.block i hi hn)⟩
theorem Kept.mono {S T : Nat → Prop} {a b : World} (h : Kept S a b) (hT : ∀ x, x < a.heap.size → S x → T x) : Kept T a b :=
  ⟨h.os, h.tape, h.output, h.size, fun i hi hn => h.block i hi (fun s => hn (hT i hi s))⟩
theorem Kept.drewN {S : Nat → Prop} {a b : World} (h : Kept S a b) (n : Nat) : Kept S a (b.drewN n) := ⟨h.os, h.tape, h.output, h.size, h.block⟩
theorem Kept.drew {S : Nat → Prop} {a b : World} (h : Kept S a b) : Kept S a b.drew := ⟨h.os, h.tape, h.output, h.size, h.block⟩
theorem Kept.alloc {S : Nat → Prop} {a b : World} (h : Kept S a b) (o : Obj) : Kept S a (b.alloc o) :=
  ⟨h.os, h.tape, h.output, Nat.le_trans h.size (by simp), fun i hi hn => (Below.heap_alloc _ _ _ (Nat.lt_of_lt_of_le hi h.size)).trans (h.block i hi hn)⟩
theorem Kept.setCell {S : Nat → Prop} {a b : World} (h : Kept S a b) {p : Addr} (hp : p.block < a.heap.size → S p.block) (u : Value) : Kept S a (b.setCell p u) :=
  ⟨h.os, h.tape, h.output, Nat.le_trans h.size (by simp [World.setCell]), fun i hi hn => (Below.heap_setCell _ _ _ _ (fun e => hn (by rw [e]; exact hp (e ▸ hi)))).trans (h.block i hi hn)⟩
theorem Kept.putObj {S : Nat → Prop} {a b : World} (h : Kept S a b) {p : Nat} (hp : p < a.heap.size → S p) (o : Obj) : Kept S a { b with heap := b.heap.setIfInBounds p o } :=
  ⟨h.os, h.tape, h.output, Nat.le_trans h.size (by simp), fun i hi hn => (show (b.heap.setIfInBounds p o)[i]? = b.heap[i]? from Array.getElem?_setIfInBounds_ne (fun e => hn (by rw [← e]; exact hp (e ▸ hi)))).trans (h.block i hi hn)⟩
theorem Kept.grown {S : Nat → Prop} {a b c : World} {row : Option Nat} (h : Kept S a b) (hg : b.grownBy c row) (hr : ∀ k, row = some k → k < a.heap.size → S k) : Kept S a c :=
  ⟨hg.os.trans h.os, hg.tape.trans h.tape, hg.output.trans h.output, Nat.le_trans h.size hg.size,
    fun i hi hn => (hg.block i (Nat.lt_of_lt_of_le hi h.size) (fun e => hn (hr i e.symm hi))).trans (h.block i hi hn)⟩
theorem Kept.below {S : Nat → Prop} {a b : World} {B : Nat} (h : Kept S a b) (hB : B ≤ a.heap.size) (hS : ∀ k, S k → B ≤ k) : Below B a b :=
  ⟨h.os, h.tape, h.output, h.size, fun k hk => h.block k (by omega) (fun s => by have := hS k s; omega)⟩

/-- All old memory is as it was. -/
abbrev Keeps (w w' : World) : Prop := Kept (fun _ => False) w w'
theorem Keeps.refl (w : World) : Keeps w w := Kept.refl _ w
theorem Keeps.trans {w w' w'' : World} (h : Keeps w w') (h' : Keeps w' w'') : Keeps w w'' := Kept.trans h h' (fun _ _ x => x)
theorem Keeps.alloc (w : World) (o : Obj) : Keeps w (w.alloc o) := (Kept.refl _ w).alloc o
theorem Keeps.drew (w : World) : Keeps w w.drew := (Kept.refl _ w).drew
theorem Keeps.drewN (w : World) (n : Nat) : Keeps w (w.drewN n) := (Kept.refl _ w).drewN n

theorem heap_lt {w : World} {b : Nat} {o : Obj} (h : w.heap[b]? = some o) : b < w.heap.size := (Array.getElem?_eq_some_iff.1 h).1
theorem heap_set_same {w : World} {b o : Nat} {c : Array Value} {t : TypeId} {fr : Nat × Nat} (h : w.heap[b]? = some (.cells c t fr)) (v : Value) :
    (w.setCell ⟨b, o, none⟩ v).heap[b]? = some (.cells (c.setIfInBounds o v) t fr) := by
  have hlt := heap_lt h
  have h' : w.heap[b] = .cells c t fr := by simpa [Array.getElem?_eq_getElem hlt] using h
  show (w.heap.modify b _)[b]? = _
  rw [Array.getElem?_eq_getElem (by simpa using hlt), Array.getElem_modify_self, h']
  rfl
theorem heap_set_other {w : World} {b o k : Nat} (v : Value) (hne : k ≠ b) : (w.setCell ⟨b, o, none⟩ v).heap[k]? = w.heap[k]? := Below.heap_setCell _ _ _ _ hne
theorem heap_alloc_old {w : World} {k : Nat} {x : Obj} (o : Obj) (h : w.heap[k]? = some x) : (w.alloc o).heap[k]? = some x := by rw [Below.heap_alloc _ _ _ (heap_lt h), h]
theorem heap_alloc_at (w : World) (o : Obj) : (w.alloc o).heap[w.heap.size]? = some o := by
  show (w.heap.push o)[w.heap.size]? = _
  simp
theorem cell_of_block {w : World} {b : Nat} {c : Array Value} {t : TypeId} {fr : Nat × Nat} (h : w.heap[b]? = some (.cells c t fr)) (o : Nat) : w.cell? ⟨b, o, none⟩ = c[o]? := by simp [World.cell?, h]
theorem free_of_block {w : World} {b : Nat} {c : Array Value} {t : TypeId} (h : w.heap[b]? = some (.cells c t (0, 0))) (o : Nat) : w.frozen? ⟨b, o, none⟩ = false := by simp [World.frozen?, h]
theorem Kept.at {S : Nat → Prop} {w w' : World} (h : Kept S w w') {b : Nat} {o : Obj} (hb : w.heap[b]? = some o) (hS : ¬ S b) : w'.heap[b]? = some o := by rw [h.block b (heap_lt hb) hS, hb]
theorem row_same {w w' : World} {base : Nat} {e : TypeId} {size : Nat} {v : Value} {n : Nat} {xs : List Value} (h : w.ownsRow base e size v n xs) (hs : ∀ g, v.ownBlock = some g → w'.heap[g]? = w.heap[g]?) : w'.ownsRow base e size v n xs := by
  refine ⟨h.1, ?_⟩
  rcases h.2 with h | ⟨g, cap, cur, hv, hb, hg, r⟩
  · exact .inl h
  · exact .inr ⟨g, cap, cur, hv, hb, by rw [hs g (by rw [hv]; rfl)]; exact hg, r⟩
theorem row_block {w : World} {base : Nat} {e : TypeId} {size : Nat} {v : Value} {n : Nat} {xs : List Value} (h : w.ownsRow base e size v n xs) {g : Nat} (hg : v.ownBlock = some g) : ∃ cur, w.heap[g]? = some (.cells cur e (0, 0)) := by
  rcases h.2 with ⟨h, _⟩ | ⟨g', cap, cur, hv, hb, hg', r⟩
  · rw [h] at hg; cases hg
  · rw [hv] at hg; injection hg with hg; subst hg; exact ⟨cur, hg'⟩
end Go.Proofs.YtbhiaeciiphelaaGreatDoor
namespace Go.Proofs.YtbhiaeciiphelaaGreatDoor
open Go.RowKit

/-- An event, as far as package debug looks at it; the cells it lies in. -/
structure Ev where
  kind : Int
  site : Int
  addr : Int
  args : Option Addr
  argn : Nat
  argc : Nat
  vk : Int
  vn : Int
  vs : ByteArray
  va : Option Addr
  van : Nat
  vac : Nat
def Ev.cells (e : Ev) : List Value := [.int .i64 e.kind, .int .i64 e.site, .int .i64 e.addr, .slice e.args e.argn e.argc, .int .i64 e.vk, .int .i64 e.vn, .string e.vs, .slice e.va e.van e.vac]
def Ev.zero (e : Ev) : Bool := nothing e.vk e.vn e.vs e.van
/-- An event has the fields of its kind alone. -/
def Ev.form (e : Ev) : Bool := decide (0 ≤ e.addr) && (decide (e.addr < 30000) &&
  (if e.kind = 1 then e.zero else if e.kind = 2 then decide (e.argn = 0) else if e.kind = 3 then decide (e.site = 0) && decide (e.argn = 0) else false))

set_option maxHeartbeats 1600000 in
theorem isForm_of (e : Ev) (w : World) :
    Calls Tryz.prog 86 #[.agg e.cells.toArray] w fun x w' => x = .returned (.bool e.form) ∧ Keeps w w' := by
  obtain ⟨kind, site, addr, args, argn, argc, vk, vn, vs, va, van, vac⟩ := e
  simp only [Ev.cells]
  have Hn := Lib.hid (isNothing_of vk vn vs va van vac)
  go_enter Tryz.func86, Tryz.ntmps86
  go_wp2_with (go_at_call 122; refine (Hn.out _).mono ?_; rintro e w' ⟨rfl, o, rfl⟩)
  all_goals go_ret
  all_goals refine ⟨?_, by first | exact Keeps.alloc _ _ | exact (Keeps.alloc _ _).trans (Keeps.alloc _ _)⟩
  all_goals simp_all [Ev.form, Ev.zero]
  all_goals first | done | (intros; exfalso; omega) | (rcases argn with _ | n <;> simp <;> omega)
end Go.Proofs.YtbhiaeciiphelaaGreatDoor
