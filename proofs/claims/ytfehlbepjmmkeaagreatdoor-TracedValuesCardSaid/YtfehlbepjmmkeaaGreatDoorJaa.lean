/-
  DERIVED. What a call may change in memory, in plain words. No condition.
-/
import Derived.Test.YtfehlbepjmmkeaaGreatDoorProg
import Derived.WalkKit
import Derived.WalkSpells
import Derived.WalkLawsBesides
import Derived.Handy
import Derived.Deep.QuietTactic
import Derived.BigQuiet
import Derived.LaidEqlPtr
import Derived.Lib.Hide
import Derived.Below
import Derived.Maps.AppendAt
import Derived.RangeFuncNested
import Derived.OwnWalk
import Derived.Deep.RegionHeld3
import Derived.Deep.Slices
import Derived.Deep.RegionWith
namespace Go.Proofs.YtfehlbepjmmkeaaGreatDoor
open Go.RowKit

/-- Worlds that differ in blocks of S, and in new blocks, alone. -/
structure Kept (S : Nat → Prop) (w w' : World) : Prop where
  os : w'.os = w.os
  tape : w'.tape = w.tape
  output : w'.output = w.output
  size : w.heap.size ≤ w'.heap.size
  block : ∀ k, k < w.heap.size → ¬ S k → w'.heap[k]? = w.heap[k]?

theorem Kept.refl (S : Nat → Prop) (w : World) : Kept S w w := ⟨rfl, rfl, rfl, Nat.le_refl _, fun _ _ _ => rfl⟩
theorem Kept.trans {S T : Nat → Prop} {a b c : World} (h : Kept S a b) (k : Kept T b c) (hT : ∀ x, x < a.heap.size → T x → S x) : Kept S a c :=
  ⟨k.os.trans h.os, k.tape.trans h.tape, k.output.trans h.output, Nat.le_trans h.size k.size,
    fun i hi hn => (k.block i (Nat.lt_of_lt_of_le hi h.size) (fun t => hn (hT i hi t))).trans (h.block i hi hn)⟩
theorem Kept.mono {S T : Nat → Prop} {a b : World} (h : Kept S a b) (hT : ∀ x, x < a.heap.size → S x → T x) : Kept T a b :=
  ⟨h.os, h.tape, h.output, h.size, fun i hi hn => h.block i hi (fun s => hn (hT i hi s))⟩
theorem Kept.drewN {S : Nat → Prop} {a b : World} (h : Kept S a b) (n : Nat) : Kept S a (b.drewN n) := ⟨h.os, h.tape, h.output, h.size, h.block⟩
theorem Kept.drew {S : Nat → Prop} {a b : World} (h : Kept S a b) : Kept S a b.drew := ⟨h.os, h.tape, h.output, h.size, h.block⟩
theorem Kept.alloc {S : Nat → Prop} {a b : World} (h : Kept S a b) (o : Obj) : Kept S a (b.alloc o) :=
  ⟨h.os, h.tape, h.output, Nat.le_trans h.size (by simp), fun i hi hn => (Below.heap_alloc _ _ _ (Nat.lt_of_lt_of_le hi h.size)).trans (h.block i hi hn)⟩
theorem Kept.setCell {S : Nat → Prop} {a b : World} (h : Kept S a b) {p : Addr} (hp : p.block < a.heap.size → S p.block) (u : Value) : Kept S a (b.setCell p u) :=
  ⟨h.os, h.tape, h.output, Nat.le_trans h.size (by simp [World.setCell]), fun i hi hn => (Below.heap_setCell _ _ _ _ (fun e => hn (by rw [e]; exact hp (e ▸ hi)))).trans (h.block i hi hn)⟩
theorem Kept.putObj {S : Nat → Prop} {a b : World} (h : Kept S a b) {p : Nat} (hp : p < a.heap.size → S p) (o : Obj) : Kept S a { b with heap := b.heap.setIfInBounds p o } :=
  ⟨h.os, h.tape, h.output, Nat.le_trans h.size (by simp), fun i hi hn => (show (b.heap.setIfInBounds p o)[i]? = b.heap[i]? from Array.getElem?_setIfInBounds_ne (fun e => hn (by rw [← e]; exact hp (e ▸ hi)))).trans (h.block i hi hn)⟩
theorem Kept.grown {S : Nat → Prop} {a b c : World} {row : Option Nat} (h : Kept S a b) (hg : b.grownBy c row) (hr : ∀ k, row = some k → k < a.heap.size → S k) : Kept S a c :=
  ⟨hg.os.trans h.os, hg.tape.trans h.tape, hg.output.trans h.output, Nat.le_trans h.size hg.size,
    fun i hi hn => (hg.block i (Nat.lt_of_lt_of_le hi h.size) (fun e => hn (hr i e.symm hi))).trans (h.block i hi hn)⟩
theorem Kept.below {S : Nat → Prop} {a b : World} {B : Nat} (h : Kept S a b) (hB : B ≤ a.heap.size) (hS : ∀ k, S k → B ≤ k) : Below B a b :=
  ⟨h.os, h.tape, h.output, h.size, fun k hk => h.block k (by omega) (fun s => by have := hS k s; omega)⟩

/-- All old memory is as it was. -/
abbrev Keeps (w w' : World) : Prop := Kept (fun _ => False) w w'
theorem Keeps.refl (w : World) : Keeps w w := Kept.refl _ w
theorem Keeps.trans {w w' w'' : World} (h : Keeps w w') (h' : Keeps w' w'') : Keeps w w'' := Kept.trans h h' (fun _ _ x => x)
theorem Keeps.alloc (w : World) (o : Obj) : Keeps w (w.alloc o) := (Kept.refl _ w).alloc o
theorem Keeps.drew (w : World) : Keeps w w.drew := (Kept.refl _ w).drew
theorem Keeps.drewN (w : World) (n : Nat) : Keeps w (w.drewN n) := (Kept.refl _ w).drewN n

theorem heap_lt {w : World} {b : Nat} {o : Obj} (h : w.heap[b]? = some o) : b < w.heap.size := (Array.getElem?_eq_some_iff.1 h).1
theorem heap_set_same {w : World} {b o : Nat} {c : Array Value} {t : TypeId} {fr : Nat × Nat} (h : w.heap[b]? = some (.cells c t fr)) (v : Value) :
    (w.setCell ⟨b, o, none⟩ v).heap[b]? = some (.cells (c.setIfInBounds o v) t fr) := by
  have hlt := heap_lt h
  have h' : w.heap[b] = .cells c t fr := by simpa [Array.getElem?_eq_getElem hlt] using h
  show (w.heap.modify b _)[b]? = _
  rw [Array.getElem?_eq_getElem (by simpa using hlt), Array.getElem_modify_self, h']
  rfl
theorem heap_set_other {w : World} {b o k : Nat} (v : Value) (hne : k ≠ b) : (w.setCell ⟨b, o, none⟩ v).heap[k]? = w.heap[k]? := Below.heap_setCell _ _ _ _ hne
theorem heap_alloc_old {w : World} {k : Nat} {x : Obj} (o : Obj) (h : w.heap[k]? = some x) : (w.alloc o).heap[k]? = some x := by rw [Below.heap_alloc _ _ _ (heap_lt h), h]
theorem heap_alloc_at (w : World) (o : Obj) : (w.alloc o).heap[w.heap.size]? = some o := by
  show (w.heap.push o)[w.heap.size]? = _
  simp
theorem cell_of_block {w : World} {b : Nat} {c : Array Value} {t : TypeId} {fr : Nat × Nat} (h : w.heap[b]? = some (.cells c t fr)) (o : Nat) : w.cell? ⟨b, o, none⟩ = c[o]? := by simp [World.cell?, h]
theorem free_of_block {w : World} {b : Nat} {c : Array Value} {t : TypeId} (h : w.heap[b]? = some (.cells c t (0, 0))) (o : Nat) : w.frozen? ⟨b, o, none⟩ = false := by simp [World.frozen?, h]
theorem Kept.at {S : Nat → Prop} {w w' : World} (h : Kept S w w') {b : Nat} {o : Obj} (hb : w.heap[b]? = some o) (hS : ¬ S b) : w'.heap[b]? = some o := by rw [h.block b (heap_lt hb) hS, hb]
theorem row_same {w w' : World} {base : Nat} {e : TypeId} {size : Nat} {v : Value} {n : Nat} {xs : List Value} (h : w.ownsRow base e size v n xs) (hs : ∀ g, v.ownBlock = some g → w'.heap[g]? = w.heap[g]?) : w'.ownsRow base e size v n xs := by
  refine ⟨h.1, ?_⟩
  rcases h.2 with h | ⟨g, cap, cur, hv, hb, hg, r⟩
  · exact .inl h
  · exact .inr ⟨g, cap, cur, hv, hb, by rw [hs g (by rw [hv]; rfl)]; exact hg, r⟩
theorem row_block {w : World} {base : Nat} {e : TypeId} {size : Nat} {v : Value} {n : Nat} {xs : List Value} (h : w.ownsRow base e size v n xs) {g : Nat} (hg : v.ownBlock = some g) : ∃ cur, w.heap[g]? = some (.cells cur e (0, 0)) := by
  rcases h.2 with ⟨h, _⟩ | ⟨g', cap, cur, hv, hb, hg', r⟩
  · rw [h] at hg; cases hg
  · rw [hv] at hg; injection hg with hg; subst hg; exact ⟨cur, hg'⟩
theorem cell_keeps {w w' : World} (hk : Keeps w w') {a : Addr} {v : Value} (h : w.cell? a = some v) : w'.cell? a = some v := by
  rw [World.cell?_of_block (w' := w') (w := w) (hk.block a.block (World.block_lt_of_cell? w _ h) (fun x => x))]
  exact h
theorem row_succ {W : World} {base : Nat} {e : TypeId} {size : Nat} {v : Value} {k : Nat} {xs : List Value} (h : W.ownsRow base e size v (k + 1) xs) : ∃ g cap, v = .slice (some ⟨g, 0, none⟩) (k + 1) cap := by
  rcases h.2 with ⟨_, h⟩ | ⟨g, cap, cur, hv, _⟩
  · omega
  · exact ⟨g, cap, hv⟩
theorem below_putObj {B : Nat} {w W : World} (h : Below B w W) {b : Nat} (hb : B ≤ b) (o' : Obj) : Below B w (W.putObj b o') :=
  ⟨h.os, h.tape, h.output, by rw [World.putObj_size]; exact h.size, fun k hk => (World.putObj_heap_other (by omega)).trans (h.block k hk)⟩
end Go.Proofs.YtfehlbepjmmkeaaGreatDoor
namespace Go.Proofs.YtfehlbepjmmkeaaGreatDoor
open Go.RowKit
/-- Where the walk stands still. -/
theorem holdT {p : Prop} (h : Hid p) : p := h.out
/-- A value at run time. -/
inductive RV where
  | mk (kind num : Int) (con : ByteArray) (args : List RV)
/-- Four cells are a value; no block that it lies in is one of A; it is at most so deep. -/
def RunAt (w : World) (A : Nat → Prop) : Nat → RV → List Value → Prop
  | 0, _, _ => False
  | d + 1, .mk k m s args, cs => ∃ p c, cs = [.int .i64 k, .int .i64 m, .string s, .slice p args.length c] ∧ args.length * 56 ≤ 140737488355328 ∧
      ∀ (j : Nat) (t : RV), args[j]? = some t → ∃ g o cs', p = some ⟨g, o, none⟩ ∧ ¬ A g ∧ (∀ (i : Nat) (v : Value), cs'[i]? = some v → w.cell? ⟨g, o + j * 4 + i, none⟩ = some v) ∧ RunAt w A d t cs'
/-- A slice of values. -/
def RunsAt (w : World) (A : Nat → Prop) (d : Nat) (v : Value) (ts : List RV) : Prop := ∃ p c, v = .slice p ts.length c ∧ ts.length * 56 ≤ 140737488355328 ∧
  ∀ (j : Nat) (t : RV), ts[j]? = some t → ∃ g o cs', p = some ⟨g, o, none⟩ ∧ ¬ A g ∧ (∀ (i : Nat) (v : Value), cs'[i]? = some v → w.cell? ⟨g, o + j * 4 + i, none⟩ = some v) ∧ RunAt w A d t cs'
theorem RunAt.len {w : World} {A : Nat → Prop} {d : Nat} {t : RV} {cs : List Value} (h : RunAt w A d t cs) : cs.length = 4 := by
  cases d with
  | zero => exact h.elim
  | succ d =>
    obtain ⟨k, m, s, args⟩ := t
    obtain ⟨p, c, rfl, _⟩ := h
    rfl
theorem RunAt.keep {w w' : World} {A A' : Nat → Prop} (hk : ∀ (g : Nat) (o : Obj), w.heap[g]? = some o → ¬ A g → w'.heap[g]? = some o ∧ ¬ A' g) : ∀ {d : Nat} {t : RV} {cs : List Value}, RunAt w A d t cs → RunAt w' A' d t cs
  | 0, _, _, h => h
  | d + 1, .mk k m s args, cs, h => by
    obtain ⟨p, c, rfl, hl, h1⟩ := h
    refine ⟨p, c, rfl, hl, fun j t hj => ?_⟩
    obtain ⟨g, o, cs', rfl, hA, hc, ht⟩ := h1 j t hj
    have h4 := ht.len
    obtain ⟨v0, hv0⟩ : ∃ v0, cs'[0]? = some v0 := ⟨cs'[0]'(by omega), List.getElem?_eq_getElem _⟩
    have hg := World.block_lt_of_cell? _ _ (hc 0 v0 hv0)
    obtain ⟨h5, h6⟩ := hk g _ (Array.getElem?_eq_getElem hg) hA
    refine ⟨g, o, cs', rfl, h6, fun i v hi => ?_, RunAt.keep hk ht⟩
    rw [World.cell?_of_block (w := w) (a := ⟨g, o + j * 4 + i, none⟩) (by rw [h5, Array.getElem?_eq_getElem hg])]
    exact hc i v hi
theorem RunsAt.keep {w w' : World} {A A' : Nat → Prop} (hk : ∀ (g : Nat) (o : Obj), w.heap[g]? = some o → ¬ A g → w'.heap[g]? = some o ∧ ¬ A' g) {d : Nat} {v : Value} {ts : List RV} (h : RunsAt w A d v ts) : RunsAt w' A' d v ts := by
  obtain ⟨p, c, rfl, hl, h1⟩ := h
  refine ⟨p, c, rfl, hl, fun j t hj => ?_⟩
  obtain ⟨g, o, cs', rfl, hA, hc, ht⟩ := h1 j t hj
  have h4 := ht.len
  obtain ⟨v0, hv0⟩ : ∃ v0, cs'[0]? = some v0 := ⟨cs'[0]'(by omega), List.getElem?_eq_getElem _⟩
  have hg := World.block_lt_of_cell? _ _ (hc 0 v0 hv0)
  obtain ⟨h5, h6⟩ := hk g _ (Array.getElem?_eq_getElem hg) hA
  refine ⟨g, o, cs', rfl, h6, fun i v hi => ?_, ht.keep hk⟩
  rw [World.cell?_of_block (w := w) (a := ⟨g, o + j * 4 + i, none⟩) (by rw [h5, Array.getElem?_eq_getElem hg])]
  exact hc i v hi
theorem RunAt.deeper {w : World} {A : Nat → Prop} : ∀ {d : Nat} {t : RV} {cs : List Value}, RunAt w A d t cs → RunAt w A (d + 1) t cs
  | 0, _, _, h => h.elim
  | d + 1, .mk k m s args, cs, h => by
    obtain ⟨p, c, rfl, hl, h1⟩ := h
    refine ⟨p, c, rfl, hl, fun j t hj => ?_⟩
    obtain ⟨g, o, cs', rfl, hA, hc, ht⟩ := h1 j t hj
    exact ⟨g, o, cs', rfl, hA, hc, RunAt.deeper ht⟩
theorem RunAt.le {w : World} {A : Nat → Prop} {t : RV} {cs : List Value} {d : Nat} (h : RunAt w A d t cs) : ∀ {e : Nat}, d ≤ e → RunAt w A e t cs := by
  intro e he
  induction e with
  | zero =>
    obtain rfl : d = 0 := by omega
    exact h
  | succ e ih =>
    by_cases h1 : d = e + 1
    · rw [← h1]; exact h
    · exact (ih (by omega)).deeper
theorem keeps_hk {w w' : World} {A : Nat → Prop} (hk : Keeps w w') : ∀ (g : Nat) (o : Obj), w.heap[g]? = some o → ¬ A g → w'.heap[g]? = some o ∧ ¬ A g := fun _ _ h hA => ⟨hk.at h (fun x => x), hA⟩
/-- The cells of an element. -/
theorem RunAt.four {w : World} {A : Nat → Prop} {d : Nat} {t : RV} {cs : List Value} (h : RunAt w A d t cs) : ∃ k m s p n c, cs = [.int .i64 k, .int .i64 m, .string s, .slice p n c] := by
  cases d with
  | zero => exact h.elim
  | succ d =>
    obtain ⟨k, m, s, args⟩ := t
    obtain ⟨p, c, rfl, _⟩ := h
    exact ⟨_, _, _, _, _, _, rfl⟩
end Go.Proofs.YtfehlbepjmmkeaaGreatDoor
namespace Go.Proofs.YtfehlbepjmmkeaaGreatDoor
open Go.RowKit

def smallC (c : Int) : Bool := decide (97 ≤ c ∧ c ≤ 122)
def greatC (c : Int) : Bool := decide (65 ≤ c ∧ c ≤ 90)
def digitC (c : Int) : Bool := decide (48 ≤ c ∧ c ≤ 57)
def partC (c : Int) : Bool := smallC c || greatC c || digitC c || decide (c = 95)
def spaceC (c : Int) : Bool := decide (c = 32 ∨ c = 9 ∨ c = 10 ∨ c = 13)

theorem isSmall_of (c : Int) (w : World) : Calls Tryz.prog 243 #[.int .u8 c] w fun e w' => e = .returned (.bool (smallC c)) ∧ w' = w := by
  go_enter Tryz.func243, Tryz.ntmps243
  go_wp2
  all_goals go_ret
  all_goals refine ⟨congrArg (fun b => Ending.returned (Value.bool b)) (?_ : _ = _), rfl⟩
  all_goals (rw [Bool.eq_iff_iff]; simp [smallC, *] <;> omega)

theorem isGreat_of (c : Int) (w : World) : Calls Tryz.prog 245 #[.int .u8 c] w fun e w' => e = .returned (.bool (greatC c)) ∧ w' = w := by
  go_enter Tryz.func245, Tryz.ntmps245
  go_wp2
  all_goals go_ret
  all_goals refine ⟨congrArg (fun b => Ending.returned (Value.bool b)) (?_ : _ = _), rfl⟩
  all_goals (rw [Bool.eq_iff_iff]; simp [greatC, *] <;> omega)

theorem isDigit_of (c : Int) (w : World) : Calls Tryz.prog 241 #[.int .u8 c] w fun e w' => e = .returned (.bool (digitC c)) ∧ w' = w := by
  go_enter Tryz.func241, Tryz.ntmps241
  go_wp2
  all_goals go_ret
  all_goals refine ⟨congrArg (fun b => Ending.returned (Value.bool b)) (?_ : _ = _), rfl⟩
  all_goals (rw [Bool.eq_iff_iff]; simp [digitC, *] <;> omega)

theorem isSpace_of (c : Int) (w : World) : Calls Tryz.prog 237 #[.int .u8 c] w fun e w' => e = .returned (.bool (spaceC c)) ∧ w' = w := by
  go_enter Tryz.func237, Tryz.ntmps237
  go_wp2
  all_goals go_ret
  all_goals refine ⟨congrArg (fun b => Ending.returned (Value.bool b)) (?_ : _ = _), rfl⟩
  all_goals (rw [Bool.eq_iff_iff]; simp [spaceC, *] <;> omega)

theorem isPart_of (c : Int) (w : World) : Calls Tryz.prog 247 #[.int .u8 c] w fun e w' => e = .returned (.bool (partC c)) ∧ w' = w := by
  go_enter Tryz.func247, Tryz.ntmps247
  go_wp2_with (first
    | (go_at_call 243; refine (isSmall_of _ _).mono ?_; rintro _ _ ⟨rfl, rfl⟩)
    | (go_at_call 245; refine (isGreat_of _ _).mono ?_; rintro _ _ ⟨rfl, rfl⟩)
    | (go_at_call 241; refine (isDigit_of _ _).mono ?_; rintro _ _ ⟨rfl, rfl⟩))
  all_goals go_ret
  all_goals refine ⟨congrArg (fun b => Ending.returned (Value.bool b)) (?_ : _ = _), rfl⟩
  all_goals (rw [Bool.eq_iff_iff]; simp [partC, *] <;> omega)
end Go.Proofs.YtfehlbepjmmkeaaGreatDoor
namespace Go.Proofs.YtfehlbepjmmkeaaGreatDoor
open Go.RowKit

/-- The byte at a place of a string, 0 behind its end. -/
def byteC (s : ByteArray) (i : Int) : Int := if h : i.toNat < s.size then ((s[i.toNat]'h).toNat : Int) else 0

set_option maxHeartbeats 1600000 in
theorem peek_of (s : ByteArray) (at_ k : Int) (b : Nat) (w : World) (h0 : w.cell? ⟨b, 0, none⟩ = some (.string s)) (h1 : w.cell? ⟨b, 1, none⟩ = some (.int .i64 at_))
    (ha : 0 ≤ at_) (hk : 0 ≤ k) (ha' : at_ ≤ 4294967296) (hk' : k ≤ 4294967296) :
    Calls Tryz.prog 240 #[.pointer (some ⟨b, 0, none⟩), .int .i64 k] w fun e w' => e = .returned (.int .u8 (byteC s (at_ + k))) ∧ Keeps w w' := by
  go_enter Tryz.func240, Tryz.ntmps240
  have hw : IntKind.i64.wrap (at_ + k) = at_ + k := by rw [IntKind.wrap_i64]; omega
  go_wp2
  go_region_held3 (fun W' => W'.cell? ⟨b, 0, none⟩ = some (.string s) ∧ W'.cell? ⟨b, 1, none⟩ = some (.int .i64 at_)) (go_keep) (first | fail)
  go_wp2
  · go_ret
    refine ⟨congrArg (fun b => Ending.returned (Value.int .u8 b)) (?_ : (0 : Int) = _), Keeps.drew _⟩
    rw [byteC, dif_neg (by omega)]
  · go_region_held3 (fun W' => W'.cell? ⟨b, 0, none⟩ = some (.string s) ∧ W'.cell? ⟨b, 1, none⟩ = some (.int .i64 at_)) (go_keep) (first | fail)
    go_wp2
    go_ret
    refine ⟨congrArg (fun b => Ending.returned (Value.int .u8 b)) (?_ : _ = _), Keeps.trans (Keeps.drew _) (Keeps.drew _)⟩
    rw [byteC, dif_pos (by omega)]
end Go.Proofs.YtfehlbepjmmkeaaGreatDoor
namespace Go.Proofs.YtfehlbepjmmkeaaGreatDoor
open Go.RowKit

/-- How many bytes of a kind stand from i on. -/
def runC (is : Int → Bool) (s : ByteArray) (i : Nat) : Nat := if i < s.size then (if is (byteC s i) then runC is s (i + 1) + 1 else 0) else 0
termination_by s.size - i

theorem runC_le (is : Int → Bool) (s : ByteArray) (i : Nat) : runC is s i ≤ s.size - i := by
  unfold runC
  split
  · split
    · have := runC_le is s (i + 1); omega
    · omega
  · omega
termination_by s.size - i

theorem runC_yes {is : Int → Bool} {s : ByteArray} {i : Nat} (h : i < s.size) (hi : is (byteC s i) = true) : runC is s i = runC is s (i + 1) + 1 := by
  rw [runC.eq_def, if_pos h, if_pos hi]
theorem runC_no {is : Int → Bool} {s : ByteArray} {i : Nat} (hi : is (byteC s i) = false) : runC is s i = 0 := by
  rw [runC.eq_def, hi]; simp
theorem runC_end {is : Int → Bool} {s : ByteArray} {i : Nat} (h : s.size ≤ i) : runC is s i = 0 := by
  rw [runC.eq_def, if_neg (by omega)]
theorem byteC_at {s : ByteArray} {i : Nat} (j : Int) (hj : j = i) (h : j.toNat < s.size) : byteC s i = ((s[j.toNat]'h).toNat : Int) := by
  subst hj; rw [byteC, dif_pos h]

set_option maxHeartbeats 1600000 in
theorem runSpace_of (s : ByteArray) (at_ k b : Nat) (w : World) (h0 : w.cell? ⟨b, 0, none⟩ = some (.string s)) (h1 : w.cell? ⟨b, 1, none⟩ = some (.int .i64 at_))
    (hs : s.size ≤ 1000000) (ha' : at_ ≤ 1000000) (hk' : k ≤ 1000000) :
    Calls Tryz.prog 236 #[.pointer (some ⟨b, 0, none⟩), .int .i64 k, .func (.func 237) #[] #[]] w fun e w' => e = .returned (.int .i64 (runC spaceC s (at_ + k))) ∧ Keeps w w' := by
  go_enter Tryz.func236, Tryz.ntmps236
  go_wp2
  go_loopw [7] (fun q W => ∃ n : Nat, q = .int .i64 n ∧ runC spaceC s (at_ + k) = n + runC spaceC s (at_ + k + n) ∧ Keeps w W) (fun q _ => s.size - (intOf q).toNat)
  case atStart => exact ⟨0, rfl, by simp, Keeps.refl _⟩
  case round =>
    obtain ⟨n, rfl, hn, hk3⟩ := hrel
    have hb := runC_le spaceC s (at_ + k)
    have c0 := cell_keeps hk3 h0
    have c1 := cell_keeps hk3 h1
    have HN := Lib.hid hn
    have HK3 := Lib.hid hk3
    have hw1 : IntKind.i64.wrap ((at_ : Int) + k) = at_ + k := by rw [IntKind.wrap_i64]; omega
    have hw2 : IntKind.i64.wrap ((at_ : Int) + k + n) = at_ + k + n := by rw [IntKind.wrap_i64]; omega
    clear hn hk3
    by_cases hlt : (at_ : Int) + k + n < s.size
    · have hge : (0 : Int) ≤ at_ + k + n := by omega
      go_wp2
      go_region_held3 (fun W' => W'.cell? ⟨b, 0, none⟩ = some (.string s) ∧ W'.cell? ⟨b, 1, none⟩ = some (.int .i64 at_)) (go_keep) (first | (go_at_call 237; refine (isSpace_of _ _).mono ?_; rintro _ _ ⟨rfl, rfl⟩))
      have hby := byteC_at (s := s) (i := at_ + k + n) ((at_ : Int) + k + n) (by omega) (by omega)
      go_wp2
      case roundEnd =>
        rename_i hsp
        refine ⟨⟨n + 1, by simp, ?_, Keeps.trans HK3.out (Keeps.drew _)⟩, by simp [intOf]; omega⟩
        have h9 := runC_yes (is := spaceC) (s := s) (i := at_ + k + n) (by omega) (by rw [hby]; exact hsp)
        rw [HN.out, h9, show at_ + k + (n + 1) = at_ + k + n + 1 from by omega]; omega
      all_goals
        rename_i hsp
        go_ret
        have h9 := runC_no (is := spaceC) (s := s) (i := at_ + k + n) (by rw [hby]; exact hsp)
        rw [HN.out, h9]
        exact ⟨rfl, Keeps.trans HK3.out (Keeps.drew _)⟩
    · have hnl : ((s.size : Nat) : Int) ≤ at_ + k + n := by omega
      have hnd : decide ((at_ : Int) + k + n < s.size) = false := decide_eq_false hlt
      go_wp2
      go_region
      go_wp2
      go_ret
      rw [HN.out, runC_end (s := s) (i := at_ + k + n) (by omega)]
      exact ⟨rfl, Keeps.trans HK3.out (Keeps.drew _)⟩
end Go.Proofs.YtfehlbepjmmkeaaGreatDoor
namespace Go.Proofs.YtfehlbepjmmkeaaGreatDoor
open Go.RowKit
set_option maxHeartbeats 1600000 in
theorem runDigit_of (s : ByteArray) (at_ k b : Nat) (w : World) (h0 : w.cell? ⟨b, 0, none⟩ = some (.string s)) (h1 : w.cell? ⟨b, 1, none⟩ = some (.int .i64 at_))
    (hs : s.size ≤ 1000000) (ha' : at_ ≤ 1000000) (hk' : k ≤ 1000000) :
    Calls Tryz.prog 236 #[.pointer (some ⟨b, 0, none⟩), .int .i64 k, .func (.func 241) #[] #[]] w fun e w' => e = .returned (.int .i64 (runC digitC s (at_ + k))) ∧ Keeps w w' := by
  go_enter Tryz.func236, Tryz.ntmps236
  go_wp2
  go_loopw [7] (fun q W => ∃ n : Nat, q = .int .i64 n ∧ runC digitC s (at_ + k) = n + runC digitC s (at_ + k + n) ∧ Keeps w W) (fun q _ => s.size - (intOf q).toNat)
  case atStart => exact ⟨0, rfl, by simp, Keeps.refl _⟩
  case round =>
    obtain ⟨n, rfl, hn, hk3⟩ := hrel
    have hb := runC_le digitC s (at_ + k)
    have c0 := cell_keeps hk3 h0
    have c1 := cell_keeps hk3 h1
    have HN := Lib.hid hn
    have HK3 := Lib.hid hk3
    have hw1 : IntKind.i64.wrap ((at_ : Int) + k) = at_ + k := by rw [IntKind.wrap_i64]; omega
    have hw2 : IntKind.i64.wrap ((at_ : Int) + k + n) = at_ + k + n := by rw [IntKind.wrap_i64]; omega
    clear hn hk3
    by_cases hlt : (at_ : Int) + k + n < s.size
    · have hge : (0 : Int) ≤ at_ + k + n := by omega
      go_wp2
      go_region_held3 (fun W' => W'.cell? ⟨b, 0, none⟩ = some (.string s) ∧ W'.cell? ⟨b, 1, none⟩ = some (.int .i64 at_)) (go_keep) (first | (go_at_call 241; refine (isDigit_of _ _).mono ?_; rintro _ _ ⟨rfl, rfl⟩))
      have hby := byteC_at (s := s) (i := at_ + k + n) ((at_ : Int) + k + n) (by omega) (by omega)
      go_wp2
      case roundEnd =>
        rename_i hsp
        refine ⟨⟨n + 1, by simp, ?_, Keeps.trans HK3.out (Keeps.drew _)⟩, by simp [intOf]; omega⟩
        have h9 := runC_yes (is := digitC) (s := s) (i := at_ + k + n) (by omega) (by rw [hby]; exact hsp)
        rw [HN.out, h9, show at_ + k + (n + 1) = at_ + k + n + 1 from by omega]; omega
      all_goals
        rename_i hsp
        go_ret
        have h9 := runC_no (is := digitC) (s := s) (i := at_ + k + n) (by rw [hby]; exact hsp)
        rw [HN.out, h9]
        exact ⟨rfl, Keeps.trans HK3.out (Keeps.drew _)⟩
    · have hnl : ((s.size : Nat) : Int) ≤ at_ + k + n := by omega
      have hnd : decide ((at_ : Int) + k + n < s.size) = false := decide_eq_false hlt
      go_wp2
      go_region
      go_wp2
      go_ret
      rw [HN.out, runC_end (s := s) (i := at_ + k + n) (by omega)]
      exact ⟨rfl, Keeps.trans HK3.out (Keeps.drew _)⟩
set_option maxHeartbeats 1600000 in
theorem runPart_of (s : ByteArray) (at_ k b : Nat) (w : World) (h0 : w.cell? ⟨b, 0, none⟩ = some (.string s)) (h1 : w.cell? ⟨b, 1, none⟩ = some (.int .i64 at_))
    (hs : s.size ≤ 1000000) (ha' : at_ ≤ 1000000) (hk' : k ≤ 1000000) :
    Calls Tryz.prog 236 #[.pointer (some ⟨b, 0, none⟩), .int .i64 k, .func (.func 247) #[] #[]] w fun e w' => e = .returned (.int .i64 (runC partC s (at_ + k))) ∧ Keeps w w' := by
  go_enter Tryz.func236, Tryz.ntmps236
  go_wp2
  go_loopw [7] (fun q W => ∃ n : Nat, q = .int .i64 n ∧ runC partC s (at_ + k) = n + runC partC s (at_ + k + n) ∧ Keeps w W) (fun q _ => s.size - (intOf q).toNat)
  case atStart => exact ⟨0, rfl, by simp, Keeps.refl _⟩
  case round =>
    obtain ⟨n, rfl, hn, hk3⟩ := hrel
    have hb := runC_le partC s (at_ + k)
    have c0 := cell_keeps hk3 h0
    have c1 := cell_keeps hk3 h1
    have HN := Lib.hid hn
    have HK3 := Lib.hid hk3
    have hw1 : IntKind.i64.wrap ((at_ : Int) + k) = at_ + k := by rw [IntKind.wrap_i64]; omega
    have hw2 : IntKind.i64.wrap ((at_ : Int) + k + n) = at_ + k + n := by rw [IntKind.wrap_i64]; omega
    clear hn hk3
    by_cases hlt : (at_ : Int) + k + n < s.size
    · have hge : (0 : Int) ≤ at_ + k + n := by omega
      go_wp2
      go_region_held3 (fun W' => W'.cell? ⟨b, 0, none⟩ = some (.string s) ∧ W'.cell? ⟨b, 1, none⟩ = some (.int .i64 at_)) (go_keep) (first | (go_at_call 247; refine (isPart_of _ _).mono ?_; rintro _ _ ⟨rfl, rfl⟩))
      have hby := byteC_at (s := s) (i := at_ + k + n) ((at_ : Int) + k + n) (by omega) (by omega)
      go_wp2
      case roundEnd =>
        rename_i hsp
        refine ⟨⟨n + 1, by simp, ?_, Keeps.trans HK3.out (Keeps.drew _)⟩, by simp [intOf]; omega⟩
        have h9 := runC_yes (is := partC) (s := s) (i := at_ + k + n) (by omega) (by rw [hby]; exact hsp)
        rw [HN.out, h9, show at_ + k + (n + 1) = at_ + k + n + 1 from by omega]; omega
      all_goals
        rename_i hsp
        go_ret
        have h9 := runC_no (is := partC) (s := s) (i := at_ + k + n) (by rw [hby]; exact hsp)
        rw [HN.out, h9]
        exact ⟨rfl, Keeps.trans HK3.out (Keeps.drew _)⟩
    · have hnl : ((s.size : Nat) : Int) ≤ at_ + k + n := by omega
      have hnd : decide ((at_ : Int) + k + n < s.size) = false := decide_eq_false hlt
      go_wp2
      go_region
      go_wp2
      go_ret
      rw [HN.out, runC_end (s := s) (i := at_ + k + n) (by omega)]
      exact ⟨rfl, Keeps.trans HK3.out (Keeps.drew _)⟩
end Go.Proofs.YtfehlbepjmmkeaaGreatDoor
namespace Go.Proofs.YtfehlbepjmmkeaaGreatDoor
open Go.RowKit

/-- How long the name is that begins at a place. -/
def nameLen (s : ByteArray) (i : Nat) : Nat :=
  if byteC s (i + runC partC s i : Nat) = 39 ∧ 0 < runC digitC s (i + runC partC s i + 1) then runC partC s i + (1 + runC digitC s (i + runC partC s i + 1)) else runC partC s i

theorem byteC_end {s : ByteArray} {i : Int} (h : (s.size : Int) ≤ i) (h0 : 0 ≤ i) : byteC s i = 0 := by
  rw [byteC, dif_neg (by omega)]
theorem byteC_pos {s : ByteArray} {i : Nat} (h : byteC s i ≠ 0) : i < s.size := by
  rcases Nat.lt_or_ge i s.size with h1 | h1
  · exact h1
  · exact absurd (byteC_end (by omega) (by omega)) h
theorem greatC_pos {s : ByteArray} {i : Nat} (h : greatC (byteC s i) = true) : i < s.size := by
  refine byteC_pos fun e => ?_
  rw [e] at h
  simp [greatC] at h
theorem great_part {c : Int} (h : greatC c = true) : partC c = true := by simp [partC, h]
theorem nameLen_le (s : ByteArray) (i : Nat) (h : i ≤ s.size) : i + nameLen s i ≤ s.size := by
  have h1 := runC_le partC s i
  unfold nameLen
  split
  · rename_i hc
    have h2 := runC_le digitC s (i + runC partC s i + 1)
    have h3 : i + runC partC s i < s.size := byteC_pos (by rw [hc.1]; decide)
    omega
  · omega
theorem nameLen_pos {s : ByteArray} {i : Nat} (h : partC (byteC s i) = true) (hi : i < s.size) : 1 ≤ nameLen s i := by
  have := runC_yes (is := partC) hi h
  unfold nameLen
  split <;> omega

/-- A token: its kind, its number, its text, its place. -/
structure Tk where
  kind : Int
  num : Int
  text : ByteArray
  at_ : Int
def Tk.cells (t : Tk) : List Value := [.int .i64 t.kind, .int .i64 t.num, .string t.text, .int .i64 t.at_]

/-- A token that begins at a place. -/
structure TokAt (s : ByteArray) (i : Nat) (t : Tk) (n : Nat) : Prop where
  pos : 1 ≤ n
  le : i + n ≤ s.size
  text : t.text = s.extract i (i + n)
  con : t.kind = 3 → greatC (byteC s i) = true ∧ n = nameLen s i
  great : greatC (byteC s i) = true → t.kind = 3

/-- A text is one constructor name. -/
def Good (s : ByteArray) : Prop := greatC (byteC s (0 : Nat)) = true ∧ nameLen s 0 = s.size

/-- What the tokens are that were read when the scanner stands at a place. -/
structure Toks (s : ByteArray) (T : List Tk) (i : Nat) : Prop where
  sound : ∀ t ∈ T, t.kind = 3 → t.text = s → Good s
  le : i ≤ s.size
  full : Good s → (T = [] ∧ i = 0) ∨ (∃ t, T = [t] ∧ t.kind = 3 ∧ t.text = s ∧ i = s.size)

theorem extract_size {s : ByteArray} {i j : Nat} (h : j ≤ s.size) : (s.extract i j).size = j - i := by
  rw [ByteArray.size_extract]; omega
theorem extract_all (s : ByteArray) : s.extract 0 s.size = s := by
  apply ByteArray.ext
  rw [ByteArray.data_extract, ← ByteArray.size_data, Array.extract_size]

theorem Toks.nil (s : ByteArray) (i : Nat) (h : i ≤ s.size) (hg : Good s → i = 0) : Toks s [] i := ⟨fun t ht => by simp at ht, h, fun g => .inl ⟨rfl, hg g⟩⟩
theorem Toks.step {s : ByteArray} {T : List Tk} {i n : Nat} {t : Tk} (h : Toks s T i) (hi : i < s.size) (ht : TokAt s i t n) : Toks s (T ++ [t]) (i + n) := by
  refine ⟨fun u hu hk hs => ?_, ht.le, fun g => ?_⟩
  · rcases List.mem_append.1 hu with hu | hu
    · exact h.sound u hu hk hs
    · simp at hu
      subst hu
      obtain ⟨h1, h2⟩ := ht.con hk
      have h3 : (s.extract i (i + n)).size = s.size := by rw [← ht.text, hs]
      rw [extract_size ht.le] at h3
      have h4 := ht.le
      obtain rfl : i = 0 := by omega
      exact ⟨h1, by omega⟩
  · rcases h.full g with ⟨rfl, rfl⟩ | ⟨u, _, _, _, he⟩
    · refine .inr ⟨t, rfl, ht.great g.1, ?_, ?_⟩
      · have h1 := (ht.con (ht.great g.1)).2
        rw [ht.text, h1, g.2, Nat.zero_add, extract_all]
      · have h1 := (ht.con (ht.great g.1)).2
        rw [h1, g.2, Nat.zero_add]
    · omega
theorem Toks.pass {s : ByteArray} {T : List Tk} {i j : Nat} (h : Toks s T i) (hj : j ≤ s.size) (hij : i ≤ j) (hc : (i = s.size ∨ greatC (byteC s i) = true) → j = i) : Toks s T j := by
  refine ⟨h.sound, hj, fun g => ?_⟩
  rcases h.full g with ⟨rfl, rfl⟩ | ⟨u, h1, h2, h3, h4⟩
  · exact .inl ⟨rfl, hc (.inr g.1)⟩
  · exact .inr ⟨u, h1, h2, h3, by omega⟩
end Go.Proofs.YtfehlbepjmmkeaaGreatDoor
namespace Go.Proofs.YtfehlbepjmmkeaaGreatDoor
open Go.RowKit

/-- A short text that is one constructor name. -/
def conB (s : ByteArray) : Bool := decide (s.size ≤ 24) && (greatC (byteC s (0 : Nat)) && decide (nameLen s 0 = s.size))
theorem conB_good {s : ByteArray} : conB s = true ↔ s.size ≤ 24 ∧ Good s := by
  unfold conB Good
  simp only [Bool.and_eq_true, decide_eq_true_eq]
mutual
def RV.size : RV → Nat
  | .mk _ _ _ args => 1 + sizes args
def sizes : List RV → Nat
  | [] => 0
  | t :: l => t.size + sizes l
end
mutual
def RV.formed : RV → Bool
  | .mk k m s args => formedL args && (if k = 0 then decide (s.size = 0) && decide (args.length = 0) else if k = 2 then decide (s.size = 0) && decide (args.length = 0) && decide (0 ≤ m) else decide (k = 1) && decide (m = 0) && decide (args.length ≤ 16) && conB s)
def formedL : List RV → Bool
  | [] => true
  | t :: l => t.formed && formedL l
end
mutual
def RV.alike : RV → RV → Bool
  | .mk k m s args, .mk k' m' s' args' => decide (k = k') && decide (m = m') && decide (s = s') && alikes args args'
def alikes : List RV → List RV → Bool
  | [], [] => true
  | t :: l, t' :: l' => t.alike t' && alikes l l'
  | _, _ => false
end
theorem size_pos (t : RV) : 1 ≤ t.size := by cases t; rw [RV.size]; omega
theorem sizes_take {l : List RV} {i : Nat} {t : RV} (h : l[i]? = some t) : sizes (l.take (i + 1)) = sizes (l.take i) + t.size := by
  induction l generalizing i with
  | nil => simp at h
  | cons x l ih =>
    cases i with
    | zero =>
      simp at h
      subst h
      simp [sizes]
    | succ i =>
      simp at h
      rw [List.take_succ_cons, List.take_succ_cons, sizes, sizes, ih h]
      omega
theorem sizes_take_le (l : List RV) (i : Nat) : sizes (l.take i) ≤ sizes l := by
  induction l generalizing i with
  | nil => simp
  | cons x l ih =>
    cases i with
    | zero => simp [sizes]
    | succ i =>
      have := ih i
      rw [List.take_succ_cons, sizes, sizes]; omega
theorem formedL_take {l : List RV} {i : Nat} {t : RV} (h : l[i]? = some t) : formedL (l.take (i + 1)) = (formedL (l.take i) && t.formed) := by
  induction l generalizing i with
  | nil => simp at h
  | cons x l ih =>
    cases i with
    | zero =>
      simp at h
      subst h
      simp [formedL]
    | succ i =>
      simp at h
      rw [List.take_succ_cons, List.take_succ_cons, formedL, formedL, ih h, Bool.and_assoc]
theorem formedL_mem {l : List RV} {i : Nat} {t : RV} (h : l[i]? = some t) (hf : formedL l = true) : t.formed = true := by
  induction l generalizing i with
  | nil => simp at h
  | cons x l ih =>
    rw [formedL, Bool.and_eq_true] at hf
    cases i with
    | zero => simp at h; subst h; exact hf.1
    | succ i => simp at h; exact ih h hf.2
theorem alikes_len {l l' : List RV} (h : l.length ≠ l'.length) : alikes l l' = false := by
  induction l generalizing l' with
  | nil => cases l' with
    | nil => exact absurd rfl h
    | cons y l' => simp [alikes]
  | cons x l ih => cases l' with
    | nil => simp [alikes]
    | cons y l' => rw [alikes, ih (by simpa using h), Bool.and_false]
theorem alikes_take {l l' : List RV} {i : Nat} {t t' : RV} (h : l[i]? = some t) (h' : l'[i]? = some t') : alikes (l.take (i + 1)) (l'.take (i + 1)) = (alikes (l.take i) (l'.take i) && t.alike t') := by
  induction l generalizing i l' with
  | nil => simp at h
  | cons x l ih =>
    cases l' with
    | nil => simp at h'
    | cons y l' =>
      cases i with
      | zero =>
        simp at h h'
        subst h; subst h'
        simp [alikes]
      | succ i =>
        simp at h h'
        rw [List.take_succ_cons, List.take_succ_cons, List.take_succ_cons, List.take_succ_cons, alikes, alikes, ih h h', Bool.and_assoc]
theorem alikes_false {l l' : List RV} {i : Nat} {t t' : RV} (h : l[i]? = some t) (h' : l'[i]? = some t') (hf : t.alike t' = false) : alikes l l' = false := by
  induction l generalizing i l' with
  | nil => simp at h
  | cons x l ih =>
    cases l' with
    | nil => simp at h'
    | cons y l' =>
      cases i with
      | zero =>
        simp at h h'
        subst h; subst h'
        rw [alikes, hf, Bool.false_and]
      | succ i =>
        simp at h h'
        rw [alikes, ih h h', Bool.and_false]
end Go.Proofs.YtfehlbepjmmkeaaGreatDoor
namespace Go.Proofs.YtfehlbepjmmkeaaGreatDoor
open Go.RowKit
set_option maxHeartbeats 8000000 in
set_option maxRecDepth 100000 in
theorem countRun_of : ∀ (d : Nat) (w : World) (A : Nat → Prop) (t : RV) (cs : List Value) (most : Nat), RunAt w A d t cs → most ≤ 4000 →
    Calls Tryz.prog 29 #[.agg cs.toArray, .int .i64 most] w fun e w' => e = .returned (.int .i64 ((min t.size (most + 1) : Nat) : Int)) ∧ Keeps w w'
  | 0, _, _, _, _, _, h, _ => h.elim
  | d + 1, w, A, .mk k m s args, cs, most, h, hm => by
    obtain ⟨p, c, rfl, hl, h1⟩ := h
    have IH := Lib.hid (countRun_of d)
    have H1 := Lib.hid h1
    obtain ⟨W0, hW0⟩ : ∃ W0, W0 = w.alloc (.cells #[.int .i64 k, .int .i64 m, .string s, .slice p args.length c] 24) := ⟨_, rfl⟩
    have hk0 : Keeps w W0 := by rw [hW0]; exact Keeps.alloc _ _
    have hb1 : W0.heap[w.heap.size]? = some (.cells #[.int .i64 k, .int .i64 m, .string s, .slice p args.length c] 24 (0, 0)) := by rw [hW0]; exact heap_alloc_at _ _
    have HK0 := Lib.hid hk0
    have HB1 := Lib.hid hb1
    clear h1 hk0 hb1
    go_enter Tryz.func29, Tryz.ntmps29
    go_wp2_with fail
    rw [← hW0]
    clear hW0
    go_loopw [5, 6] (fun qn q W => ∃ (n i : Nat), i ≤ args.length ∧ qn = .int .i64 n ∧ n = min (1 + sizes (args.take i)) (most + 1) ∧ q = .int .i64 i ∧ Keeps W0 W) (fun _ q _ => args.length - (intOf q).toNat)
    case atStart => exact ⟨1, 0, Nat.zero_le _, rfl, by simp [sizes], rfl, Keeps.refl _⟩
    case round =>
      obtain ⟨n, i, hi, rfl, hn, rfl, hk⟩ := hrel
      have HK := Lib.hid hk
      have HN := Lib.hid hn
      have a3 := cell_of_block (hk.at HB1.out (fun x => x)) 3
      simp at a3
      clear hk hn
      by_cases hil : i < args.length
      · have k6 : (i : Int) < args.length := by omega
        have k7 : (0 : Int) ≤ i := by omega
        by_cases hnm : n ≤ most
        · have k8 : (n : Int) ≤ most := by omega
          obtain ⟨u, hu⟩ : ∃ u, args[i]? = some u := ⟨_, List.getElem?_eq_getElem hil⟩
          obtain ⟨g, o, c1, rfl, hA, hc1, ht1⟩ := H1.out i u hu
          obtain ⟨k1, m1, s1, p1, n1, d1, rfl⟩ := ht1.four
          have hkw := Keeps.trans HK0.out HK.out
          have x0 := cell_keeps hkw (hc1 0 _ rfl)
          have x1 := cell_keeps hkw (hc1 1 _ rfl)
          have x2 := cell_keeps hkw (hc1 2 _ rfl)
          have x3 := cell_keeps hkw (hc1 3 _ rfl)
          have HI : Hid (Calls Tryz.prog 29 #[.agg #[.int .i64 k1, .int .i64 m1, .string s1, .slice p1 n1 d1], .int .i64 ((most : Int) - n)] wr fun e w' => e = .returned (.int .i64 ((min u.size (most - n + 1) : Nat) : Int)) ∧ Keeps wr w') := by
            have h9 := IH.out wr A u _ (most - n) (ht1.keep (keeps_hk hkw)) (by omega)
            rw [show ((most - n : Nat) : Int) = (most : Int) - n by omega] at h9
            exact Lib.hid h9
          have HU := Lib.hid hu
          clear hc1 hA ht1 hkw hu
          simp only [Nat.add_zero] at x0
          go_wp2_with (go_at_call 29; refine holdT ?_)
          refine Lib.hid ?_
          refine HI.out.mono ?_
          rintro _ w2 ⟨rfl, hk2⟩
          have HK2 := Lib.hid (Keeps.trans HK.out hk2)
          obtain ⟨z, hz⟩ : ∃ z, z = min u.size (most - n + 1) := ⟨_, rfl⟩
          rw [← hz]
          have hzl : z ≤ 4001 := by omega
          have HZ := Lib.hid hz
          clear hz hk2
          have k9 : (n : Int) ≤ 4001 := by omega
          have k10 : (0 : Int) ≤ n := by omega
          have k11 : (z : Int) ≤ 4001 := by omega
          have k12 : (0 : Int) ≤ z := by omega
          go_wp2_with fail
          go_roundw
          case rel =>
            refine ⟨n + z, i + 1, by omega, by go_num, ?_, by go_num, HK2.out⟩
            have := HN.out
            have := HZ.out
            have := sizes_take HU.out
            omega
          case measure => simp [intOf] <;> omega
        · have k8 : ¬ (n : Int) ≤ most := by omega
          have hfin : n = min (RV.mk k m s args).size (most + 1) := by
            have h1 := HN.out
            have h2 := sizes_take_le args i
            rw [RV.size]
            omega
          go_wp2_with fail
          go_ret
          exact ⟨rfl, Keeps.trans HK0.out HK.out⟩
      · obtain rfl : i = args.length := by omega
        have k6 : ¬ (args.length : Int) < args.length := by omega
        have hfin : n = min (RV.mk k m s args).size (most + 1) := by
          have h1 := HN.out
          rw [List.take_length] at h1
          rw [RV.size]
          exact h1
        go_wp2_with fail
        go_ret
        exact ⟨rfl, Keeps.trans HK0.out HK.out⟩
end Go.Proofs.YtfehlbepjmmkeaaGreatDoor
