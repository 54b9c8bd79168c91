/-
  How an order lies in memory: stamps, groups, the list; what a store does to each. No condition.
-/
import Derived.Test.YtijceljhpbdnnaaBase
namespace Go.Proofs.Ytijceljhpbdnnaa
open Go.RowKit

/-- Worlds that differ in blocks of S, and in new blocks, alone. -/
structure Kept (S : Nat → Prop) (w w' : World) : Prop where
  os : w'.os = w.os
  tape : w'.tape = w.tape
  output : w'.output = w.output
  size : w.heap.size ≤ w'.heap.size
  block : ∀ k, k < w.heap.size → ¬ S k → w'.heap[k]? = w.heap[k]?

theorem Kept.refl (S : Nat → Prop) (w : World) : Kept S w w := ⟨rfl, rfl, rfl, Nat.le_refl _, fun _ _ _ => rfl⟩
theorem Kept.trans {S T : Nat → Prop} {a b c : World} (h : Kept S a b) (k : Kept T b c) (hT : ∀ x, x < a.heap.size → T x → S x) : Kept S a c :=
  ⟨k.os.trans h.os, k.tape.trans h.tape, k.output.trans h.output, Nat.le_trans h.size k.size,
    fun i hi hn => (k.block i (Nat.lt_of_lt_of_le hi h.size) (fun t => hn (hT i hi t))).trans (h.block i hi hn)⟩
theorem Kept.mono {S T : Nat → Prop} {a b : World} (h : Kept S a b) (hT : ∀ x, x < a.heap.size → S x → T x) : Kept T a b :=
  ⟨h.os, h.tape, h.output, h.size, fun i hi hn => h.block i hi (fun s => hn (hT i hi s))⟩
theorem Kept.drewN {S : Nat → Prop} {a b : World} (h : Kept S a b) (n : Nat) : Kept S a (b.drewN n) := ⟨h.os, h.tape, h.output, h.size, h.block⟩
theorem Kept.drew {S : Nat → Prop} {a b : World} (h : Kept S a b) : Kept S a b.drew := ⟨h.os, h.tape, h.output, h.size, h.block⟩
theorem Kept.alloc {S : Nat → Prop} {a b : World} (h : Kept S a b) (o : Obj) : Kept S a (b.alloc o) :=
  ⟨h.os, h.tape, h.output, Nat.le_trans h.size (by simp), fun i hi hn => (Below.heap_alloc _ _ _ (Nat.lt_of_lt_of_le hi h.size)).trans (h.block i hi hn)⟩
theorem Kept.setCell {S : Nat → Prop} {a b : World} (h : Kept S a b) {p : Addr} (hp : p.block < a.heap.size → S p.block) (u : Value) : Kept S a (b.setCell p u) :=
  ⟨h.os, h.tape, h.output, Nat.le_trans h.size (by simp [World.setCell]), fun i hi hn => (Below.heap_setCell _ _ _ _ (fun e => hn (by rw [e]; exact hp (e ▸ hi)))).trans (h.block i hi hn)⟩
theorem Kept.grown {S : Nat → Prop} {a b c : World} {row : Option Nat} (h : Kept S a b) (hg : b.grownBy c row) (hr : ∀ k, row = some k → k < a.heap.size → S k) : Kept S a c :=
  ⟨hg.os.trans h.os, hg.tape.trans h.tape, hg.output.trans h.output, Nat.le_trans h.size hg.size,
    fun i hi hn => (hg.block i (Nat.lt_of_lt_of_le hi h.size) (fun e => hn (hr i e.symm hi))).trans (h.block i hi hn)⟩
theorem Kept.below {S : Nat → Prop} {a b : World} {B : Nat} (h : Kept S a b) (hB : B ≤ a.heap.size) (hS : ∀ k, S k → B ≤ k) : Below B a b :=
  ⟨h.os, h.tape, h.output, h.size, fun k hk => h.block k (by omega) (fun s => by have := hS k s; omega)⟩
theorem Kept.of_below {a b : World} {B : Nat} (h : Below B a b) : Kept (fun k => B ≤ k) a b :=
  ⟨h.os, h.tape, h.output, h.size, fun k _ hn => h.block k (by omega)⟩

theorem heap_lt {w : World} {b : Nat} {o : Obj} (h : w.heap[b]? = some o) : b < w.heap.size := lt_of_block h
theorem heap_set_same {w : World} {b o : Nat} {c : Array Value} {t : TypeId} {fr : Nat × Nat} (h : w.heap[b]? = some (.cells c t fr)) (v : Value) :
    (w.setCell ⟨b, o, none⟩ v).heap[b]? = some (.cells (c.setIfInBounds o v) t fr) := by
  have hlt := lt_of_block h
  have h' : w.heap[b] = .cells c t fr := by simpa [Array.getElem?_eq_getElem hlt] using h
  show (w.heap.modify b _)[b]? = _
  rw [Array.getElem?_eq_getElem (by simpa using hlt), Array.getElem_modify_self, h']
  rfl
theorem heap_set_other {w : World} {b o k : Nat} (v : Value) (hne : k ≠ b) : (w.setCell ⟨b, o, none⟩ v).heap[k]? = w.heap[k]? := Below.heap_setCell _ _ _ _ hne
theorem heap_alloc_old {w : World} {k : Nat} {x : Obj} (o : Obj) (h : w.heap[k]? = some x) : (w.alloc o).heap[k]? = some x := by rw [Below.heap_alloc _ _ _ (lt_of_block h), h]
theorem heap_alloc_at (w : World) (o : Obj) : (w.alloc o).heap[w.heap.size]? = some o := by
  show (w.heap.push o)[w.heap.size]? = _
  simp
theorem cell_of_block {w : World} {b : Nat} {c : Array Value} {t : TypeId} {fr : Nat × Nat} (h : w.heap[b]? = some (.cells c t fr)) (o : Nat) : w.cell? ⟨b, o, none⟩ = c[o]? := by simp [World.cell?, h]
theorem free_of_block {w : World} {b : Nat} {c : Array Value} {t : TypeId} (h : w.heap[b]? = some (.cells c t (0, 0))) (o : Nat) : w.frozen? ⟨b, o, none⟩ = false := by simp [World.frozen?, h]

abbrev ptr (b : Nat) : Value := .pointer (some ⟨b, 0, none⟩)
def optp (o : Option Nat) : Option Addr := o.map fun b => ⟨b, 0, none⟩
@[simp] theorem optp_none : optp none = none := rfl
@[simp] theorem optp_some (b : Nat) : optp (some b) = some ⟨b, 0, none⟩ := rfl

structure Stp where
  b : Nat
  id : Nat
  minor : Nat
structure Grp where
  b : Nat
  tag : Nat
  ss : List Stp
  rest : List Value

def stampObj (id minor g : Nat) : Obj := .cells #[.int .i64 id, .int .i64 minor, .pointer (some ⟨g, 0, none⟩)] 73 (0, 0)
def groupCells (tag n : Nat) (arr : List Value) (pv nx : Option Nat) : Array Value := (Value.int .i64 tag :: Value.int .i64 n :: (arr ++ [Value.pointer (optp pv), Value.pointer (optp nx)])).toArray
def groupObj (tag n : Nat) (arr : List Value) (pv nx : Option Nat) : Obj := .cells (groupCells tag n arr pv nx) 71 (0, 0)
def listObj (first : Option Nat) (many moves : Nat) (all : Value) (n : Nat) : Obj := .cells #[.pointer (optp first), .int .i64 many, .int .i64 moves, all, .int .i64 n] 66 (0, 0)

def StampAt (w : World) (g : Nat) (s : Stp) : Prop := w.heap[s.b]? = some (stampObj s.id s.minor g)
def Grp.arr (g : Grp) : List Value := g.ss.map (fun s => ptr s.b) ++ g.rest
def GroupAt (w : World) (pv nx : Option Nat) (g : Grp) : Prop := w.heap[g.b]? = some (groupObj g.tag g.ss.length g.arr pv nx) ∧ g.arr.length = 32 ∧ ∀ s, s ∈ g.ss → StampAt w g.b s

section
variable {w : World} {g id minor : Nat} {b : Nat}
theorem stamp_c0 (h : w.heap[b]? = some (stampObj id minor g)) : w.cell? ⟨b, 0, none⟩ = some (.int .i64 id) := by rw [cell_of_block h]; rfl
theorem stamp_c1 (h : w.heap[b]? = some (stampObj id minor g)) : w.cell? ⟨b, 1, none⟩ = some (.int .i64 minor) := by rw [cell_of_block h]; rfl
theorem stamp_c2 (h : w.heap[b]? = some (stampObj id minor g)) : w.cell? ⟨b, 2, none⟩ = some (ptr g) := by rw [cell_of_block h]; rfl
theorem stamp_fr (h : w.heap[b]? = some (stampObj id minor g)) (o : Nat) : w.frozen? ⟨b, o, none⟩ = false := free_of_block h o
theorem stamp_clean (h : w.heap[b]? = some (stampObj id minor g)) : clean w b := ⟨_, _, h⟩
end
section
variable {w : World} {b tag n : Nat} {arr : List Value} {pv nx : Option Nat}
theorem group_c0 (h : w.heap[b]? = some (groupObj tag n arr pv nx)) : w.cell? ⟨b, 0, none⟩ = some (.int .i64 tag) := by rw [cell_of_block h]; rfl
theorem group_c1 (h : w.heap[b]? = some (groupObj tag n arr pv nx)) : w.cell? ⟨b, 1, none⟩ = some (.int .i64 n) := by rw [cell_of_block h]; rfl
theorem group_ca (h : w.heap[b]? = some (groupObj tag n arr pv nx)) {i : Nat} {v : Value} (hv : arr[i]? = some v) : w.cell? ⟨b, 2 + i, none⟩ = some v := by
  rw [cell_of_block h]
  have hi : i < arr.length := (List.getElem?_eq_some_iff.1 hv).1
  simp only [groupCells, List.getElem?_toArray]
  rw [show 2 + i = i + 2 from by omega]
  simp [List.getElem?_append, hi, ← hv]
theorem group_c34 (h : w.heap[b]? = some (groupObj tag n arr pv nx)) (h32 : arr.length = 32) : w.cell? ⟨b, 34, none⟩ = some (.pointer (optp pv)) := by
  rw [cell_of_block h]; simp [groupCells, List.getElem?_append, h32]
theorem group_c35 (h : w.heap[b]? = some (groupObj tag n arr pv nx)) (h32 : arr.length = 32) : w.cell? ⟨b, 35, none⟩ = some (.pointer (optp nx)) := by
  rw [cell_of_block h]; simp [groupCells, List.getElem?_append, h32]
theorem group_fr (h : w.heap[b]? = some (groupObj tag n arr pv nx)) (o : Nat) : w.frozen? ⟨b, o, none⟩ = false := free_of_block h o
theorem group_clean (h : w.heap[b]? = some (groupObj tag n arr pv nx)) : clean w b := ⟨_, _, h⟩
theorem group_set0 (h : w.heap[b]? = some (groupObj tag n arr pv nx)) (t : Nat) : (w.setCell ⟨b, 0, none⟩ (.int .i64 t)).heap[b]? = some (groupObj t n arr pv nx) := by
  unfold groupObj at h; rw [heap_set_same h]; simp [groupObj, groupCells]
theorem group_set1 (h : w.heap[b]? = some (groupObj tag n arr pv nx)) (m : Nat) : (w.setCell ⟨b, 1, none⟩ (.int .i64 m)).heap[b]? = some (groupObj tag m arr pv nx) := by
  unfold groupObj at h; rw [heap_set_same h]; simp [groupObj, groupCells]
theorem group_seta (h : w.heap[b]? = some (groupObj tag n arr pv nx)) (i : Nat) (hi : i < arr.length) (v : Value) : (w.setCell ⟨b, 2 + i, none⟩ v).heap[b]? = some (groupObj tag n (arr.set i v) pv nx) := by
  unfold groupObj at h; rw [heap_set_same h]
  rw [show 2 + i = i + 2 from by omega]
  simp [groupObj, groupCells, List.set_append, hi]
theorem group_set34 (h : w.heap[b]? = some (groupObj tag n arr pv nx)) (h32 : arr.length = 32) (p : Option Nat) : (w.setCell ⟨b, 34, none⟩ (.pointer (optp p))).heap[b]? = some (groupObj tag n arr p nx) := by
  unfold groupObj at h; rw [heap_set_same h]; simp [groupObj, groupCells, List.set_append, h32]
theorem group_set35 (h : w.heap[b]? = some (groupObj tag n arr pv nx)) (h32 : arr.length = 32) (p : Option Nat) : (w.setCell ⟨b, 35, none⟩ (.pointer (optp p))).heap[b]? = some (groupObj tag n arr pv p) := by
  unfold groupObj at h; rw [heap_set_same h]; simp [groupObj, groupCells, List.set_append, h32]
end
section
variable {w : World} {b many moves n : Nat} {first : Option Nat} {all : Value}
theorem list_c0 (h : w.heap[b]? = some (listObj first many moves all n)) : w.cell? ⟨b, 0, none⟩ = some (.pointer (optp first)) := by rw [cell_of_block h]; rfl
theorem list_c1 (h : w.heap[b]? = some (listObj first many moves all n)) : w.cell? ⟨b, 1, none⟩ = some (.int .i64 many) := by rw [cell_of_block h]; rfl
theorem list_c2 (h : w.heap[b]? = some (listObj first many moves all n)) : w.cell? ⟨b, 2, none⟩ = some (.int .i64 moves) := by rw [cell_of_block h]; rfl
theorem list_c3 (h : w.heap[b]? = some (listObj first many moves all n)) : w.cell? ⟨b, 3, none⟩ = some all := by rw [cell_of_block h]; rfl
theorem list_c4 (h : w.heap[b]? = some (listObj first many moves all n)) : w.cell? ⟨b, 4, none⟩ = some (.int .i64 n) := by rw [cell_of_block h]; rfl
theorem list_fr (h : w.heap[b]? = some (listObj first many moves all n)) (o : Nat) : w.frozen? ⟨b, o, none⟩ = false := free_of_block h o
theorem list_set0 (h : w.heap[b]? = some (listObj first many moves all n)) (p : Option Nat) : (w.setCell ⟨b, 0, none⟩ (.pointer (optp p))).heap[b]? = some (listObj p many moves all n) := by
  unfold listObj at h; rw [heap_set_same h]; rfl
theorem list_set1 (h : w.heap[b]? = some (listObj first many moves all n)) (m : Nat) : (w.setCell ⟨b, 1, none⟩ (.int .i64 m)).heap[b]? = some (listObj first m moves all n) := by
  unfold listObj at h; rw [heap_set_same h]; rfl
theorem list_set2 (h : w.heap[b]? = some (listObj first many moves all n)) (m : Nat) : (w.setCell ⟨b, 2, none⟩ (.int .i64 m)).heap[b]? = some (listObj first many m all n) := by
  unfold listObj at h; rw [heap_set_same h]; rfl
theorem list_set3 (h : w.heap[b]? = some (listObj first many moves all n)) (v : Value) : (w.setCell ⟨b, 3, none⟩ v).heap[b]? = some (listObj first many moves v n) := by
  unfold listObj at h; rw [heap_set_same h]; rfl
theorem list_set4 (h : w.heap[b]? = some (listObj first many moves all n)) (m : Nat) : (w.setCell ⟨b, 4, none⟩ (.int .i64 m)).heap[b]? = some (listObj first many moves all m) := by
  unfold listObj at h; rw [heap_set_same h]; rfl
end
theorem stamp_set1 {w : World} {b id minor g : Nat} (h : w.heap[b]? = some (stampObj id minor g)) (m : Nat) : (w.setCell ⟨b, 1, none⟩ (.int .i64 m)).heap[b]? = some (stampObj id m g) := by
  unfold stampObj at h; rw [heap_set_same h]; rfl
theorem stamp_set2 {w : World} {b id minor g : Nat} (h : w.heap[b]? = some (stampObj id minor g)) (g' : Nat) : (w.setCell ⟨b, 2, none⟩ (ptr g')).heap[b]? = some (stampObj id minor g') := by
  unfold stampObj at h; rw [heap_set_same h]; rfl
/-- Blocks of two kinds are two. -/
theorem ne_list_stamp {w : World} {a b : Nat} {first many moves all n id minor g} (h : w.heap[a]? = some (listObj first many moves all n)) (k : w.heap[b]? = some (stampObj id minor g)) : a ≠ b := by
  intro e; subst e; rw [h] at k; simp [listObj, stampObj] at k
theorem ne_list_group {w : World} {a b : Nat} {first many moves all n tag m arr pv nx} (h : w.heap[a]? = some (listObj first many moves all n)) (k : w.heap[b]? = some (groupObj tag m arr pv nx)) : a ≠ b := by
  intro e; subst e; rw [h] at k; simp [listObj, groupObj] at k
theorem ne_group_stamp {w : World} {a b : Nat} {tag m arr pv nx id minor g} (h : w.heap[a]? = some (groupObj tag m arr pv nx)) (k : w.heap[b]? = some (stampObj id minor g)) : a ≠ b := by
  intro e; subst e; rw [h] at k; simp [groupObj, stampObj] at k
end Go.Proofs.Ytijceljhpbdnnaa
