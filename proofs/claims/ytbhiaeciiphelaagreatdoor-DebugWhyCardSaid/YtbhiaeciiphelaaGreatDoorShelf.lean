/-
  DERIVED: THE SHELF's CONTRACTS AT THIS DUMP, IN PLAIN WORDS (tools/lay-plain.mjs out of 'TryzShelf.lean', which tools/lay-shelf.mjs wrote): THE SAME DECLARATIONS UNDER THE SAME NAMES: 'import', 'namespace', 'open', 'def', 'theorem' AND NOTHING ELSE: no command of the shelf's: FOR A HAND-IN. Each laying: the table of numbers ('.._ren') and one theorem, a field a fact of the dump's own or the kernel's comparison; each contract: ONE APPLICATION.
-/
import Derived.Shelf.Sort.Plain
import Derived.Ground.Names2Prog
import Derived.Shelf.Slices.Clone
import Derived.Shelf.Slices.CompactI
import Derived.Shelf.Slices.SearchI
import Derived.Shelf.Slices.Cells
import Derived.Shelf.Slices.In.SortNone
import Derived.Shelf.Slices.Empties
import Derived.Test.YtbhiaeciiphelaaGreatDoorProg
import Derived.Test.YtbhiaeciiphelaaGreatDoorMomA
import Derived.Test.YtbhiaeciiphelaaGreatDoorEvX
import Derived.WalkMore
import Derived.Sort.OwnSortedInts
namespace Go.Proofs
open Go.Shelf
def Tryz.lays189_ren : Go.Shelf.Ren := ⟨fun | 189 => 92 | 125 => 125 | 257 => 124 | 128 => 163 | 129 => 164 | 294 => 155 | 295 => 156 | 296 => 157 | 297 => 158 | 298 => 159 | 299 => 160 | 216 => 153 | 300 => 161 | 301 => 162 | 328 => 185 | 329 => 186 | 330 => 187 | 331 => 188 | 332 => 189 | 215 => 184 | 343 => 218 | n => n, fun | 28 => 35 | 3 => 3 | 46 => 214 | 0 => 0 | 51 => 255 | 53 => 257 | 4 => 4 | 183 => 249 | 182 => 248 | 131 => 25 | 5 => 5 | 9 => 9 | 218 => 279 | 222 => 118 | 228 => 295 | 229 => 296 | n => n, fun | n => n⟩
theorem Tryz.lays189 : Go.Proofs.Lays.n189 Tryz.prog Tryz.lays189_ren := {
  mixed := by kernel_rfl
  f125 := Tryz.func125.trans (congrArg some (by kernel_rfl))
  f128 := Tryz.func163.trans (congrArg some (by kernel_rfl))
  f129 := Tryz.func164.trans (congrArg some (by kernel_rfl))
  f189 := Tryz.func92.trans (congrArg some (by kernel_rfl))
  f215 := Tryz.func184.trans (congrArg some (by kernel_rfl))
  f216 := Tryz.func153.trans (congrArg some (by kernel_rfl))
  f257 := Tryz.func124.trans (congrArg some (by kernel_rfl))
  f294 := Tryz.func155.trans (congrArg some (by kernel_rfl))
  f295 := Tryz.func156.trans (congrArg some (by kernel_rfl))
  f296 := Tryz.func157.trans (congrArg some (by kernel_rfl))
  f297 := Tryz.func158.trans (congrArg some (by kernel_rfl))
  f298 := Tryz.func159.trans (congrArg some (by kernel_rfl))
  f299 := Tryz.func160.trans (congrArg some (by kernel_rfl))
  f300 := Tryz.func161.trans (congrArg some (by kernel_rfl))
  f301 := Tryz.func162.trans (congrArg some (by kernel_rfl))
  f328 := Tryz.func185.trans (congrArg some (by kernel_rfl))
  f329 := Tryz.func186.trans (congrArg some (by kernel_rfl))
  f330 := Tryz.func187.trans (congrArg some (by kernel_rfl))
  f331 := Tryz.func188.trans (congrArg some (by kernel_rfl))
  f332 := Tryz.func189.trans (congrArg some (by kernel_rfl))
  f343 := Tryz.func218.trans (congrArg some (by kernel_rfl))
  t0 := Tryz.underlying0
  a0 := Tryz.isAgg0
  z0 := Tryz.sizeOf0
  v0 := Tryz.zeroValue0
  t3 := Tryz.underlying3
  a3 := Tryz.isAgg3
  z3 := Tryz.sizeOf3
  v3 := Tryz.zeroValue3
  t4 := Tryz.underlying4
  a4 := Tryz.isAgg4
  z4 := Tryz.sizeOf4
  v4 := Tryz.zeroValue4
  t5 := Tryz.underlying5
  a5 := Tryz.isAgg5
  z5 := Tryz.sizeOf5
  v5 := Tryz.zeroValue5
  t9 := Tryz.underlying9
  a9 := Tryz.isAgg9
  z9 := Tryz.sizeOf9
  v9 := Tryz.zeroValue9
  t28 := Tryz.underlying35
  a28 := Tryz.isAgg35
  z28 := Tryz.sizeOf35
  v28 := Tryz.zeroValue35
  t46 := Tryz.underlying214
  a46 := Tryz.isAgg214
  z46 := Tryz.sizeOf214
  v46 := Tryz.zeroValue214
  t51 := Tryz.underlying255
  a51 := Tryz.isAgg255
  z51 := Tryz.sizeOf255
  v51 := Tryz.zeroValue255
  t53 := Tryz.underlying257
  a53 := Tryz.isAgg257
  z53 := Tryz.sizeOf257
  v53 := Tryz.zeroValue257
  t131 := Tryz.underlying25
  a131 := Tryz.isAgg25
  z131 := Tryz.sizeOf25
  v131 := Tryz.zeroValue25
  t182 := Tryz.underlying248
  a182 := Tryz.isAgg248
  z182 := Tryz.sizeOf248
  v182 := Tryz.zeroValue248
  t183 := Tryz.underlying249
  a183 := Tryz.isAgg249
  z183 := Tryz.sizeOf249
  v183 := Tryz.zeroValue249
  t218 := Tryz.underlying279
  a218 := Tryz.isAgg279
  z218 := Tryz.sizeOf279
  v218 := Tryz.zeroValue279
  t222 := Tryz.underlying118
  a222 := Tryz.isAgg118
  z222 := Tryz.sizeOf118
  v222 := Tryz.zeroValue118
  t228 := Tryz.underlying295
  a228 := Tryz.isAgg295
  z228 := Tryz.sizeOf295
  v228 := Tryz.zeroValue295
  t229 := Tryz.underlying296
  a229 := Tryz.isAgg296
  z229 := Tryz.sizeOf296
  v229 := Tryz.zeroValue296 }
open Go.Sort Go.RowKit in
theorem Tryz.slices_Sort_int (blk off cap : Nat) (zs : List Int) (w : World) (hH : Holds (Value.int .i64) w blk off zs.toArray) (hblk : blk < w.heap.size) (hsz : zs.length < 4611686018427387904) :
    Calls Tryz.prog 92 #[.slice (some ⟨blk, off, none⟩) zs.length cap] w fun e w' =>
      e = .returned (.tuple #[]) ∧ ∃ n os, w' = grow (putRow (Value.int .i64) (Sort.ahead w n) blk off (zs.mergeSort fun x y => decide (x ≤ y)).toArray) os := Any.slices_Sort_int Tryz.lays189 blk off cap zs w hH hblk hsz
def Tryz.laysNm220_ren : Go.Shelf.Ren := ⟨fun | 20 => 98 | n => n, fun | 22 => 35 | 3 => 3 | 4 => 4 | 0 => 0 | n => n, fun | n => n⟩
theorem Tryz.laysNm220 : Go.Proofs.Lays2.n20 Tryz.prog Tryz.laysNm220_ren := {
  mixed := by kernel_rfl
  f20 := Tryz.func98.trans (congrArg some (by kernel_rfl))
  t0 := Tryz.underlying0
  a0 := Tryz.isAgg0
  z0 := Tryz.sizeOf0
  v0 := Tryz.zeroValue0
  t3 := Tryz.underlying3
  a3 := Tryz.isAgg3
  z3 := Tryz.sizeOf3
  v3 := Tryz.zeroValue3
  t4 := Tryz.underlying4
  a4 := Tryz.isAgg4
  z4 := Tryz.sizeOf4
  v4 := Tryz.zeroValue4
  t22 := Tryz.underlying35
  a22 := Tryz.isAgg35
  z22 := Tryz.sizeOf35
  v22 := Tryz.zeroValue35
  i3 := by kernel_rfl }
open Go.RowKit Go.Lib Go.Sort in
theorem Tryz.slices_Compact_int (blk off cap : Nat) (zs : List Int) (w : World) (hH : Holds (Value.int .i64) w blk off zs.toArray) (hsz : zs.length ≤ 9223372036854775807) (hcap : zs.length ≤ cap) :
    Calls Tryz.prog 98 #[.slice (some ⟨blk, off, none⟩) zs.length cap] w fun e w' => e = .returned (.slice (some ⟨blk, off, none⟩) (Lib.compact zs).length cap) ∧ ∃ q, w' = putRow (Value.int .i64) (Sort.ahead w q) blk off (Lib.compact zs ++ List.replicate (zs.length - (Lib.compact zs).length) 0).toArray := Any.slices_Compact_int Tryz.laysNm220 blk off cap zs w hH hsz hcap
open Go.RowKit Go.Lib Go.Sort in
theorem Tryz.slices_Compact_int_empty (a : Option Addr) (cap : Nat) (w : World) :
    Calls Tryz.prog 98 #[.slice a 0 cap] w fun e w' => e = .returned (.slice a 0 cap) ∧ w' = w := Any.slices_Compact_int_empty Tryz.laysNm220 a cap w
def Tryz.laysNm225_ren : Go.Shelf.Ren := ⟨fun | 25 => 123 | 31 => 153 | 32 => 154 | 37 => 184 | n => n, fun | 22 => 35 | 3 => 3 | 4 => 4 | 40 => 214 | 0 => 0 | n => n, fun | n => n⟩
theorem Tryz.laysNm225 : Go.Proofs.Lays2.n25 Tryz.prog Tryz.laysNm225_ren := {
  mixed := by kernel_rfl
  f25 := Tryz.func123.trans (congrArg some (by kernel_rfl))
  f31 := Tryz.func153.trans (congrArg some (by kernel_rfl))
  f32 := Tryz.func154.trans (congrArg some (by kernel_rfl))
  f37 := Tryz.func184.trans (congrArg some (by kernel_rfl))
  t0 := Tryz.underlying0
  a0 := Tryz.isAgg0
  z0 := Tryz.sizeOf0
  v0 := Tryz.zeroValue0
  t3 := Tryz.underlying3
  a3 := Tryz.isAgg3
  z3 := Tryz.sizeOf3
  v3 := Tryz.zeroValue3
  t4 := Tryz.underlying4
  a4 := Tryz.isAgg4
  z4 := Tryz.sizeOf4
  v4 := Tryz.zeroValue4
  t22 := Tryz.underlying35
  a22 := Tryz.isAgg35
  z22 := Tryz.sizeOf35
  v22 := Tryz.zeroValue35
  t40 := Tryz.underlying214
  a40 := Tryz.isAgg214
  z40 := Tryz.sizeOf214
  v40 := Tryz.zeroValue214 }
open Go.RowKit Go.Lib in
theorem Tryz.slices_BinarySearch_int (b off n c : Nat) (zs : List Int) (x : Int) (w : World) (hz : n ≤ zs.length) (hbig : n < 4611686018427387904) (hc : ∀ j, j < zs.length → w.cell? ⟨b, off + j, none⟩ = some (.int .i64 (zs.getD j 0))) (hs : (zs.take n).Pairwise (· ≤ ·)) :
    Calls Tryz.prog 123 #[.slice (some ⟨b, off, none⟩) n c, .int .i64 x] w fun e w' => e = .returned (.tuple #[.int .i64 ((zs.take n).countP (· < x) : Nat), .bool ((zs.take n).contains x)]) ∧ ∃ q, w' = w.drewN q := Any.slices_BinarySearch_int Tryz.laysNm225 b off n c zs x w hz hbig hc hs
open Go.RowKit Go.Sort in
theorem Tryz.slices_Sort_int_none (p : Option Addr) (cap : Nat) (w : World) :
    Calls Tryz.prog 92 #[.slice p 0 cap] w fun e w' => e = .returned (.tuple #[]) ∧ w' = w := Any.slices_Sort_int_none Tryz.lays189 p cap w
open Go.RowKit Go.Lib in
theorem Tryz.slices_BinarySearch_int_empty (a : Option Addr) (c : Nat) (x : Int) (w : World) :
    Calls Tryz.prog 123 #[.slice a 0 c, .int .i64 x] w fun e w' => e = .returned (.tuple #[.int .i64 0, .bool false]) ∧ w' = w := Any.slices_BinarySearch_int_empty Tryz.laysNm225 a c x w
def Tryz.laysNm215_ren : Go.Shelf.Ren := ⟨fun | 15 => 96 | n => n, fun | 22 => 35 | 3 => 3 | 4 => 4 | n => n, fun | n => n⟩
theorem Tryz.laysNm215 : Go.Proofs.Lays2.n15 Tryz.prog Tryz.laysNm215_ren := {
  mixed := by kernel_rfl
  f15 := Tryz.func96.trans (congrArg some (by kernel_rfl))
  t3 := Tryz.underlying3
  a3 := Tryz.isAgg3
  z3 := Tryz.sizeOf3
  v3 := Tryz.zeroValue3
  t4 := Tryz.underlying4
  a4 := Tryz.isAgg4
  z4 := Tryz.sizeOf4
  v4 := Tryz.zeroValue4
  t22 := Tryz.underlying35
  a22 := Tryz.isAgg35
  z22 := Tryz.sizeOf35
  v22 := Tryz.zeroValue35
  i3 := by kernel_rfl }
open Go.RowKit Go.Lib in
theorem Tryz.slices_Clone_int (b off n c : Nat) (zs : List Int) (w : World) (hz : n ≤ zs.length) (hbig : n * 8 ≤ 140737488355328) (hc : ∀ j, j < zs.length → w.cell? ⟨b, off + j, none⟩ = some (.int .i64 (zs.getD j 0))) :
    Calls Tryz.prog 96 #[.slice (some ⟨b, off, none⟩) n c] w fun e w' => ∃ v', e = .returned v' ∧ w'.ownsRow w.heap.size 3 1 v' n ((zs.take n).map (Value.int .i64)) ∧ v' ≠ .slice none 0 0 ∧ Below w.heap.size w w' := Any.slices_Clone_int Tryz.laysNm215 b off n c zs w hz hbig hc
open Go.RowKit Go.Lib in
theorem Tryz.slices_Clone_int_nil (n c : Nat) (w : World) :
    Calls Tryz.prog 96 #[.slice none n c] w fun e w' => e = .returned (.slice none 0 0) ∧ w' = w := Any.slices_Clone_int_nil Tryz.laysNm215 n c w
open Go.RowKit Go.Lib in
theorem Tryz.slices_Clone_int_zero (a : Addr) (c : Nat) (w : World) :
    Calls Tryz.prog 96 #[.slice (some a) 0 c] w fun e w' => ∃ v', e = .returned v' ∧ w'.ownsRow w.heap.size 3 1 v' 0 [] ∧ v' ≠ .slice none 0 0 ∧ Below w.heap.size w w' := Any.slices_Clone_int_zero Tryz.laysNm215 a c w
end Go.Proofs
namespace Go.Proofs.YtbhiaeciiphelaaGreatDoor
open Go.RowKit
theorem Kept.one1 {B : Nat} {W W' : World} (h : Kept (fun b => b = B) W W') (o : Nat) (v : Value) : Kept (fun b => b = B) W (W'.setCell ⟨B, o, none⟩ v) := h.setCell (p := ⟨B, o, none⟩) (fun _ => rfl) v
theorem Kept.one0 {B : Nat} {W W' : World} (h : Keeps W W') (hB : W.heap.size ≤ B) (o : Nat) (v : Value) : Keeps W (W'.setCell ⟨B, o, none⟩ v) := h.setCell (p := ⟨B, o, none⟩) (fun h => absurd h (Nat.not_lt.2 hB)) v
structure Fam (base : Nat) (W : World) (F : Nat → Value) (C : Nat → List Int) (n : Nat) : Prop where
  rows : ∀ k, k < n → W.ownsRow base 3 1 (F k) (C k).length (ints (C k))
  apart : ∀ (j k b : Nat), j < n → k < n → j ≠ k → (F j).ownBlock = some b → (F k).ownBlock ≠ some b
section
variable {base n : Nat} {W W' : World} {F : Nat → Value} {C : Nat → List Int}
theorem Fam.block (h : Fam base W F C n) {k b : Nat} (hk : k < n) (hb : (F k).ownBlock = some b) : (∃ cur, W.heap[b]? = some (.cells cur 3 (0, 0))) ∧ base ≤ b := ⟨row_block (h.rows k hk) hb, ((h.rows k hk).lt b hb).1⟩
theorem Fam.keep {S : Nat → Prop} (h : Fam base W F C n) (hk : Kept S W W') (hS : ∀ (k b : Nat), k < n → (F k).ownBlock = some b → ¬ S b) : Fam base W' F C n :=
  ⟨fun k hkn => row_same (h.rows k hkn) fun g hg => hk.block g ((h.rows k hkn).lt g hg).2 (hS k g hkn hg), h.apart⟩
theorem Fam.keeps (h : Fam base W F C n) (hk : Keeps W W') : Fam base W' F C n := h.keep hk (fun _ _ _ _ x => x)
theorem Fam.other (h : Fam base W F C n) {B : Nat} {c : Array Value} {t : TypeId} {fr : Nat × Nat} (hB : W.heap[B]? = some (.cells c t fr)) (ht : t ≠ 3) (hk : Kept (fun b => b = B) W W') : Fam base W' F C n :=
  h.keep hk fun k b hkn hb e => by
    obtain ⟨⟨cur, hc⟩, _⟩ := h.block hkn hb
    rw [e, hB] at hc
    simp at hc
    exact ht hc.2.1
theorem Fam.less (h : Fam base W F C n) {m : Nat} (hm : m ≤ n) : Fam base W F C m := ⟨fun k hk => h.rows k (by omega), fun j k b hj hk => h.apart j k b (by omega) (by omega)⟩
theorem Fam.add (h : Fam base W F C n) : Fam base W (fun k => if k = n then .slice none 0 0 else F k) (fun k => if k = n then [] else C k) (n + 1) := by
  refine ⟨fun k hk => ?_, fun j k b hj hk hjk hb => ?_⟩
  · by_cases e : k = n
    · simp only [e, if_true]; exact World.ownsRow_nil _ _ _ _
    · simp only [e, if_false]; exact h.rows k (by omega)
  · by_cases e : j = n
    · simp only [e, if_true] at hb; simp [Value.ownBlock] at hb
    · simp only [e, if_false] at hb
      by_cases e2 : k = n
      · simp only [e2, if_true]; simp [Value.ownBlock]
      · simp only [e2, if_false]; exact h.apart j k b (by omega) (by omega) hjk hb
theorem Fam.app (h : Fam base W F C n) {j : Nat} {v : Value} {x : Int} (hj : j < n) (hk : Kept (fun b => (F j).ownBlock = some b) W W') (hr : W'.ownsRow base 3 1 v ((C j).length + 1) (ints (C j) ++ [.int .i64 x]))
    (hat : v.ownBlock = (F j).ownBlock ∨ ∃ g, v.ownBlock = some g ∧ W.heap.size ≤ g) : Fam base W' (fun k => if k = j then v else F k) (fun k => if k = j then C j ++ [x] else C k) n := by
  refine ⟨fun k hkn => ?_, fun i k b hi hkn hik hb => ?_⟩
  · by_cases e : k = j
    · simp only [e, if_true]
      have e1 : (C j ++ [x]).length = (C j).length + 1 := by simp
      have e2 : ints (C j ++ [x]) = ints (C j) ++ [.int .i64 x] := by simp [ints]
      rw [e1, e2]; exact hr
    · simp only [e, if_false]
      exact row_same (h.rows k hkn) fun g hg => hk.block g ((h.rows k hkn).lt g hg).2 fun hg2 => h.apart k j g hkn hj e hg hg2
  · by_cases e : i = j
    · simp only [e, if_true] at hb
      have e2 : ¬ k = j := fun e2 => hik (by rw [e, e2])
      simp only [e2, if_false]
      rcases hat with hat | ⟨g, hg, hl⟩
      · exact h.apart j k b hj hkn (fun x => e2 x.symm) (hat ▸ hb)
      · intro hkb
        rw [hg] at hb
        injection hb with hb
        have := ((h.rows k hkn).lt b hkb).2
        omega
    · simp only [e, if_false] at hb
      by_cases e2 : k = j
      · simp only [e2, if_true]
        rcases hat with hat | ⟨g, hg, hl⟩
        · rw [hat]; exact h.apart i j b hi hj e hb
        · intro hkb
          rw [hg] at hkb
          injection hkb with hkb
          have := ((h.rows i hi).lt b hb).2
          omega
      · simp only [e2, if_false]
        exact h.apart i k b hi hkn hik hb
theorem ints_at {v : Value} {l : List Int} (h : W.ownsRow base 3 1 v l.length (ints l)) : IntsAt W v l := by
  rcases h.2 with ⟨h1, h2⟩ | ⟨g, cap, cur, hv, _, hg, hc, _⟩
  · refine ⟨none, 0, by rw [h1, h2], fun j x hj => ?_⟩
    have := (List.getElem?_eq_some_iff.1 hj).1
    omega
  · refine ⟨some ⟨g, 0, none⟩, cap, hv, fun j x hj => ⟨g, 0, rfl, ?_⟩⟩
    have h3 := h.cells (g := g) (by rw [hv]; rfl) j (.int .i64 x) (by simp [ints, hj])
    rw [Nat.zero_add]
    by_cases e : j = 0
    · subst e; simpa [Addr.add] using h3
    · simpa [Addr.add, e] using h3
end
structure MomMem (w W : World) (B : Nat) (F : Nat → Value) (C : Nat → List Int) (rv : Value) (r m : Nat) : Prop where
  kept : Keeps w W
  nB : w.heap.size ≤ B
  blk : W.heap[B]? = some (.cells #[F 0, F 1, rv] 61 (0, 0))
  fam : Fam w.heap.size W F C m
  le : r + 2 ≤ m
  outer : W.ownsRow w.heap.size 35 1 rv r ((List.range r).map fun j => F (j + 2))
section
variable {w W W' : World} {B r m : Nat} {F : Nat → Value} {C : Nat → List Int} {rv : Value}
theorem MomMem.neF (h : MomMem w W B F C rv r m) {k b : Nat} (hk : k < m) (hb : (F k).ownBlock = some b) : b ≠ B ∧ rv.ownBlock ≠ some b := by
  obtain ⟨⟨cur, hc⟩, _⟩ := h.fam.block hk hb
  refine ⟨fun e => ?_, fun e => ?_⟩
  · rw [e, h.blk] at hc; simp at hc
  · obtain ⟨c2, hc2⟩ := row_block h.outer e
    rw [hc] at hc2; simp at hc2
theorem MomMem.neR (h : MomMem w W B F C rv r m) {b : Nat} (hb : rv.ownBlock = some b) : b ≠ B := by
  obtain ⟨c2, hc2⟩ := row_block h.outer hb
  intro e
  rw [e, h.blk] at hc2; simp at hc2
theorem MomMem.keeps (h : MomMem w W B F C rv r m) (hk : Keeps W W') : MomMem w W' B F C rv r m :=
  ⟨Keeps.trans h.kept hk, h.nB, hk.at h.blk (fun x => x), h.fam.keeps hk, h.le, row_same h.outer fun g hg => hk.block g (h.outer.lt g hg).2 (fun x => x)⟩
theorem MomMem.add (h : MomMem w W B F C rv r m) : MomMem w W B (fun k => if k = m then .slice none 0 0 else F k) (fun k => if k = m then [] else C k) rv r (m + 1) := by
  have hle := h.le
  refine ⟨h.kept, h.nB, ?_, h.fam.add, by omega, ?_⟩
  · rw [if_neg (by omega), if_neg (by omega)]; exact h.blk
  · have : ((List.range r).map fun j => if j + 2 = m then (.slice none 0 0 : Value) else F (j + 2)) = (List.range r).map fun j => F (j + 2) := by
      refine List.map_congr_left fun j hj => ?_
      rw [List.mem_range] at hj
      rw [if_neg (by omega)]
    rw [this]; exact h.outer
def Calm (o : Obj) : Prop := ∀ cur, o ≠ .cells cur 3 (0, 0) ∧ o ≠ .cells cur 35 (0, 0)
theorem calm_of {c : Array Value} {t : TypeId} (h1 : t ≠ 3) (h2 : t ≠ 35) : Calm (.cells c t (0, 0)) := fun cur => ⟨fun e => by injection e with _ e; exact h1 e, fun e => by injection e with _ e; exact h2 e⟩
theorem MomMem.top (h : MomMem w W B F C rv r m) {j : Nat} {v : Value} {x : Int} {o : Obj} (hj : j < 2) (hg : (W.alloc o).grownBy W' (F j).ownBlock) (hr : W'.ownsRow w.heap.size 3 1 v ((C j).length + 1) (ints (C j) ++ [.int .i64 x]))
    (hat : v.ownBlock = (F j).ownBlock ∨ v.ownBlock = some (W.alloc o).heap.size) : MomMem w (W'.setCell ⟨B, j, none⟩ v) B (fun k => if k = j then v else F k) (fun k => if k = j then C j ++ [x] else C k) rv r m ∧ W'.heap[B]? = some (.cells #[F 0, F 1, rv] 61 (0, 0)) ∧ ∀ (b : Nat) (o' : Obj), W.heap[b]? = some o' → Calm o' → b ≠ B → (W'.setCell ⟨B, j, none⟩ v).heap[b]? = some o' := by
  have hle := h.le
  have hjm : j < m := by omega
  have hk : Kept (fun b => (F j).ownBlock = some b) W W' := ((Kept.refl _ W).alloc o).grown hg (fun b hb _ => hb)
  have hat' : v.ownBlock = (F j).ownBlock ∨ ∃ g, v.ownBlock = some g ∧ W.heap.size ≤ g := by
    rcases hat with e | e
    · exact .inl e
    · exact .inr ⟨_, e, by rw [World.size_alloc]; exact Nat.le_succ _⟩
  have hB : W'.heap[B]? = some (.cells #[F 0, F 1, rv] 61 (0, 0)) := hk.at h.blk (fun e => (h.neF hjm e).1 rfl)
  have hfam := h.fam.app hjm hk hr hat'
  have hks : Kept (fun b => b = B) W' (W'.setCell ⟨B, j, none⟩ v) := (Kept.refl (fun b => b = B) W').one1 j v
  refine ⟨⟨?_, h.nB, ?_, hfam.other hB (by decide) hks, h.le, ?_⟩, hB, fun b o' hb hc hne => hks.at (hk.at hb fun e => by obtain ⟨⟨cur, h1⟩, _⟩ := h.fam.block hjm e; rw [h1] at hb; injection hb with hb; exact (hc cur).1 hb.symm) hne⟩
  · exact Kept.one0 (Kept.trans h.kept hk (fun b hb hb2 => by have := (h.fam.block hjm hb2).2; omega)) h.nB _ _
  · rw [heap_set_same hB]
    rcases (show j = 0 ∨ j = 1 by omega) with rfl | rfl <;> rfl
  · have : ((List.range r).map fun i => if i + 2 = j then v else F (i + 2)) = (List.range r).map fun j => F (j + 2) := by
      refine List.map_congr_left fun i hi => ?_
      rw [if_neg (by omega)]
    rw [this]
    refine row_same h.outer fun g hg' => ?_
    rw [heap_set_other _ (h.neR hg')]
    exact hk.block g (h.outer.lt g hg').2 fun e => (h.neF hjm e).2 hg'
theorem MomMem.push (h : MomMem w W B F C rv r m) {v : Value} {o : Obj} (hm : r + 3 ≤ m) (hg : (W.alloc o).grownBy W' rv.ownBlock) (hr : W'.ownsRow w.heap.size 35 1 v (r + 1) (((List.range r).map fun j => F (j + 2)) ++ [F (r + 2)])) :
    MomMem w (W'.setCell ⟨B, 2, none⟩ v) B F C v (r + 1) m ∧ W'.heap[B]? = some (.cells #[F 0, F 1, rv] 61 (0, 0)) ∧ ∀ (b : Nat) (o' : Obj), W.heap[b]? = some o' → Calm o' → b ≠ B → (W'.setCell ⟨B, 2, none⟩ v).heap[b]? = some o' := by
  have hk : Kept (fun b => rv.ownBlock = some b) W W' := ((Kept.refl _ W).alloc o).grown hg (fun b hb _ => hb)
  have hB : W'.heap[B]? = some (.cells #[F 0, F 1, rv] 61 (0, 0)) := hk.at h.blk (fun e => h.neR e rfl)
  have hfam : Fam w.heap.size W' F C m := h.fam.keep hk fun k b hk2 hb hb2 => (h.neF hk2 hb).2 hb2
  have hks : Kept (fun b => b = B) W' (W'.setCell ⟨B, 2, none⟩ v) := (Kept.refl (fun b => b = B) W').one1 2 v
  refine ⟨⟨?_, h.nB, ?_, hfam.other hB (by decide) hks, by omega, ?_⟩, hB, fun b o' hb hc hne => hks.at (hk.at hb fun e => by obtain ⟨cur, h1⟩ := row_block h.outer e; rw [h1] at hb; injection hb with hb; exact (hc cur).2 hb.symm) hne⟩
  · exact Kept.one0 (Kept.trans h.kept hk (fun b hb hb2 => by have := (h.outer.lt b hb2).1; omega)) h.nB _ _
  · rw [heap_set_same hB]; rfl
  · have : (List.range (r + 1)).map (fun j => F (j + 2)) = ((List.range r).map fun j => F (j + 2)) ++ [F (r + 2)] := by simp [List.range_succ]
    rw [this]
    refine row_same hr fun g hg' => heap_set_other _ ?_
    obtain ⟨cur, hc⟩ := row_block hr hg'
    intro e
    rw [e, hB] at hc; simp at hc
theorem MomMem.done (h : MomMem w W B F C rv r m) : MomAt W (.agg #[F 0, F 1, rv]) ⟨C 0, C 1, (List.range r).map fun j => C (j + 2)⟩ := by
  have hle := h.le
  refine ⟨_, _, _, rfl, ints_at (h.fam.rows 0 (by omega)), ints_at (h.fam.rows 1 (by omega)), ?_⟩
  have hlen : ((List.range r).map fun j => C (j + 2)).length = r := by simp
  have key : ∀ (j : Nat) (l : List Int), ((List.range r).map fun j => C (j + 2))[j]? = some l → j < r ∧ l = C (j + 2) := by
    intro j l hj
    rw [List.getElem?_map] at hj
    cases hr : (List.range r)[j]? with
    | none => rw [hr] at hj; cases hj
    | some i =>
      rw [hr] at hj
      obtain ⟨h1, h2⟩ := List.getElem?_eq_some_iff.1 hr
      simp at h1 h2
      subst h2
      injection hj with hj
      exact ⟨h1, hj.symm⟩
  rcases h.outer.2 with ⟨h1, h2⟩ | ⟨g, cap, cur, hv, _, hg, hc, _⟩
  · refine ⟨none, 0, by rw [h1]; simp [h2], fun j l hj => ?_⟩
    have := (key j l hj).1
    omega
  · refine ⟨some ⟨g, 0, none⟩, cap, by rw [hv]; simp, fun j l hj => ?_⟩
    obtain ⟨hjr, rfl⟩ := key j l hj
    refine ⟨g, 0, F (j + 2), rfl, ?_, ints_at (h.fam.rows (j + 2) (by omega))⟩
    have h3 := h.outer.cells (g := g) (by rw [hv]; rfl) j (F (j + 2)) (by simp [hjr])
    rw [Nat.zero_add]
    by_cases e : j = 0
    · subst e; simpa [Addr.add] using h3
    · simpa [Addr.add, e] using h3
end
end Go.Proofs.YtbhiaeciiphelaaGreatDoor
namespace Go.Proofs.YtbhiaeciiphelaaGreatDoor
open Go.RowKit
theorem row_slice {w : World} {base n : Nat} {e : TypeId} {size : Nat} {v : Value} {xs : List Value} (h : w.ownsRow base e size v n xs) : ∃ p c, v = .slice p n c := by
  rcases h.2 with ⟨rfl, rfl⟩ | ⟨g, cap, cur, rfl, _⟩
  · exact ⟨_, _, rfl⟩
  · exact ⟨_, _, rfl⟩
theorem row_cut {w : World} {base g n cap : Nat} {e : TypeId} {xs : List Value} (h : w.ownsRow base e 1 (.slice (some ⟨g, 0, none⟩) (n + 1) cap) (n + 1) xs) : w.ownsRow base e 1 (.slice (some ⟨g, 0, none⟩) n cap) n (xs.take n) := by
  obtain ⟨h1, h2⟩ := h
  rcases h2 with ⟨h2, _⟩ | ⟨g', cap', cur, hv, hb, hg, hc, hm, hs, ht⟩
  · cases h2
  · cases hv
    refine ⟨by rw [List.length_take, h1]; omega, .inr ⟨g, cap, cur, rfl, hb, hg, by omega, hm, hs, ?_⟩⟩
    rw [← ht, List.take_take, Nat.mul_one, Nat.mul_one, Nat.min_eq_left (Nat.le_succ _)]
theorem Fam.swap {base n : Nat} {W : World} {F : Nat → Value} {C : Nat → List Int} (h : Fam base W F C n) {j : Nat} {v : Value} {c : List Int} (hr : W.ownsRow base 3 1 v c.length (ints c)) (hb : v.ownBlock = (F j).ownBlock) (hj : j < n) :
    Fam base W (fun k => if k = j then v else F k) (fun k => if k = j then c else C k) n := by
  have key : ∀ k, (if k = j then v else F k).ownBlock = (F k).ownBlock := by
    intro k
    by_cases e : k = j
    · subst e; simp only [if_true]; exact hb
    · simp only [e, if_false]
  refine ⟨fun k hk => ?_, fun i k b hi hk hik => ?_⟩
  · by_cases e : k = j
    · simp only [e, if_true]; exact hr
    · simp only [e, if_false]; exact h.rows k hk
  · show (if i = j then v else F i).ownBlock = some b → (if k = j then v else F k).ownBlock ≠ some b
    rw [key, key]
    exact h.apart i k b hi hk hik
section
variable {w W W' : World} {B r m : Nat} {F : Nat → Value} {C : Nat → List Int} {rv : Value}
theorem MomMem.less (h : MomMem w W B F C rv r m) {m' : Nat} (h1 : r + 2 ≤ m') (h2 : m' ≤ m) : MomMem w W B F C rv r m' := ⟨h.kept, h.nB, h.blk, h.fam.less h2, h1, h.outer⟩
theorem MomMem.last (h : MomMem w W B F C rv (r + 1) m) {v : Value} {x : Int} {o : Obj} {g cap : Nat} (hv : rv = .slice (some ⟨g, 0, none⟩) (r + 1) cap) (hg : (W.alloc o).grownBy W' (F (r + 2)).ownBlock)
    (hr : W'.ownsRow w.heap.size 3 1 v ((C (r + 2)).length + 1) (ints (C (r + 2)) ++ [.int .i64 x])) (hat : v.ownBlock = (F (r + 2)).ownBlock ∨ v.ownBlock = some (W.alloc o).heap.size) :
    MomMem w (W'.setCell ⟨g, r, none⟩ v) B (fun k => if k = r + 2 then v else F k) (fun k => if k = r + 2 then C (r + 2) ++ [x] else C k) rv (r + 1) m ∧ W'.cell? ⟨g, r, none⟩ = some (F (r + 2)) ∧ W'.frozen? ⟨g, r, none⟩ = false ∧
      ∀ (b : Nat) (o' : Obj), W.heap[b]? = some o' → Calm o' → (W'.setCell ⟨g, r, none⟩ v).heap[b]? = some o' := by
  have hle := h.le
  have hjm : r + 2 < m := by omega
  have hk : Kept (fun b => (F (r + 2)).ownBlock = some b) W W' := ((Kept.refl _ W).alloc o).grown hg (fun b hb _ => hb)
  have hat' : v.ownBlock = (F (r + 2)).ownBlock ∨ ∃ g, v.ownBlock = some g ∧ W.heap.size ≤ g := by
    rcases hat with e | e
    · exact .inl e
    · exact .inr ⟨_, e, by rw [World.size_alloc]; exact Nat.le_succ _⟩
  have hrb : rv.ownBlock = some g := by rw [hv]; rfl
  have hout := h.outer
  have hlt := h.outer.lt g hrb
  have hgB := h.neR hrb
  have hgF : ∀ k, k < m → (F k).ownBlock ≠ some g := fun k hk2 e => (h.neF hk2 e).2 hrb
  obtain ⟨hl, hout2⟩ := hout
  rcases hout2 with ⟨h0, _⟩ | ⟨g', cap', cur, hv', hbase, hgc, hc, hcm, hcs, htake⟩
  · rw [hv] at h0; cases h0
  rw [hv] at hv'
  cases hv'
  have hgc' : W'.heap[g]? = some (.cells cur 35 (0, 0)) := hk.at hgc (hgF _ hjm)
  have hrs : r < cur.size := by omega
  have hcell : cur[r]? = some (F (r + 2)) := by
    have h9 := congrArg (fun l => l[r]?) htake
    simp only [Nat.mul_one] at h9
    rw [List.getElem?_take_of_lt (Nat.lt_succ_self _)] at h9
    simpa using h9
  have hks : Kept (fun b => b = g) W' (W'.setCell ⟨g, r, none⟩ v) := (Kept.refl (fun b => b = g) W').one1 r v
  refine ⟨⟨Kept.one0 (Kept.trans h.kept hk (fun b hb hb2 => by have := (h.fam.block hjm hb2).2; omega)) hbase _ _, h.nB, ?_, (h.fam.app hjm hk hr hat').other hgc' (by decide) hks, by omega, ?_⟩, by rw [cell_of_block hgc']; exact hcell, free_of_block hgc' r, fun b o' hb hc => hks.at (hk.at hb fun e => ?_) fun e => ?_⟩
  · rw [heap_set_other _ (fun e => hgB e.symm)]
    rw [if_neg (by omega), if_neg (by omega)]
    exact hk.at h.blk (fun e => (h.neF hjm e).1 rfl)
  · refine ⟨by simp, .inr ⟨g, cap, _, hv, hbase, heap_set_same hgc' _, hc, hcm, by simp [hcs], ?_⟩⟩
    rw [Nat.mul_one] at htake ⊢
    rw [Array.toList_setIfInBounds, List.take_set, htake]
    apply List.ext_getElem (by simp)
    intro i h1 h2
    simp at h1
    rw [List.getElem_set]
    by_cases e : r = i
    · subst e; simp
    · simp [e, show ¬ i = r by omega]
  · obtain ⟨⟨cur2, h1⟩, _⟩ := h.fam.block hjm e
    rw [h1] at hb; injection hb with hb; exact (hc cur2).1 hb.symm
  · subst e
    rw [hgc] at hb; injection hb with hb; exact (hc cur).2 hb.symm
end
structure Marked (w W : World) (D : Nat) (wr : List Int) : Prop where
  nD : w.heap.size ≤ D
  row : ∃ cur, W.heap[D]? = some (.cells cur 4 (0, 0)) ∧ cur.size = 30000 ∧ ∀ a : Int, 0 ≤ a → a < 30000 → cur[a.toNat]? = some (.bool (decide (a ∈ wr)))
section
variable {w W W' : World} {D : Nat} {wr : List Int}
theorem Marked.same (h : Marked w W D wr) (hs : ∀ (o : Obj), W.heap[D]? = some o → Calm o → W'.heap[D]? = some o) : Marked w W' D wr := by
  obtain ⟨nD, cur, h1, h2, h3⟩ := h
  exact ⟨nD, cur, hs _ h1 (calm_of (by decide) (by decide)), h2, h3⟩
theorem Marked.keeps (h : Marked w W D wr) (hk : Keeps W W') : Marked w W' D wr := h.same fun _o ho _ => hk.at ho (fun x => x)
theorem Marked.cell (h : Marked w W D wr) {a : Int} (h0 : 0 ≤ a) (h1 : a < 30000) : W.cell? ⟨D, a.toNat, none⟩ = some (.bool (decide (a ∈ wr))) := by
  obtain ⟨nD, cur, hc, h2, h3⟩ := h
  rw [cell_of_block hc]; exact h3 a h0 h1
theorem Marked.free (h : Marked w W D wr) (k : Nat) : W.frozen? ⟨D, k, none⟩ = false := by
  obtain ⟨nD, cur, hc, h2, h3⟩ := h
  exact free_of_block hc k
theorem Marked.lt (h : Marked w W D wr) : D < W.heap.size := by
  obtain ⟨nD, cur, hc, h2, h3⟩ := h
  exact heap_lt hc
theorem Marked.mark (h : Marked w W D wr) {a : Int} (h0 : 0 ≤ a) (h1 : a < 30000) : Marked w (W.setCell ⟨D, a.toNat, none⟩ (.bool true)) D (wr ++ [a]) := by
  obtain ⟨nD, cur, hc, h2, h3⟩ := h
  refine ⟨nD, _, heap_set_same hc _, by simp [h2], fun b hb0 hb1 => ?_⟩
  by_cases e : a = b
  · subst e
    rw [Array.getElem?_setIfInBounds_self_of_lt (by omega)]
    simp
  · rw [Array.getElem?_setIfInBounds_ne (by omega), h3 b hb0 hb1]
    have : (b ∈ wr ++ [a]) ↔ b ∈ wr := by
      rw [List.mem_append, List.mem_singleton]
      exact ⟨fun h => h.resolve_right (fun x => e x.symm), .inl⟩
    simp [this]
end
def slotsTo (wr : List Int) (i : Nat) : List Int := ((List.range i).map fun a : Nat => (a : Int)).filter fun a => decide (a ∈ wr)
theorem slotsTo_succ (wr : List Int) (i : Nat) : slotsTo wr (i + 1) = slotsTo wr i ++ if (i : Int) ∈ wr then [(i : Int)] else [] := by
  unfold slotsTo
  rw [List.range_succ, List.map_append, List.filter_append]
  by_cases h : (i : Int) ∈ wr <;> simp [h]
theorem slotsTo_len (wr : List Int) (i : Nat) : (slotsTo wr i).length ≤ i := by
  have := List.length_filter_le (fun a => decide (a ∈ wr)) ((List.range i).map fun a : Nat => (a : Int))
  simpa [slotsTo] using this
def opens (s : St) (st : List Nat) : List Int := st.reverse.map (addrOf s)
def seens (evs : List Ev) (s : St) (st : List Nat) : List (List Int) := st.reverse.map fun k => (readsOf s k).map (addrAt evs)
theorem old_same {s : St} {p : Sp} {st : List Nat} {t : Option Nat} {n : Nat} {l : List Nat} (h : ∀ k ∈ st, k < s.sps.length) : ∀ k ∈ st, addrOf ⟨s.sps ++ [p], t, n, l⟩ k = addrOf s k ∧ readsOf ⟨s.sps ++ [p], t, n, l⟩ k = readsOf s k := by
  intro k hk
  have := h k hk
  simp only [addrOf, readsOf, List.getElem?_append_left this, and_self]
theorem opens_make {evs : List Ev} {s s' : St} {i : Nat} {e : Ev} {st : List Nat} {wr : List Int} (h : AtM evs i s st wr) (hs : s.step i e = some s') (hk : e.kind = 1) :
    opens s' (stStep s e st) = opens s st ++ [e.addr] ∧ seens evs s' (stStep s e st) = seens evs s st ++ [[]] ∧ wrStep e wr = wr ∧ (stStep s e st).length = st.length + 1 := by
  rcases step_cases hs with ⟨k1, hany, rfl⟩ | ⟨k, p, htop, hp, k2, rfl⟩ | ⟨k, p, htop, hp, k3, hpa, rfl⟩
  · have hst : stStep s e st = s.sps.length :: st := by simp [stStep, k1]
    have ho := old_same (s := s) (p := ⟨i, 0, s.top, e.addr, []⟩) (t := some s.sps.length) (n := s.nodes + 1) (l := s.within ++ [s.sps.length]) (st := st.reverse) (fun k hk => h.stack.lt k (List.mem_reverse.1 hk))
    rw [hst]
    refine ⟨?_, ?_, by simp [wrStep, k1], rfl⟩
    · unfold opens
      rw [List.reverse_cons, List.map_append, List.map_congr_left fun k hk => (ho k hk).1]
      simp [addrOf]
    · unfold seens
      rw [List.reverse_cons, List.map_append, List.map_congr_left fun k hk => by rw [(ho k hk).2]]
      simp [readsOf]
  · omega
  · omega
theorem AtM.head {evs : List Ev} {i : Nat} {s : St} {st : List Nat} {wr : List Int} (h : AtM evs i s st wr) {k : Nat} {p : Sp} (htop : s.top = some k) (hp : s.sps[k]? = some p) : ∃ l, st = k :: l ∧ k ∉ l := by
  obtain ⟨l, hl, _⟩ := h.stack.top htop hp
  have hd := h.dec
  rw [hl, List.pairwise_cons] at hd
  exact ⟨l, hl, fun hm => Nat.lt_irrefl _ (hd.1 k hm)⟩
theorem opens_read {evs : List Ev} {s s' : St} {i : Nat} {e : Ev} {st : List Nat} {wr : List Int} (h : AtM evs i s st wr) (he : evs[i]? = some e) (hs : s.step i e = some s') (hk : e.kind = 2) :
    ∃ (l : List (List Int)) (z : List Int), opens s' (stStep s e st) = opens s st ∧ seens evs s st = l ++ [z] ∧ seens evs s' (stStep s e st) = l ++ [z ++ [e.addr]] ∧ wrStep e wr = wr ∧ (stStep s e st).length = st.length ∧ z.length ≤ i := by
  rcases step_cases hs with ⟨k1, hany, rfl⟩ | ⟨k, p, htop, hp, k2, rfl⟩ | ⟨k, p, htop, hp, k3, hpa, rfl⟩
  · omega
  · obtain ⟨l, hl, hkl⟩ := h.head htop hp
    have hst : stStep s e st = st := by simp [stStep, k2]
    have hkk := (List.getElem?_eq_some_iff.1 hp).1
    have hself : (s.sps.set k { p with reads := p.reads ++ [i] })[k]? = some { p with reads := p.reads ++ [i] } := List.getElem?_set_self hkk
    have hoth : ∀ j ∈ l.reverse, (s.sps.set k { p with reads := p.reads ++ [i] })[j]? = s.sps[j]? := fun j hj => List.getElem?_set_ne fun e => hkl (by rw [e]; exact List.mem_reverse.1 hj)
    rw [hst, hl]
    refine ⟨l.reverse.map fun j => (readsOf s j).map (addrAt evs), p.reads.map (addrAt evs), ?_, ?_, ?_, by simp [wrStep, k2], rfl, ?_⟩
    · unfold opens
      rw [List.reverse_cons, List.map_append, List.map_append, List.map_congr_left fun j hj => show addrOf ⟨s.sps.set k { p with reads := p.reads ++ [i] }, some k, s.nodes + 1, s.within ++ [k]⟩ j = addrOf s j by simp only [addrOf, hoth j hj]]
      simp [addrOf, hself, hp]
    · simp [seens, readsOf, hp]
    · unfold seens
      rw [List.reverse_cons, List.map_append, List.map_congr_left fun j hj => show (readsOf ⟨s.sps.set k { p with reads := p.reads ++ [i] }, some k, s.nodes + 1, s.within ++ [k]⟩ j).map (addrAt evs) = (readsOf s j).map (addrAt evs) by simp only [readsOf, hoth j hj]]
      simp [readsOf, hself, addrAt, he]
    · rw [List.length_map]; exact h.ok.reads k p hp
  · omega
theorem opens_write {evs : List Ev} {s s' : St} {i : Nat} {e : Ev} {st : List Nat} {wr : List Int} (h : AtM evs i s st wr) (hs : s.step i e = some s') (hk : e.kind = 3) :
    ∃ (l : List Int) (a : Int) (l2 : List (List Int)) (z : List Int), opens s st = l ++ [a] ∧ opens s' (stStep s e st) = l ∧ seens evs s st = l2 ++ [z] ∧ seens evs s' (stStep s e st) = l2 ∧ wrStep e wr = wr ++ [e.addr] ∧ st.length = (stStep s e st).length + 1 := by
  rcases step_cases hs with ⟨k1, hany, rfl⟩ | ⟨k, p, htop, hp, k2, rfl⟩ | ⟨k, p, htop, hp, k3, hpa, rfl⟩
  · omega
  · omega
  · obtain ⟨l, hl, hkl⟩ := h.head htop hp
    have hst : stStep s e st = l := by simp [stStep, k3, hl]
    have hoth : ∀ j ∈ l.reverse, (s.sps.set k { p with to := i })[j]? = s.sps[j]? := fun j hj => List.getElem?_set_ne fun e => hkl (by rw [e]; exact List.mem_reverse.1 hj)
    rw [hst, hl]
    refine ⟨l.reverse.map (addrOf s), p.addr, l.reverse.map fun j => (readsOf s j).map (addrAt evs), p.reads.map (addrAt evs), by simp [opens, addrOf, hp], ?_, by simp [seens, readsOf, hp], ?_, by simp [wrStep, k3], rfl⟩
    · unfold opens
      exact List.map_congr_left fun j hj => by simp only [addrOf, hoth j hj]
    · unfold seens
      exact List.map_congr_left fun j hj => by simp only [readsOf, hoth j hj]
theorem opens_len (s : St) (st : List Nat) : (opens s st).length = st.length := by simp [opens]
end Go.Proofs.YtbhiaeciiphelaaGreatDoor
namespace Go.Proofs.YtbhiaeciiphelaaGreatDoor
open Go.RowKit
theorem bsearch_of (w : World) (base : Nat) (v : Value) (l : List Nat) (x : Nat) (h : w.ownsRow base 3 1 v l.length (nums l)) (hs : l.Pairwise (· < ·)) (hl : l.length ≤ 1000000) :
    Calls Tryz.prog 123 #[v, .int .i64 x] w fun e w' => ∃ fb, e = .returned (.tuple #[.int .i64 ((l.filter fun r => decide (r < x)).length : Nat), .bool fb]) ∧ ∃ q, w' = w.drewN q := by
  have hcnt : (l.map fun n : Nat => (n : Int)).countP (· < (x : Int)) = (l.filter fun r => decide (r < x)).length := by
    rw [List.countP_map, List.countP_eq_length_filter]
    congr 1
    refine List.filter_congr fun r _ => ?_
    simp [Function.comp]
  rcases h.2 with ⟨rfl, h2⟩ | ⟨g, cap, cur, hv, _, hg, hc, _⟩
  · have hnil : l = [] := List.eq_nil_of_length_eq_zero h2
    subst hnil
    refine (Tryz.slices_BinarySearch_int_empty none 0 x w).mono ?_
    rintro e w' ⟨rfl, rfl⟩
    exact ⟨false, rfl, 0, rfl⟩
  · subst hv
    have hz : (l.map fun n : Nat => (n : Int)).length = l.length := by simp
    have htk : (l.map fun n : Nat => (n : Int)).take l.length = l.map fun n : Nat => (n : Int) := List.take_of_length_le (by simp)
    refine (Tryz.slices_BinarySearch_int g 0 l.length cap (l.map fun n : Nat => (n : Int)) x w (by simp) (by omega) (fun j hj => ?_) ?_).mono ?_
    · have hj' : j < l.length := by simpa using hj
      have h3 := h.cells (g := g) rfl j (.int .i64 (l[j] : Nat)) (by simp [nums, hj'])
      rw [Nat.zero_add]
      have e1 : (l.map fun n : Nat => (n : Int)).getD j 0 = (l[j] : Nat) := by simp [List.getD, hj']
      rw [e1]
      by_cases e : j = 0
      · subst e; simpa [Addr.add] using h3
      · simpa [Addr.add, e] using h3
    · rw [htk, List.pairwise_map]
      exact hs.imp (fun h => by omega)
    · rintro e w' ⟨rfl, q, rfl⟩
      rw [htk, hcnt]
      exact ⟨_, rfl, q, rfl⟩
set_option maxHeartbeats 2000000 in
theorem before_of (w : World) (base b : Nat) (v : Value) (l : List Nat) (x : Nat) (hb : w.cell? ⟨b, 3, none⟩ = some v) (h : w.ownsRow base 3 1 v l.length (nums l)) (hs : l.Pairwise (· < ·)) (hl : l.length ≤ 1000000) :
    Calls Tryz.prog 91 #[.pointer (some ⟨b, 0, none⟩), .int .i64 x] w fun e w' => e = .returned (.int .i64 ((l.filter fun r => decide (r < x)).length : Nat)) ∧ ∃ q, w' = w.drewN q := by
  have H := Lib.hid (bsearch_of w base v l x h hs hl)
  clear h hs
  go_enter Tryz.func91, Tryz.ntmps91
  go_wp2_with (go_at_call 123; refine H.out.mono ?_; rintro e w' ⟨fb, rfl, q, rfl⟩)
  go_ret
  exact ⟨rfl, _, rfl⟩
def SRel (w : World) (v1 : Array Value) (x : Nat) (evs : List Ev) (f : St) (B1 i : Nat) (W : World) : Prop :=
  ∃ (s : St) (st : List Nat) (wr : List Int) (F : Nat → Value) (C : Nat → List Int) (rv : Value), St.start.run 0 (evs.take i) = some s ∧ AtM evs i s st wr ∧
    MomMem w W (B1 + 1 + 1) F C rv (openOf f x s.sps.length).length ((openOf f x s.sps.length).length + 2) ∧ W.heap[B1]? = some (.cells v1 132 (0, 0)) ∧ W.heap[B1 + 1]? = some (.cells #[.slice none 0 0, .slice none 0 0, .slice none 0 0] 61 (0, 0)) ∧
    C 0 = (openOf f x s.sps.length).map (addrOf f) ∧ C 1 = wr ∧ wr.length ≤ i ∧ ∀ (j k : Nat), (openOf f x s.sps.length)[j]? = some k → C (j + 2) = seenOf evs f x k
theorem row_form {w : World} {base : Nat} {v : Value} {l : List Nat} (h : w.ownsRow base 3 1 v l.length (nums l)) : ∃ p c, v = .slice p l.length c ∧ l.length ≤ c ∧ c ≤ maxLen ∧ ∀ (j x : Nat), l[j]? = some x → ∃ g, p = some ⟨g, 0, none⟩ ∧ w.cell? ⟨g, j, none⟩ = some (.int .i64 x) := by
  rcases h.2 with ⟨h1, h2⟩ | ⟨g, cap, cur, hv, _, hg, hc, hm, _⟩
  · refine ⟨none, 0, by rw [h1, h2], by omega, Nat.zero_le _, fun j x hj => ?_⟩
    have := (List.getElem?_eq_some_iff.1 hj).1
    omega
  · refine ⟨some ⟨g, 0, none⟩, cap, hv, hc, hm, fun j x hj => ⟨g, rfl, ?_⟩⟩
    have h3 := h.cells (g := g) (by rw [hv]; rfl) j (.int .i64 x) (by simp [nums, hj])
    by_cases e : j = 0
    · subst e; simpa [Addr.add] using h3
    · simpa [Addr.add, e] using h3
section
variable {w W W' : World} {B r m : Nat} {F : Nat → Value} {C : Nat → List Int} {rv : Value}
end
end Go.Proofs.YtbhiaeciiphelaaGreatDoor
