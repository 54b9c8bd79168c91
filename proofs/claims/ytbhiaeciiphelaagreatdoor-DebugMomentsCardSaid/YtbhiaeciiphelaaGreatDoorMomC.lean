/-
  DERIVED. A family of rows of numbers that a call has made, apart from one another; a moment that is being made. Condition: each theorem's own on memory.
-/
import Derived.Test.YtbhiaeciiphelaaGreatDoorMomB
import Derived.Test.YtbhiaeciiphelaaGreatDoorMomA
import Derived.Test.YtbhiaeciiphelaaGreatDoorShelf
namespace Go.Proofs.YtbhiaeciiphelaaGreatDoor
open Go.RowKit
theorem Kept.one1 {B : Nat} {W W' : World} (h : Kept (fun b => b = B) W W') (o : Nat) (v : Value) : Kept (fun b => b = B) W (W'.setCell ⟨B, o, none⟩ v) := h.setCell (p := ⟨B, o, none⟩) (fun _ => rfl) v
theorem Kept.one0 {B : Nat} {W W' : World} (h : Keeps W W') (hB : W.heap.size ≤ B) (o : Nat) (v : Value) : Keeps W (W'.setCell ⟨B, o, none⟩ v) := h.setCell (p := ⟨B, o, none⟩) (fun h => absurd h (Nat.not_lt.2 hB)) v
/-- So many rows of numbers of the call's own, apart from one another. -/
structure Fam (base : Nat) (W : World) (F : Nat → Value) (C : Nat → List Int) (n : Nat) : Prop where
  rows : ∀ k, k < n → W.ownsRow base 3 1 (F k) (C k).length (ints (C k))
  apart : ∀ (j k b : Nat), j < n → k < n → j ≠ k → (F j).ownBlock = some b → (F k).ownBlock ≠ some b
section
variable {base n : Nat} {W W' : World} {F : Nat → Value} {C : Nat → List Int}
theorem Fam.block (h : Fam base W F C n) {k b : Nat} (hk : k < n) (hb : (F k).ownBlock = some b) : (∃ cur, W.heap[b]? = some (.cells cur 3 (0, 0))) ∧ base ≤ b := ⟨row_block (h.rows k hk) hb, ((h.rows k hk).lt b hb).1⟩
theorem Fam.keep {S : Nat → Prop} (h : Fam base W F C n) (hk : Kept S W W') (hS : ∀ (k b : Nat), k < n → (F k).ownBlock = some b → ¬ S b) : Fam base W' F C n :=
  ⟨fun k hkn => row_same (h.rows k hkn) fun g hg => hk.block g ((h.rows k hkn).lt g hg).2 (hS k g hkn hg), h.apart⟩
theorem Fam.keeps (h : Fam base W F C n) (hk : Keeps W W') : Fam base W' F C n := h.keep hk (fun _ _ _ _ x => x)
/-- Blocks that are not of this kind may change. -/
theorem Fam.other (h : Fam base W F C n) {B : Nat} {c : Array Value} {t : TypeId} {fr : Nat × Nat} (hB : W.heap[B]? = some (.cells c t fr)) (ht : t ≠ 3) (hk : Kept (fun b => b = B) W W') : Fam base W' F C n :=
  h.keep hk fun k b hkn hb e => by
    obtain ⟨⟨cur, hc⟩, _⟩ := h.block hkn hb
    rw [e, hB] at hc
    simp at hc
    exact ht hc.2.1
theorem Fam.less (h : Fam base W F C n) {m : Nat} (hm : m ≤ n) : Fam base W F C m := ⟨fun k hk => h.rows k (by omega), fun j k b hj hk => h.apart j k b (by omega) (by omega)⟩
theorem Fam.add (h : Fam base W F C n) : Fam base W (fun k => if k = n then .slice none 0 0 else F k) (fun k => if k = n then [] else C k) (n + 1) := by
  refine ⟨fun k hk => ?_, fun j k b hj hk hjk hb => ?_⟩
  · by_cases e : k = n
    · simp only [e, if_true]; exact World.ownsRow_nil _ _ _ _
    · simp only [e, if_false]; exact h.rows k (by omega)
  · by_cases e : j = n
    · simp only [e, if_true] at hb; simp [Value.ownBlock] at hb
    · simp only [e, if_false] at hb
      by_cases e2 : k = n
      · simp only [e2, if_true]; simp [Value.ownBlock]
      · simp only [e2, if_false]; exact h.apart j k b (by omega) (by omega) hjk hb
/-- One more number in row j. -/
theorem Fam.app (h : Fam base W F C n) {j : Nat} {v : Value} {x : Int} (hj : j < n) (hk : Kept (fun b => (F j).ownBlock = some b) W W') (hr : W'.ownsRow base 3 1 v ((C j).length + 1) (ints (C j) ++ [.int .i64 x]))
    (hat : v.ownBlock = (F j).ownBlock ∨ ∃ g, v.ownBlock = some g ∧ W.heap.size ≤ g) : Fam base W' (fun k => if k = j then v else F k) (fun k => if k = j then C j ++ [x] else C k) n := by
  refine ⟨fun k hkn => ?_, fun i k b hi hkn hik hb => ?_⟩
  · by_cases e : k = j
    · simp only [e, if_true]
      have e1 : (C j ++ [x]).length = (C j).length + 1 := by simp
      have e2 : ints (C j ++ [x]) = ints (C j) ++ [.int .i64 x] := by simp [ints]
      rw [e1, e2]; exact hr
    · simp only [e, if_false]
      exact row_same (h.rows k hkn) fun g hg => hk.block g ((h.rows k hkn).lt g hg).2 fun hg2 => h.apart k j g hkn hj e hg hg2
  · by_cases e : i = j
    · simp only [e, if_true] at hb
      have e2 : ¬ k = j := fun e2 => hik (by rw [e, e2])
      simp only [e2, if_false]
      rcases hat with hat | ⟨g, hg, hl⟩
      · exact h.apart j k b hj hkn (fun x => e2 x.symm) (hat ▸ hb)
      · intro hkb
        rw [hg] at hb
        injection hb with hb
        have := ((h.rows k hkn).lt b hkb).2
        omega
    · simp only [e, if_false] at hb
      by_cases e2 : k = j
      · simp only [e2, if_true]
        rcases hat with hat | ⟨g, hg, hl⟩
        · rw [hat]; exact h.apart i j b hi hj e hb
        · intro hkb
          rw [hg] at hkb
          injection hkb with hkb
          have := ((h.rows i hi).lt b hb).2
          omega
      · simp only [e2, if_false]
        exact h.apart i k b hi hkn hik hb
theorem ints_at {v : Value} {l : List Int} (h : W.ownsRow base 3 1 v l.length (ints l)) : IntsAt W v l := by
  rcases h.2 with ⟨h1, h2⟩ | ⟨g, cap, cur, hv, _, hg, hc, _⟩
  · refine ⟨none, 0, by rw [h1, h2], fun j x hj => ?_⟩
    have := (List.getElem?_eq_some_iff.1 hj).1
    omega
  · refine ⟨some ⟨g, 0, none⟩, cap, hv, fun j x hj => ⟨g, 0, rfl, ?_⟩⟩
    have h3 := h.cells (g := g) (by rw [hv]; rfl) j (.int .i64 x) (by simp [ints, hj])
    rw [Nat.zero_add]
    by_cases e : j = 0
    · subst e; simpa [Addr.add] using h3
    · simpa [Addr.add, e] using h3
end
/-- A moment that is being made: its block; the rows of what is open (0), written (1), read (from 2 on); more rows may lie beside. -/
structure MomMem (w W : World) (B : Nat) (F : Nat → Value) (C : Nat → List Int) (rv : Value) (r m : Nat) : Prop where
  kept : Keeps w W
  nB : w.heap.size ≤ B
  blk : W.heap[B]? = some (.cells #[F 0, F 1, rv] 61 (0, 0))
  fam : Fam w.heap.size W F C m
  le : r + 2 ≤ m
  outer : W.ownsRow w.heap.size 35 1 rv r ((List.range r).map fun j => F (j + 2))
section
variable {w W W' : World} {B r m : Nat} {F : Nat → Value} {C : Nat → List Int} {rv : Value}
theorem MomMem.neF (h : MomMem w W B F C rv r m) {k b : Nat} (hk : k < m) (hb : (F k).ownBlock = some b) : b ≠ B ∧ rv.ownBlock ≠ some b := by
  obtain ⟨⟨cur, hc⟩, _⟩ := h.fam.block hk hb
  refine ⟨fun e => ?_, fun e => ?_⟩
  · rw [e, h.blk] at hc; simp at hc
  · obtain ⟨c2, hc2⟩ := row_block h.outer e
    rw [hc] at hc2; simp at hc2
theorem MomMem.neR (h : MomMem w W B F C rv r m) {b : Nat} (hb : rv.ownBlock = some b) : b ≠ B := by
  obtain ⟨c2, hc2⟩ := row_block h.outer hb
  intro e
  rw [e, h.blk] at hc2; simp at hc2
theorem MomMem.keeps (h : MomMem w W B F C rv r m) (hk : Keeps W W') : MomMem w W' B F C rv r m :=
  ⟨Keeps.trans h.kept hk, h.nB, hk.at h.blk (fun x => x), h.fam.keeps hk, h.le, row_same h.outer fun g hg => hk.block g (h.outer.lt g hg).2 (fun x => x)⟩
theorem MomMem.add (h : MomMem w W B F C rv r m) : MomMem w W B (fun k => if k = m then .slice none 0 0 else F k) (fun k => if k = m then [] else C k) rv r (m + 1) := by
  have hle := h.le
  refine ⟨h.kept, h.nB, ?_, h.fam.add, by omega, ?_⟩
  · rw [if_neg (by omega), if_neg (by omega)]; exact h.blk
  · have : ((List.range r).map fun j => if j + 2 = m then (.slice none 0 0 : Value) else F (j + 2)) = (List.range r).map fun j => F (j + 2) := by
      refine List.map_congr_left fun j hj => ?_
      rw [List.mem_range] at hj
      rw [if_neg (by omega)]
    rw [this]; exact h.outer
/-- A block that is no row of numbers, and no row of rows. -/
def Calm (o : Obj) : Prop := ∀ cur, o ≠ .cells cur 3 (0, 0) ∧ o ≠ .cells cur 35 (0, 0)
theorem calm_of {c : Array Value} {t : TypeId} (h1 : t ≠ 3) (h2 : t ≠ 35) : Calm (.cells c t (0, 0)) := fun cur => ⟨fun e => by injection e with _ e; exact h1 e, fun e => by injection e with _ e; exact h2 e⟩
/-- One more number in a row that lies beside. -/
theorem MomMem.beside (h : MomMem w W B F C rv r m) {j : Nat} {v : Value} {x : Int} {o : Obj} (hj : j < m) (hj2 : r + 2 ≤ j) (hg : (W.alloc o).grownBy W' (F j).ownBlock) (hr : W'.ownsRow w.heap.size 3 1 v ((C j).length + 1) (ints (C j) ++ [.int .i64 x]))
    (hat : v.ownBlock = (F j).ownBlock ∨ v.ownBlock = some (W.alloc o).heap.size) : MomMem w W' B (fun k => if k = j then v else F k) (fun k => if k = j then C j ++ [x] else C k) rv r m ∧ ∀ (b : Nat) (o' : Obj), W.heap[b]? = some o' → Calm o' → W'.heap[b]? = some o' := by
  have hk : Kept (fun b => (F j).ownBlock = some b) W W' := ((Kept.refl _ W).alloc o).grown hg (fun b hb _ => hb)
  have hat' : v.ownBlock = (F j).ownBlock ∨ ∃ g, v.ownBlock = some g ∧ W.heap.size ≤ g := by
    rcases hat with e | e
    · exact .inl e
    · exact .inr ⟨_, e, by rw [World.size_alloc]; exact Nat.le_succ _⟩
  refine ⟨⟨Kept.trans h.kept hk (fun b hb hb2 => by have := (h.fam.block hj hb2).2; omega), h.nB, ?_, h.fam.app hj hk hr hat', h.le, ?_⟩, fun b o' hb hc => hk.at hb fun e => by obtain ⟨⟨cur, h1⟩, _⟩ := h.fam.block hj e; rw [h1] at hb; injection hb with hb; exact (hc cur).1 hb.symm⟩
  · rw [if_neg (by omega), if_neg (by omega)]; exact hk.at h.blk (fun e => (h.neF hj e).1 rfl)
  · have : ((List.range r).map fun i => if i + 2 = j then v else F (i + 2)) = (List.range r).map fun j => F (j + 2) := by
      refine List.map_congr_left fun i hi => ?_
      rw [List.mem_range] at hi
      rw [if_neg (by omega)]
    rw [this]
    exact row_same h.outer fun g hg' => hk.block g (h.outer.lt g hg').2 fun e => (h.neF hj e).2 hg'
/-- One more number in row 0 or 1: an append, then the store into the moment. -/
theorem MomMem.top (h : MomMem w W B F C rv r m) {j : Nat} {v : Value} {x : Int} {o : Obj} (hj : j < 2) (hg : (W.alloc o).grownBy W' (F j).ownBlock) (hr : W'.ownsRow w.heap.size 3 1 v ((C j).length + 1) (ints (C j) ++ [.int .i64 x]))
    (hat : v.ownBlock = (F j).ownBlock ∨ v.ownBlock = some (W.alloc o).heap.size) : MomMem w (W'.setCell ⟨B, j, none⟩ v) B (fun k => if k = j then v else F k) (fun k => if k = j then C j ++ [x] else C k) rv r m ∧ W'.heap[B]? = some (.cells #[F 0, F 1, rv] 61 (0, 0)) ∧ ∀ (b : Nat) (o' : Obj), W.heap[b]? = some o' → Calm o' → b ≠ B → (W'.setCell ⟨B, j, none⟩ v).heap[b]? = some o' := by
  have hle := h.le
  have hjm : j < m := by omega
  have hk : Kept (fun b => (F j).ownBlock = some b) W W' := ((Kept.refl _ W).alloc o).grown hg (fun b hb _ => hb)
  have hat' : v.ownBlock = (F j).ownBlock ∨ ∃ g, v.ownBlock = some g ∧ W.heap.size ≤ g := by
    rcases hat with e | e
    · exact .inl e
    · exact .inr ⟨_, e, by rw [World.size_alloc]; exact Nat.le_succ _⟩
  have hB : W'.heap[B]? = some (.cells #[F 0, F 1, rv] 61 (0, 0)) := hk.at h.blk (fun e => (h.neF hjm e).1 rfl)
  have hfam := h.fam.app hjm hk hr hat'
  have hks : Kept (fun b => b = B) W' (W'.setCell ⟨B, j, none⟩ v) := (Kept.refl (fun b => b = B) W').one1 j v
  refine ⟨⟨?_, h.nB, ?_, hfam.other hB (by decide) hks, h.le, ?_⟩, hB, fun b o' hb hc hne => hks.at (hk.at hb fun e => by obtain ⟨⟨cur, h1⟩, _⟩ := h.fam.block hjm e; rw [h1] at hb; injection hb with hb; exact (hc cur).1 hb.symm) hne⟩
  · exact Kept.one0 (Kept.trans h.kept hk (fun b hb hb2 => by have := (h.fam.block hjm hb2).2; omega)) h.nB _ _
  · rw [heap_set_same hB]
    rcases (show j = 0 ∨ j = 1 by omega) with rfl | rfl <;> rfl
  · have : ((List.range r).map fun i => if i + 2 = j then v else F (i + 2)) = (List.range r).map fun j => F (j + 2) := by
      refine List.map_congr_left fun i hi => ?_
      rw [if_neg (by omega)]
    rw [this]
    refine row_same h.outer fun g hg' => ?_
    rw [heap_set_other _ (h.neR hg')]
    exact hk.block g (h.outer.lt g hg').2 fun e => (h.neF hjm e).2 hg'
/-- The row that lies next goes in: an append to the outer row, then the store into the moment. -/
theorem MomMem.push (h : MomMem w W B F C rv r m) {v : Value} {o : Obj} (hm : r + 3 ≤ m) (hg : (W.alloc o).grownBy W' rv.ownBlock) (hr : W'.ownsRow w.heap.size 35 1 v (r + 1) (((List.range r).map fun j => F (j + 2)) ++ [F (r + 2)])) :
    MomMem w (W'.setCell ⟨B, 2, none⟩ v) B F C v (r + 1) m ∧ W'.heap[B]? = some (.cells #[F 0, F 1, rv] 61 (0, 0)) ∧ ∀ (b : Nat) (o' : Obj), W.heap[b]? = some o' → Calm o' → b ≠ B → (W'.setCell ⟨B, 2, none⟩ v).heap[b]? = some o' := by
  have hk : Kept (fun b => rv.ownBlock = some b) W W' := ((Kept.refl _ W).alloc o).grown hg (fun b hb _ => hb)
  have hB : W'.heap[B]? = some (.cells #[F 0, F 1, rv] 61 (0, 0)) := hk.at h.blk (fun e => h.neR e rfl)
  have hfam : Fam w.heap.size W' F C m := h.fam.keep hk fun k b hk2 hb hb2 => (h.neF hk2 hb).2 hb2
  have hks : Kept (fun b => b = B) W' (W'.setCell ⟨B, 2, none⟩ v) := (Kept.refl (fun b => b = B) W').one1 2 v
  refine ⟨⟨?_, h.nB, ?_, hfam.other hB (by decide) hks, by omega, ?_⟩, hB, fun b o' hb hc hne => hks.at (hk.at hb fun e => by obtain ⟨cur, h1⟩ := row_block h.outer e; rw [h1] at hb; injection hb with hb; exact (hc cur).2 hb.symm) hne⟩
  · exact Kept.one0 (Kept.trans h.kept hk (fun b hb hb2 => by have := (h.outer.lt b hb2).1; omega)) h.nB _ _
  · rw [heap_set_same hB]; rfl
  · have : (List.range (r + 1)).map (fun j => F (j + 2)) = ((List.range r).map fun j => F (j + 2)) ++ [F (r + 2)] := by simp [List.range_succ]
    rw [this]
    refine row_same hr fun g hg' => heap_set_other _ ?_
    obtain ⟨cur, hc⟩ := row_block hr hg'
    intro e
    rw [e, hB] at hc; simp at hc
/-- What has been made is a moment. -/
theorem MomMem.done (h : MomMem w W B F C rv r m) : MomAt W (.agg #[F 0, F 1, rv]) ⟨C 0, C 1, (List.range r).map fun j => C (j + 2)⟩ := by
  have hle := h.le
  refine ⟨_, _, _, rfl, ints_at (h.fam.rows 0 (by omega)), ints_at (h.fam.rows 1 (by omega)), ?_⟩
  have hlen : ((List.range r).map fun j => C (j + 2)).length = r := by simp
  have key : ∀ (j : Nat) (l : List Int), ((List.range r).map fun j => C (j + 2))[j]? = some l → j < r ∧ l = C (j + 2) := by
    intro j l hj
    rw [List.getElem?_map] at hj
    cases hr : (List.range r)[j]? with
    | none => rw [hr] at hj; cases hj
    | some i =>
      rw [hr] at hj
      obtain ⟨h1, h2⟩ := List.getElem?_eq_some_iff.1 hr
      simp at h1 h2
      subst h2
      injection hj with hj
      exact ⟨h1, hj.symm⟩
  rcases h.outer.2 with ⟨h1, h2⟩ | ⟨g, cap, cur, hv, _, hg, hc, _⟩
  · refine ⟨none, 0, by rw [h1]; simp [h2], fun j l hj => ?_⟩
    have := (key j l hj).1
    omega
  · refine ⟨some ⟨g, 0, none⟩, cap, by rw [hv]; simp, fun j l hj => ?_⟩
    obtain ⟨hjr, rfl⟩ := key j l hj
    refine ⟨g, 0, F (j + 2), rfl, ?_, ints_at (h.fam.rows (j + 2) (by omega))⟩
    have h3 := h.outer.cells (g := g) (by rw [hv]; rfl) j (F (j + 2)) (by simp [hjr])
    rw [Nat.zero_add]
    by_cases e : j = 0
    · subst e; simpa [Addr.add] using h3
    · simpa [Addr.add, e] using h3
end
end Go.Proofs.YtbhiaeciiphelaaGreatDoor
