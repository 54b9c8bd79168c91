/-
  DERIVED. A moment that is being made: rows that are cut, a row within that grows; the addresses that are marked. Condition: each theorem's own on memory.
-/
import Derived.Test.YtbhiaeciiphelaaGreatDoorMomC
import Derived.Test.YtbhiaeciiphelaaGreatDoorMomP
namespace Go.Proofs.YtbhiaeciiphelaaGreatDoor
open Go.RowKit
theorem lists_of {α : Type} {β : Type} {l : List β} {g : Nat → α} {q : β → α} (h : ∀ (j : Nat) (k : β), l[j]? = some k → g j = q k) : (List.range l.length).map g = l.map q := by
  apply List.ext_getElem (by simp)
  intro i h1 h2
  simp at h1
  simp [h i l[i] (List.getElem?_eq_getElem h1)]
theorem row_slice {w : World} {base n : Nat} {e : TypeId} {size : Nat} {v : Value} {xs : List Value} (h : w.ownsRow base e size v n xs) : ∃ p c, v = .slice p n c := by
  rcases h.2 with ⟨rfl, rfl⟩ | ⟨g, cap, cur, rfl, _⟩
  · exact ⟨_, _, rfl⟩
  · exact ⟨_, _, rfl⟩
theorem row_cut {w : World} {base g n cap : Nat} {e : TypeId} {xs : List Value} (h : w.ownsRow base e 1 (.slice (some ⟨g, 0, none⟩) (n + 1) cap) (n + 1) xs) : w.ownsRow base e 1 (.slice (some ⟨g, 0, none⟩) n cap) n (xs.take n) := by
  obtain ⟨h1, h2⟩ := h
  rcases h2 with ⟨h2, _⟩ | ⟨g', cap', cur, hv, hb, hg, hc, hm, hs, ht⟩
  · cases h2
  · cases hv
    refine ⟨by rw [List.length_take, h1]; omega, .inr ⟨g, cap, cur, rfl, hb, hg, by omega, hm, hs, ?_⟩⟩
    rw [← ht, List.take_take, Nat.mul_one, Nat.mul_one, Nat.min_eq_left (Nat.le_succ _)]
theorem Fam.swap {base n : Nat} {W : World} {F : Nat → Value} {C : Nat → List Int} (h : Fam base W F C n) {j : Nat} {v : Value} {c : List Int} (hr : W.ownsRow base 3 1 v c.length (ints c)) (hb : v.ownBlock = (F j).ownBlock) (hj : j < n) :
    Fam base W (fun k => if k = j then v else F k) (fun k => if k = j then c else C k) n := by
  have key : ∀ k, (if k = j then v else F k).ownBlock = (F k).ownBlock := by
    intro k
    by_cases e : k = j
    · subst e; simp only [if_true]; exact hb
    · simp only [e, if_false]
  refine ⟨fun k hk => ?_, fun i k b hi hk hik => ?_⟩
  · by_cases e : k = j
    · simp only [e, if_true]; exact hr
    · simp only [e, if_false]; exact h.rows k hk
  · show (if i = j then v else F i).ownBlock = some b → (if k = j then v else F k).ownBlock ≠ some b
    rw [key, key]
    exact h.apart i k b hi hk hik
section
variable {w W W' : World} {B r m : Nat} {F : Nat → Value} {C : Nat → List Int} {rv : Value}
theorem MomMem.less (h : MomMem w W B F C rv r m) {m' : Nat} (h1 : r + 2 ≤ m') (h2 : m' ≤ m) : MomMem w W B F C rv r m' := ⟨h.kept, h.nB, h.blk, h.fam.less h2, h1, h.outer⟩
theorem MomMem.pushNil (h : MomMem w W B F C rv r (r + 2)) {v : Value} {o : Obj} (hg : (W.alloc o).grownBy W' rv.ownBlock) (hr : W'.ownsRow w.heap.size 35 1 v (r + 1) (((List.range r).map fun j => F (j + 2)) ++ [.slice none 0 0])) :
    MomMem w (W'.setCell ⟨B, 2, none⟩ v) B (fun k => if k = r + 2 then .slice none 0 0 else F k) (fun k => if k = r + 2 then [] else C k) v (r + 1) (r + 1 + 2) ∧ W'.heap[B]? = some (.cells #[F 0, F 1, rv] 61 (0, 0)) ∧
      ∀ (b : Nat) (o' : Obj), W.heap[b]? = some o' → Calm o' → b ≠ B → (W'.setCell ⟨B, 2, none⟩ v).heap[b]? = some o' := by
  have h1 := h.add.push (v := v) (o := o) (Nat.le_refl _) hg (by
    have : ((List.range r).map fun j => if j + 2 = r + 2 then (.slice none 0 0 : Value) else F (j + 2)) = (List.range r).map fun j => F (j + 2) := by
      refine List.map_congr_left fun j hj => ?_
      rw [List.mem_range] at hj
      rw [if_neg (by omega)]
    rw [this, if_pos rfl]; exact hr)
  rw [if_neg (by omega), if_neg (by omega)] at h1
  exact h1
/-- The row of what is open is cut by one. -/
theorem MomMem.cutTop (h : MomMem w W B F C rv r m) {g n cap : Nat} (hF : F 0 = .slice (some ⟨g, 0, none⟩) (n + 1) cap) (hn : (C 0).length = n + 1) :
    MomMem w (W.setCell ⟨B, 0, none⟩ (.slice (some ⟨g, 0, none⟩) n cap)) B (fun k => if k = 0 then .slice (some ⟨g, 0, none⟩) n cap else F k) (fun k => if k = 0 then (C 0).take n else C k) rv r m := by
  have hle := h.le
  have hks : Kept (fun b => b = B) W (W.setCell ⟨B, 0, none⟩ (.slice (some ⟨g, 0, none⟩) n cap)) := (Kept.refl (fun b => b = B) W).one1 0 _
  have hr := h.fam.rows 0 (by omega)
  rw [hF, hn] at hr
  have hb : (F 0).ownBlock = some g := by rw [hF]; rfl
  refine ⟨Kept.one0 h.kept h.nB _ _, h.nB, ?_, (h.fam.other h.blk (by decide) hks).swap ?_ (by rw [hF]; rfl) (by omega), hle, ?_⟩
  · rw [heap_set_same h.blk]; rfl
  · have e1 : ((C 0).take n).length = n := by rw [List.length_take, hn]; omega
    have e2 : ints ((C 0).take n) = (ints (C 0)).take n := by simp [ints]
    rw [e1, e2]
    refine row_same (row_cut hr) fun g' hg' => ?_
    injection hg' with hg'
    subst hg'
    exact heap_set_other _ (h.neF (by omega) hb).1
  · have : ((List.range r).map fun i => if i + 2 = 0 then (.slice (some ⟨g, 0, none⟩) n cap : Value) else F (i + 2)) = (List.range r).map fun j => F (j + 2) := by
      refine List.map_congr_left fun i hi => ?_
      rw [if_neg (by omega)]
    rw [this]
    exact row_same h.outer fun g' hg' => heap_set_other _ (h.neR hg')
/-- The row of rows is cut by one. -/
theorem MomMem.cutOuter (h : MomMem w W B F C rv (r + 1) m) {g cap : Nat} (hv : rv = .slice (some ⟨g, 0, none⟩) (r + 1) cap) :
    MomMem w (W.setCell ⟨B, 2, none⟩ (.slice (some ⟨g, 0, none⟩) r cap)) B F C (.slice (some ⟨g, 0, none⟩) r cap) r m := by
  have hle := h.le
  have hks : Kept (fun b => b = B) W (W.setCell ⟨B, 2, none⟩ (.slice (some ⟨g, 0, none⟩) r cap)) := (Kept.refl (fun b => b = B) W).one1 2 _
  have hr := h.outer
  rw [hv] at hr
  have hb : rv.ownBlock = some g := by rw [hv]; rfl
  refine ⟨Kept.one0 h.kept h.nB _ _, h.nB, ?_, h.fam.other h.blk (by decide) hks, by omega, ?_⟩
  · rw [heap_set_same h.blk]; rfl
  · have e1 : ((List.range (r + 1)).map fun j => F (j + 2)).take r = (List.range r).map fun j => F (j + 2) := by
      rw [List.range_succ, List.map_append, List.take_append_of_le_length (by simp), List.take_of_length_le (by simp)]
    rw [← e1]
    refine row_same (row_cut hr) fun g' hg' => ?_
    injection hg' with hg'
    subst hg'
    exact heap_set_other _ (h.neR hb)
/-- A block that lies beside may change. -/
theorem MomMem.aside (h : MomMem w W B F C rv r m) {D : Nat} {c : Array Value} {t : TypeId} {fr : Nat × Nat} (hD : W.heap[D]? = some (.cells c t fr)) (h3 : t ≠ 3) (h35 : t ≠ 35) (hDB : D ≠ B) (hDw : w.heap.size ≤ D) (hk : Kept (fun b => b = D) W W') : MomMem w W' B F C rv r m :=
  ⟨Kept.trans h.kept hk (fun b hb e => by omega), h.nB, hk.at h.blk (fun e => hDB e.symm), h.fam.other hD h3 hk, h.le, row_same h.outer fun g hg => hk.block g (h.outer.lt g hg).2 fun e => by
    obtain ⟨c2, hc2⟩ := row_block h.outer hg
    rw [e, hD] at hc2
    simp at hc2
    exact h35 hc2.2.1⟩
/-- One more number in the row that lies last within: an append, then the store into the row of rows. -/
theorem MomMem.last (h : MomMem w W B F C rv (r + 1) m) {v : Value} {x : Int} {o : Obj} {g cap : Nat} (hv : rv = .slice (some ⟨g, 0, none⟩) (r + 1) cap) (hg : (W.alloc o).grownBy W' (F (r + 2)).ownBlock)
    (hr : W'.ownsRow w.heap.size 3 1 v ((C (r + 2)).length + 1) (ints (C (r + 2)) ++ [.int .i64 x])) (hat : v.ownBlock = (F (r + 2)).ownBlock ∨ v.ownBlock = some (W.alloc o).heap.size) :
    MomMem w (W'.setCell ⟨g, r, none⟩ v) B (fun k => if k = r + 2 then v else F k) (fun k => if k = r + 2 then C (r + 2) ++ [x] else C k) rv (r + 1) m ∧ W'.cell? ⟨g, r, none⟩ = some (F (r + 2)) ∧ W'.frozen? ⟨g, r, none⟩ = false ∧
      ∀ (b : Nat) (o' : Obj), W.heap[b]? = some o' → Calm o' → (W'.setCell ⟨g, r, none⟩ v).heap[b]? = some o' := by
  have hle := h.le
  have hjm : r + 2 < m := by omega
  have hk : Kept (fun b => (F (r + 2)).ownBlock = some b) W W' := ((Kept.refl _ W).alloc o).grown hg (fun b hb _ => hb)
  have hat' : v.ownBlock = (F (r + 2)).ownBlock ∨ ∃ g, v.ownBlock = some g ∧ W.heap.size ≤ g := by
    rcases hat with e | e
    · exact .inl e
    · exact .inr ⟨_, e, by rw [World.size_alloc]; exact Nat.le_succ _⟩
  have hrb : rv.ownBlock = some g := by rw [hv]; rfl
  have hout := h.outer
  have hlt := h.outer.lt g hrb
  have hgB := h.neR hrb
  have hgF : ∀ k, k < m → (F k).ownBlock ≠ some g := fun k hk2 e => (h.neF hk2 e).2 hrb
  obtain ⟨hl, hout2⟩ := hout
  rcases hout2 with ⟨h0, _⟩ | ⟨g', cap', cur, hv', hbase, hgc, hc, hcm, hcs, htake⟩
  · rw [hv] at h0; cases h0
  rw [hv] at hv'
  cases hv'
  have hgc' : W'.heap[g]? = some (.cells cur 35 (0, 0)) := hk.at hgc (hgF _ hjm)
  have hrs : r < cur.size := by omega
  have hcell : cur[r]? = some (F (r + 2)) := by
    have h9 := congrArg (fun l => l[r]?) htake
    simp only [Nat.mul_one] at h9
    rw [List.getElem?_take_of_lt (Nat.lt_succ_self _)] at h9
    simpa using h9
  have hks : Kept (fun b => b = g) W' (W'.setCell ⟨g, r, none⟩ v) := (Kept.refl (fun b => b = g) W').one1 r v
  refine ⟨⟨Kept.one0 (Kept.trans h.kept hk (fun b hb hb2 => by have := (h.fam.block hjm hb2).2; omega)) hbase _ _, h.nB, ?_, (h.fam.app hjm hk hr hat').other hgc' (by decide) hks, by omega, ?_⟩, by rw [cell_of_block hgc']; exact hcell, free_of_block hgc' r, fun b o' hb hc => hks.at (hk.at hb fun e => ?_) fun e => ?_⟩
  · rw [heap_set_other _ (fun e => hgB e.symm)]
    rw [if_neg (by omega), if_neg (by omega)]
    exact hk.at h.blk (fun e => (h.neF hjm e).1 rfl)
  · refine ⟨by simp, .inr ⟨g, cap, _, hv, hbase, heap_set_same hgc' _, hc, hcm, by simp [hcs], ?_⟩⟩
    rw [Nat.mul_one] at htake ⊢
    rw [Array.toList_setIfInBounds, List.take_set, htake]
    apply List.ext_getElem (by simp)
    intro i h1 h2
    simp at h1
    rw [List.getElem_set]
    by_cases e : r = i
    · subst e; simp
    · simp [e, show ¬ i = r by omega]
  · obtain ⟨⟨cur2, h1⟩, _⟩ := h.fam.block hjm e
    rw [h1] at hb; injection hb with hb; exact (hc cur2).1 hb.symm
  · subst e
    rw [hgc] at hb; injection hb with hb; exact (hc cur).2 hb.symm
end
/-- Rows of the call's own are a moment. -/
theorem mom_done {base r m : Nat} {W : World} {F : Nat → Value} {C : Nat → List Int} {rv : Value} (hf : Fam base W F C m) (ho : W.ownsRow base 35 1 rv r ((List.range r).map fun j => F (j + 2))) (hle : r + 2 ≤ m) :
    MomAt W (.agg #[F 0, F 1, rv]) ⟨C 0, C 1, (List.range r).map fun j => C (j + 2)⟩ := by
  refine ⟨_, _, _, rfl, ints_at (hf.rows 0 (by omega)), ints_at (hf.rows 1 (by omega)), ?_⟩
  have key : ∀ (j : Nat) (l : List Int), ((List.range r).map fun j => C (j + 2))[j]? = some l → j < r ∧ l = C (j + 2) := by
    intro j l hj
    obtain ⟨h1, h2⟩ := List.getElem?_eq_some_iff.1 hj
    simp at h1 h2
    exact ⟨h1, h2.symm⟩
  rcases ho.2 with ⟨h1, h2⟩ | ⟨g, cap, cur, hv, _, hg, hc, _⟩
  · refine ⟨none, 0, by rw [h1]; simp [h2], fun j l hj => ?_⟩
    have := (key j l hj).1
    omega
  · refine ⟨some ⟨g, 0, none⟩, cap, by rw [hv]; simp, fun j l hj => ?_⟩
    obtain ⟨hjr, rfl⟩ := key j l hj
    refine ⟨g, 0, F (j + 2), rfl, ?_, ints_at (hf.rows (j + 2) (by omega))⟩
    have h3 := ho.cells (g := g) (by rw [hv]; rfl) j (F (j + 2)) (by simp [hjr])
    rw [Nat.zero_add]
    by_cases e : j = 0
    · subst e; simpa [Addr.add] using h3
    · simpa [Addr.add, e] using h3
/-- It is a moment still when older blocks change. -/
theorem MomMem.stays {w W W' : World} {B r m : Nat} {F : Nat → Value} {C : Nat → List Int} {rv : Value} (h : MomMem w W B F C rv r m) (hk : Kept (fun b => b < w.heap.size) W W') : MomAt W' (.agg #[F 0, F 1, rv]) ⟨C 0, C 1, (List.range r).map fun j => C (j + 2)⟩ :=
  mom_done (h.fam.keep hk fun k b hkn hb h2 => by have := (h.fam.block hkn hb).2; omega) (row_same h.outer fun g hg => hk.block g (h.outer.lt g hg).2 fun h2 => by have := (h.outer.lt g hg).1; omega) h.le
/-- The addresses that are written, marked in a row of their own. -/
structure Marked (w W : World) (D : Nat) (wr : List Int) : Prop where
  nD : w.heap.size ≤ D
  row : ∃ cur, W.heap[D]? = some (.cells cur 4 (0, 0)) ∧ cur.size = 30000 ∧ ∀ a : Int, 0 ≤ a → a < 30000 → cur[a.toNat]? = some (.bool (decide (a ∈ wr)))
section
variable {w W W' : World} {D : Nat} {wr : List Int}
theorem Marked.same (h : Marked w W D wr) (hs : ∀ (o : Obj), W.heap[D]? = some o → Calm o → W'.heap[D]? = some o) : Marked w W' D wr := by
  obtain ⟨nD, cur, h1, h2, h3⟩ := h
  exact ⟨nD, cur, hs _ h1 (calm_of (by decide) (by decide)), h2, h3⟩
theorem Marked.keeps (h : Marked w W D wr) (hk : Keeps W W') : Marked w W' D wr := h.same fun _o ho _ => hk.at ho (fun x => x)
theorem Marked.cell (h : Marked w W D wr) {a : Int} (h0 : 0 ≤ a) (h1 : a < 30000) : W.cell? ⟨D, a.toNat, none⟩ = some (.bool (decide (a ∈ wr))) := by
  obtain ⟨nD, cur, hc, h2, h3⟩ := h
  rw [cell_of_block hc]; exact h3 a h0 h1
theorem Marked.free (h : Marked w W D wr) (k : Nat) : W.frozen? ⟨D, k, none⟩ = false := by
  obtain ⟨nD, cur, hc, h2, h3⟩ := h
  exact free_of_block hc k
theorem Marked.lt (h : Marked w W D wr) : D < W.heap.size := by
  obtain ⟨nD, cur, hc, h2, h3⟩ := h
  exact heap_lt hc
theorem Marked.mark (h : Marked w W D wr) {a : Int} (h0 : 0 ≤ a) (h1 : a < 30000) : Marked w (W.setCell ⟨D, a.toNat, none⟩ (.bool true)) D (wr ++ [a]) := by
  obtain ⟨nD, cur, hc, h2, h3⟩ := h
  refine ⟨nD, _, heap_set_same hc _, by simp [h2], fun b hb0 hb1 => ?_⟩
  by_cases e : a = b
  · subst e
    rw [Array.getElem?_setIfInBounds_self_of_lt (by omega)]
    simp
  · rw [Array.getElem?_setIfInBounds_ne (by omega), h3 b hb0 hb1]
    have : (b ∈ wr ++ [a]) ↔ b ∈ wr := by
      rw [List.mem_append, List.mem_singleton]
      exact ⟨fun h => h.resolve_right (fun x => e x.symm), .inl⟩
    simp [this]
theorem MomMem.marks {B r m : Nat} {F : Nat → Value} {C : Nat → List Int} {rv : Value} (h : MomMem w W B F C rv r m) (hd : Marked w W D wr) (hDB : D ≠ B) (o : Nat) (v : Value) : MomMem w (W.setCell ⟨D, o, none⟩ v) B F C rv r m := by
  obtain ⟨nD, cur, hc, h2, h3⟩ := hd
  have hle := h.le
  have hk : Kept (fun b => b = D) W (W.setCell ⟨D, o, none⟩ v) := (Kept.refl (fun b => b = D) W).one1 o v
  refine ⟨Kept.one0 h.kept nD _ _, h.nB, hk.at h.blk (fun e => hDB e.symm), h.fam.other hc (by decide) hk, hle, row_same h.outer fun g hg => hk.block g (h.outer.lt g hg).2 fun e => ?_⟩
  obtain ⟨c2, hc2⟩ := row_block h.outer hg
  rw [e, hc] at hc2
  simp at hc2
end
/-- The addresses below i that are among these. -/
def slotsTo (wr : List Int) (i : Nat) : List Int := ((List.range i).map fun a : Nat => (a : Int)).filter fun a => decide (a ∈ wr)
theorem slotsTo_succ (wr : List Int) (i : Nat) : slotsTo wr (i + 1) = slotsTo wr i ++ if (i : Int) ∈ wr then [(i : Int)] else [] := by
  unfold slotsTo
  rw [List.range_succ, List.map_append, List.filter_append]
  by_cases h : (i : Int) ∈ wr <;> simp [h]
theorem slotsTo_all (wr : List Int) : slotsTo wr 30000 = slots wr := rfl
theorem slotsTo_len (wr : List Int) (i : Nat) : (slotsTo wr i).length ≤ i := by
  have := List.length_filter_le (fun a => decide (a ∈ wr)) ((List.range i).map fun a : Nat => (a : Int))
  simpa [slotsTo] using this
/-- What is open behind an event, and what it has read: in plain lists. -/
def opens (s : St) (st : List Nat) : List Int := st.reverse.map (addrOf s)
def seens (evs : List Ev) (s : St) (st : List Nat) : List (List Int) := st.reverse.map fun k => (readsOf s k).map (addrAt evs)
theorem old_same {s : St} {p : Sp} {st : List Nat} {t : Option Nat} {n : Nat} {l : List Nat} (h : ∀ k ∈ st, k < s.sps.length) : ∀ k ∈ st, addrOf ⟨s.sps ++ [p], t, n, l⟩ k = addrOf s k ∧ readsOf ⟨s.sps ++ [p], t, n, l⟩ k = readsOf s k := by
  intro k hk
  have := h k hk
  simp only [addrOf, readsOf, List.getElem?_append_left this, and_self]
/-- A make. -/
theorem opens_make {evs : List Ev} {s s' : St} {i : Nat} {e : Ev} {st : List Nat} {wr : List Int} (h : AtM evs i s st wr) (hs : s.step i e = some s') (hk : e.kind = 1) :
    opens s' (stStep s e st) = opens s st ++ [e.addr] ∧ seens evs s' (stStep s e st) = seens evs s st ++ [[]] ∧ wrStep e wr = wr ∧ (stStep s e st).length = st.length + 1 := by
  rcases step_cases hs with ⟨k1, hany, rfl⟩ | ⟨k, p, htop, hp, k2, rfl⟩ | ⟨k, p, htop, hp, k3, hpa, rfl⟩
  · have hst : stStep s e st = s.sps.length :: st := by simp [stStep, k1]
    have ho := old_same (s := s) (p := ⟨i, 0, s.top, e.addr, []⟩) (t := some s.sps.length) (n := s.nodes + 1) (l := s.within ++ [s.sps.length]) (st := st.reverse) (fun k hk => h.stack.lt k (List.mem_reverse.1 hk))
    rw [hst]
    refine ⟨?_, ?_, by simp [wrStep, k1], rfl⟩
    · unfold opens
      rw [List.reverse_cons, List.map_append, List.map_congr_left fun k hk => (ho k hk).1]
      simp [addrOf]
    · unfold seens
      rw [List.reverse_cons, List.map_append, List.map_congr_left fun k hk => by rw [(ho k hk).2]]
      simp [readsOf]
  · omega
  · omega
theorem AtM.head {evs : List Ev} {i : Nat} {s : St} {st : List Nat} {wr : List Int} (h : AtM evs i s st wr) {k : Nat} {p : Sp} (htop : s.top = some k) (hp : s.sps[k]? = some p) : ∃ l, st = k :: l ∧ k ∉ l := by
  obtain ⟨l, hl, _⟩ := h.stack.top htop hp
  have hd := h.dec
  rw [hl, List.pairwise_cons] at hd
  exact ⟨l, hl, fun hm => Nat.lt_irrefl _ (hd.1 k hm)⟩
/-- A read. -/
theorem opens_read {evs : List Ev} {s s' : St} {i : Nat} {e : Ev} {st : List Nat} {wr : List Int} (h : AtM evs i s st wr) (he : evs[i]? = some e) (hs : s.step i e = some s') (hk : e.kind = 2) :
    ∃ (l : List (List Int)) (z : List Int), opens s' (stStep s e st) = opens s st ∧ seens evs s st = l ++ [z] ∧ seens evs s' (stStep s e st) = l ++ [z ++ [e.addr]] ∧ wrStep e wr = wr ∧ (stStep s e st).length = st.length ∧ z.length ≤ i := by
  rcases step_cases hs with ⟨k1, hany, rfl⟩ | ⟨k, p, htop, hp, k2, rfl⟩ | ⟨k, p, htop, hp, k3, hpa, rfl⟩
  · omega
  · obtain ⟨l, hl, hkl⟩ := h.head htop hp
    have hst : stStep s e st = st := by simp [stStep, k2]
    have hkk := (List.getElem?_eq_some_iff.1 hp).1
    have hself : (s.sps.set k { p with reads := p.reads ++ [i] })[k]? = some { p with reads := p.reads ++ [i] } := List.getElem?_set_self hkk
    have hoth : ∀ j ∈ l.reverse, (s.sps.set k { p with reads := p.reads ++ [i] })[j]? = s.sps[j]? := fun j hj => List.getElem?_set_ne fun e => hkl (by rw [e]; exact List.mem_reverse.1 hj)
    rw [hst, hl]
    refine ⟨l.reverse.map fun j => (readsOf s j).map (addrAt evs), p.reads.map (addrAt evs), ?_, ?_, ?_, by simp [wrStep, k2], rfl, ?_⟩
    · unfold opens
      rw [List.reverse_cons, List.map_append, List.map_append, List.map_congr_left fun j hj => show addrOf ⟨s.sps.set k { p with reads := p.reads ++ [i] }, some k, s.nodes + 1, s.within ++ [k]⟩ j = addrOf s j by simp only [addrOf, hoth j hj]]
      simp [addrOf, hself, hp]
    · simp [seens, readsOf, hp]
    · unfold seens
      rw [List.reverse_cons, List.map_append, List.map_congr_left fun j hj => show (readsOf ⟨s.sps.set k { p with reads := p.reads ++ [i] }, some k, s.nodes + 1, s.within ++ [k]⟩ j).map (addrAt evs) = (readsOf s j).map (addrAt evs) by simp only [readsOf, hoth j hj]]
      simp [readsOf, hself, addrAt, he]
    · rw [List.length_map]; exact h.ok.reads k p hp
  · omega
/-- A write. -/
theorem opens_write {evs : List Ev} {s s' : St} {i : Nat} {e : Ev} {st : List Nat} {wr : List Int} (h : AtM evs i s st wr) (hs : s.step i e = some s') (hk : e.kind = 3) :
    ∃ (l : List Int) (a : Int) (l2 : List (List Int)) (z : List Int), opens s st = l ++ [a] ∧ opens s' (stStep s e st) = l ∧ seens evs s st = l2 ++ [z] ∧ seens evs s' (stStep s e st) = l2 ∧ wrStep e wr = wr ++ [e.addr] ∧ st.length = (stStep s e st).length + 1 := by
  rcases step_cases hs with ⟨k1, hany, rfl⟩ | ⟨k, p, htop, hp, k2, rfl⟩ | ⟨k, p, htop, hp, k3, hpa, rfl⟩
  · omega
  · omega
  · obtain ⟨l, hl, hkl⟩ := h.head htop hp
    have hst : stStep s e st = l := by simp [stStep, k3, hl]
    have hoth : ∀ j ∈ l.reverse, (s.sps.set k { p with to := i })[j]? = s.sps[j]? := fun j hj => List.getElem?_set_ne fun e => hkl (by rw [e]; exact List.mem_reverse.1 hj)
    rw [hst, hl]
    refine ⟨l.reverse.map (addrOf s), p.addr, l.reverse.map fun j => (readsOf s j).map (addrAt evs), p.reads.map (addrAt evs), by simp [opens, addrOf, hp], ?_, by simp [seens, readsOf, hp], ?_, by simp [wrStep, k3], rfl⟩
    · unfold opens
      exact List.map_congr_left fun j hj => by simp only [addrOf, hoth j hj]
    · unfold seens
      exact List.map_congr_left fun j hj => by simp only [readsOf, hoth j hj]
theorem opens_len (s : St) (st : List Nat) : (opens s st).length = st.length := by simp [opens]
theorem seens_len (evs : List Ev) (s : St) (st : List Nat) : (seens evs s st).length = st.length := by simp [seens]
end Go.Proofs.YtbhiaeciiphelaaGreatDoor
