/-
  DERIVED. What the scanner's deferred function does. No condition but that the boxes lie in memory.
-/
import Derived.Test.YtfehlbepjmmkeaaGreatDoorJag
import Derived.RecoverIn
import Derived.Test.YtfehlbepjmmkeaaGreatDoorJaa
namespace Go.Proofs.YtfehlbepjmmkeaaGreatDoor
open Go.RowKit
set_option maxHeartbeats 4000000 in
set_option maxRecDepth 100000 in
theorem catch_idle (nn b3 b4 : Nat) (w : World) :
    CallsDIn Fence.wide nn Tryz.prog 148 #[.pointer (some ⟨b3, 0, none⟩), .pointer (some ⟨b4, 0, none⟩)] .returning w fun e u' w' => (∃ v, e = .returned v) ∧ u' = .returning ∧ Keeps w w' := by
  refine callsDIn_of_wpSIn Tryz.func148 rfl trivial fun c₀ cs hu => ?_
  apply wpSIn_seq
  apply wpSIn_region
  simp [wpOpsSIn, go_sem, recoverD, hu, Tryz.ntmps148, Exit.thenS]
  refine wpSIn_of_wpIn rfl ?_
  refine wpIn_wide.2 ?_
  go_wp2_with fail
  cases c₀
  simp only at hu
  subst hu
  exact ⟨rfl, _, rfl, _, results_none rfl _ _ _, ⟨_, rfl⟩, rfl, Keeps.refl _⟩
set_option maxHeartbeats 4000000 in
set_option maxRecDepth 100000 in
theorem catch_wrong (nn b3 b4 : Nat) (lv : Value) (a k x y : Int) (w : World) (h3 : w.heap[b3]? = some (.cells #[lv] 111 (0, 0))) (h4 : w.heap[b4]? = some (.cells #[.int .i64 x, .int .i64 y] 193 (0, 0))) :
    CallsDIn Fence.wide nn Tryz.prog 148 #[.pointer (some ⟨b3, 0, none⟩), .pointer (some ⟨b4, 0, none⟩)] (.panicking [wrongE a k]) w fun e u' w' => (∃ v, e = .returned v) ∧ u' = .panicking [{ v := .iface 193 (.agg #[.int .i64 a, .int .i64 k]), recovered := true }] ∧
      w'.heap[b3]? = some (.cells #[.slice none 0 0] 111 (0, 0)) ∧ w'.heap[b4]? = some (.cells #[.int .i64 a, .int .i64 k] 193 (0, 0)) ∧ Kept (fun b => b = b3 ∨ b = b4) w w' := by
  have hne : b3 ≠ b4 := fun e => by rw [e, h4] at h3; simp at h3
  have c3 := cell_of_block h3 0
  have f3 := free_of_block h3 0
  have c4 := cell_of_block h4 0
  have c5 := cell_of_block h4 1
  have f4 := free_of_block h4 0
  have f5 := free_of_block h4 1
  simp at c3 c4 c5
  refine callsDIn_of_wpSIn Tryz.func148 rfl trivial fun c₀ cs hu => ?_
  apply wpSIn_seq
  apply wpSIn_region
  have hta : ∀ w, (Instr.typeAssert (.iface 193 (.agg #[.int .i64 a, .int .i64 k])) 20 193 true).run Tryz.prog w = .ok (.tuple #[.agg #[.int .i64 a, .int .i64 k], .bool true]) w := fun _ => by kernel_rfl
  simp [wpOpsSIn, go_sem, recoverD, hu, wrongE, Tryz.ntmps148, Exit.thenS]
  simp only [Array.replicate_succ, Array.replicate_zero, List.push_toArray, List.setIfInBounds_toArray, List.set_cons_succ, List.set_cons_zero, List.append_toArray, List.nil_append, List.cons_append]
  refine wpSIn_of_wpIn rfl ?_
  refine wpIn_wide.2 ?_
  go_wp2_with fail
  have hbt := heap_alloc_at w (.cells #[.int .i64 a, .int .i64 k] 193)
  have hK : Keeps w (w.alloc (.cells #[.int .i64 a, .int .i64 k] 193)) := Keeps.alloc _ _
  have h3' := hK.at h3 (fun x => x)
  have h4' := hK.at h4 (fun x => x)
  have l3 := heap_lt h3
  have l4 := heap_lt h4
  obtain ⟨W, hW⟩ : ∃ W, W = w.alloc (.cells #[.int .i64 a, .int .i64 k] 193) := ⟨_, rfl⟩
  obtain ⟨p, hp⟩ : ∃ p, p = w.heap.size := ⟨_, rfl⟩
  rw [← hW] at hbt hK h3' h4'
  rw [← hp] at hbt
  rw [← hW, ← hp]
  have n3 : p ≠ b3 := by omega
  have n4 : p ≠ b4 := by omega
  have n3' : b3 ≠ p := by omega
  have n4' : b4 ≠ p := by omega
  have hne' : b4 ≠ b3 := fun e => hne e.symm
  clear hW hp c3 c4 c5 f3 f4 f5 h3 h4
  have c3 := cell_of_block h3' 0
  have f3 := free_of_block h3' 0
  have c4 := cell_of_block h4' 0
  have c5 := cell_of_block h4' 1
  have f4 := free_of_block h4' 0
  have f5 := free_of_block h4' 1
  have d0 := cell_of_block hbt 0
  have d1 := cell_of_block hbt 1
  simp at c3 c4 c5 d0 d1
  go_region_law
  all_goals go_wp2_with fail
  all_goals
    refine ⟨rfl, _, rfl, _, results_none rfl _ _ _, ⟨_, rfl⟩, rfl, ?_, ?_, ?_⟩
    · show (((W.setCell ⟨b3, 0, none⟩ (.slice none 0 0)).setCell ⟨b4, 0, none⟩ (.int .i64 a)).setCell ⟨b4, 1, none⟩ (.int .i64 k)).heap[b3]? = _
      rw [heap_set_other _ hne, heap_set_other _ hne, heap_set_same h3']; rfl
    · show (((W.setCell ⟨b3, 0, none⟩ (.slice none 0 0)).setCell ⟨b4, 0, none⟩ (.int .i64 a)).setCell ⟨b4, 1, none⟩ (.int .i64 k)).heap[b4]? = _
      rw [heap_set_same (heap_set_same ((heap_set_other _ hne').trans h4') _) _]; rfl
    · exact Kept.drew (Kept.setCell (Kept.setCell (Kept.setCell (S := fun b => b = b3 ∨ b = b4) (Kept.mono hK (fun _ _ x => x.elim)) (p := ⟨b3, 0, none⟩) (fun _ => .inl rfl) _) (p := ⟨b4, 0, none⟩) (fun _ => .inr rfl) _) (p := ⟨b4, 1, none⟩) (fun _ => .inr rfl) _)
end Go.Proofs.YtfehlbepjmmkeaaGreatDoor
namespace Go.Proofs.YtfehlbepjmmkeaaGreatDoor
open Go.RowKit Go.Shelf
/-- A row of tokens as cells. -/
def tokCells (T : List Tk) : List Value := T.flatMap Tk.cells
theorem tokCells_push (T : List Tk) (t : Tk) : tokCells (T ++ [t]) = tokCells T ++ Tk.cells t := by simp [tokCells]
theorem info213 : (Tryz.prog.info? 213).map (fun i => (i.zero, i.size, i.bytes)) = some (some (.agg #[.int .i64 0, .int .i64 0, .string ⟨#[]⟩, .int .i64 0]), 4, 40) := by kernel_rfl
theorem under111 : Tryz.prog.underlying 111 = some (.slice 213) := by kernel_rfl
theorem tokens_of (sb : Nat) (w : World) : Calls Tryz.prog 149 #[.pointer (some ⟨sb, 0, none⟩)] w fun e w' => e = .returned (.func (.func 193) #[] #[.pointer (some ⟨w.heap.size, 0, none⟩)]) ∧ w' = w.alloc (.cells #[.pointer (some ⟨sb, 0, none⟩)] 191) := by
  have hmf : ∀ (fn : Fn) (first cap : Array Value) (w : World), (Instr.makeFunc fn first cap).run Tryz.prog w = .ok (.func fn first cap) w := fun _ _ _ _ => rfl
  go_enter Tryz.func149, Tryz.ntmps149
  go_wp2_with fail
  go_ret
  exact ⟨rfl, rfl⟩
/-- What lies where. -/
structure SB where
  B : Nat
  b3 : Nat
  b4 : Nat
  sb : Nat
  M : Nat
  tb : Nat
/-- Between two rounds. -/
structure SJ (w : World) (b : SB) (s : ByteArray) (p i : Nat) (W : World) : Prop where
  sc : ScAt b.B b.sb b.M s i W
  words : WordsAt W b.M 15
  vars : Vars W
  tb : W.heap[b.tb]? = some (.cells #[.pointer (some ⟨b.sb, 0, none⟩)] 191 (0, 0))
  hb4 : W.heap[b.b4]? = some (.cells #[.int .i64 0, .int .i64 0] 193 (0, 0))
  row : ∃ v T, W.heap[b.b3]? = some (.cells #[v] 111 (0, 0)) ∧ W.ownsRow w.heap.size 213 4 v T.length (tokCells T) ∧ Toks s T p ∧ T.length ≤ p
  keeps : Keeps w W
theorem sc_same {B : Nat} {W W' : World} (hk : ScK B W W') {x : Nat} {o : Obj} (h : W.heap[x]? = some o) (ho : ∀ c fr, o ≠ .cells c 286 fr ∧ o ≠ .cells c 314 fr) : W'.heap[x]? = some o := by
  rw [hk.block x (heap_lt h) ?_, h]
  rintro ⟨_, ⟨c, fr, h'⟩ | ⟨c, fr, h'⟩⟩
  · rw [h] at h'; exact (ho c fr).1 (Option.some.inj h')
  · rw [h] at h'; exact (ho c fr).2 (Option.some.inj h')
theorem row_own {W : World} {B n : Nat} {v : Value} {xs : List Value} (h : W.ownsRow B 213 4 v n xs) {g : Nat} (hg : v.ownBlock = some g) : ∃ cur, W.heap[g]? = some (.cells cur 213 (0, 0)) := row_block h hg
theorem sck_firm {B : Nat} {W W' : World} (hk : ScK B W W') : KeepNC (fun _ => False) W W' := ⟨hk.size, fun x o _ h ho => sc_same hk h (fun c fr => ⟨fun e => (by rw [e] at ho; cases ho), fun e => (by rw [e] at ho; cases ho)⟩)⟩
theorem SJ.move {w : World} {b : SB} {s : ByteArray} {p i p' i' : Nat} {W W' : World} (h : SJ w b s p i W) (hw : w.heap.size ≤ b.B) (hv : 8 ≤ w.heap.size) (hk : ScK b.B W W') (hsc : ScAt b.B b.sb b.M s i' W')
    (hc : p' = p ∨ (p' = i' ∧ i = p ∧ p ≤ p' ∧ (Calm s p → p' = p))) : SJ w b s p' i' W' where
  sc := hsc
  words := by
    obtain ⟨es, cl, h1, h2⟩ := h.words
    exact ⟨es, cl, sc_same hk h1 (fun c fr => ⟨fun e => (by cases e), fun e => (by cases e)⟩), h2⟩
  vars := h.vars.kept hk (fun k hk8 hs => by have := hs.1; omega)
  tb := sc_same hk h.tb (fun c fr => ⟨fun e => by injection e with _ e _; revert e; decide, fun e => by injection e with _ e _; revert e; decide⟩)
  hb4 := sc_same hk h.hb4 (fun c fr => ⟨fun e => by injection e with _ e _; revert e; decide, fun e => by injection e with _ e _; revert e; decide⟩)
  row := by
    obtain ⟨v, T, h1, h2, h3, h4⟩ := h.row
    refine ⟨v, T, sc_same hk h1 (fun c fr => ⟨fun e => by injection e with _ e _; revert e; decide, fun e => by injection e with _ e _; revert e; decide⟩), row_same h2 (fun g hg => ?_), ?_, ?_⟩
    · obtain ⟨cur, hcur⟩ := row_own h2 hg
      rw [hcur]
      exact sc_same hk hcur (fun c fr => ⟨fun e => by injection e with _ e _; revert e; decide, fun e => by injection e with _ e _; revert e; decide⟩)
    · rcases hc with rfl | ⟨rfl, rfl, hle, hcalm⟩
      · exact h3
      · exact h3.pass hsc.lt hle hcalm
    · rcases hc with rfl | ⟨rfl, rfl, hle, _⟩
      · exact h4
      · omega
  keeps := Kept.trans h.keeps hk (fun x hx hs => by have := hs.1; omega)
theorem SJ.alloc {w : World} {b : SB} {s : ByteArray} {p i : Nat} {W : World} (h : SJ w b s p i W) (o : Obj) : SJ w b s p i (W.alloc o) := by
  obtain ⟨v, T, h1, h2, h3, h4⟩ := h.row
  exact ⟨h.sc.keep (Keeps.alloc _ _), h.words.keep (Keeps.alloc _ _) (fun x => x), h.vars.keep (Keeps.alloc _ _), heap_alloc_old _ h.tb, heap_alloc_old _ h.hb4, ⟨v, T, heap_alloc_old _ h1, h2.alloc _, h3, h4⟩, Kept.alloc h.keeps o⟩
theorem SJ.putObj {w : World} {b : SB} {s : ByteArray} {p i : Nat} {W : World} (h : SJ w b s p i W) {x : Nat} {o : Obj} (o' : Obj) (hM : b.M < x) (hw : w.heap.size ≤ x) (ho : W.heap[x]? = some o) (hc : o.isCells = false) (hv : 8 ≤ w.heap.size) : SJ w b s p i (W.putObj x o') := by
  have hne : ∀ {y : Nat} {c : Array Value} {t : TypeId} {fr : Nat × Nat}, W.heap[y]? = some (.cells c t fr) → (W.putObj x o').heap[y]? = some (.cells c t fr) := fun {y c t fr} hy => by
    rw [World.putObj_heap_other (fun e => by subst e; rw [hy] at ho; cases ho; cases hc)]; exact hy
  have hold : ∀ k, k < w.heap.size → (W.putObj x o').heap[k]? = W.heap[k]? := fun k hk => World.putObj_heap_other (by omega)
  obtain ⟨v, T, h1, h2, h3, h4⟩ := h.row
  refine ⟨?_, ?_, ?_, hne h.tb, hne h.hb4, ⟨v, T, hne h1, ownsRow_putObj h2 o' ho hc, h3, h4⟩, ?_⟩
  · obtain ⟨⟨v, n, xs, hb, hown, hn⟩, hle, hlt⟩ := h.sc
    exact ⟨⟨v, n, xs, by unfold scObj at hb ⊢; exact hne hb, ownsRow_putObj hown o' ho hc, hn⟩, hle, hlt⟩
  · exact h.words.same (World.putObj_heap_other (by omega))
  · have hk : Kept (fun y => y = x) W (W.putObj x o') := ⟨rfl, rfl, rfl, by rw [World.putObj_size]; exact Nat.le_refl _, fun k _ hn => World.putObj_heap_other hn⟩
    exact h.vars.kept hk (fun k hk8 e => by omega)
  · have hk : Kept (fun y => y = x) W (W.putObj x o') := ⟨rfl, rfl, rfl, by rw [World.putObj_size]; exact Nat.le_refl _, fun k _ hn => World.putObj_heap_other hn⟩
    exact Kept.trans h.keeps hk (fun y hy e => by omega)
theorem push_same {S : Nat → Prop} {W W' : World} (hk : Kept S W W') (hS : ∀ x, S x → ∃ c t fr, W.heap[x]? = some (.cells c t fr) ∧ (t = 213 ∨ t = 111)) {x : Nat} {o : Obj} (h : W.heap[x]? = some o) (ho : ∀ c t fr, t = 213 ∨ t = 111 → o ≠ .cells c t fr) : W'.heap[x]? = some o := by
  rw [hk.block x (heap_lt h) (fun hx => ?_), h]
  obtain ⟨c, t, fr, h1, h2⟩ := hS x hx
  rw [h] at h1
  exact ho c t fr h2 (Option.some.inj h1)
theorem SJ.push {w : World} {b : SB} {s : ByteArray} {p i n : Nat} {W W2 : World} {v v2 : Value} {T : List Tk} {t : Tk} {o : Obj} (h : SJ w b s p i W) (h8 : 8 ≤ w.heap.size) (hb3 : w.heap.size ≤ b.b3) (h1 : W.heap[b.b3]? = some (.cells #[v] 111 (0, 0))) (h2 : W.ownsRow w.heap.size 213 4 v T.length (tokCells T)) (h3 : Toks s T p) (h4 : T.length ≤ p)
    (ht : TokAt s p t n) (hp : p < s.size) (hi : i = p + n) (hown : W2.ownsRow w.heap.size 213 4 v2 (T.length + 1) (tokCells T ++ t.cells)) (hg : (W.alloc o).grownBy W2 v.ownBlock) :
    SJ w b s i i (W2.setCell ⟨b.b3, 0, none⟩ v2) ∧ KeepNC (fun _ => False) W (W2.setCell ⟨b.b3, 0, none⟩ v2) ∧ W2.heap[b.b3]? = some (.cells #[v] 111 (0, 0)) := by
  have hk2 : Kept (fun x => v.ownBlock = some x) W W2 := ((Kept.refl _ W).alloc o).grown hg (fun x hx _ => hx)
  have hkz : Kept (fun x => v.ownBlock = some x ∨ x = b.b3) W (W2.setCell ⟨b.b3, 0, none⟩ v2) := Kept.setCell (S := fun x => v.ownBlock = some x ∨ x = b.b3) (Kept.mono hk2 (fun _ _ e => .inl e)) (p := ⟨b.b3, 0, none⟩) (fun _ => .inr rfl) v2
  have hS : ∀ x, (v.ownBlock = some x ∨ x = b.b3) → ∃ c t fr, W.heap[x]? = some (.cells c t fr) ∧ (t = 213 ∨ t = 111) := by
    rintro x (hx | rfl)
    · obtain ⟨cur, hc⟩ := row_own h2 hx
      exact ⟨_, _, _, hc, .inl rfl⟩
    · exact ⟨_, _, _, h1, .inr rfl⟩
  have hge : ∀ x, (v.ownBlock = some x ∨ x = b.b3) → w.heap.size ≤ x := by
    rintro x (hx | rfl)
    · exact (h2.lt x hx).1
    · exact hb3
  have hB3 : W2.heap[b.b3]? = some (.cells #[v] 111 (0, 0)) := hk2.at h1 (fun e => by
    obtain ⟨cur, hc⟩ := row_own h2 e
    rw [h1] at hc; simp at hc)
  have h286 : ∀ {c : Array Value} (c' : Array Value) (t' : TypeId) (fr' : Nat × Nat), t' = 213 ∨ t' = 111 → Obj.cells c 286 (0, 0) ≠ .cells c' t' fr' := fun c' t' fr' ht e => by injection e with _ e _; subst e; revert ht; decide
  have h314 : ∀ {c : Array Value} (c' : Array Value) (t' : TypeId) (fr' : Nat × Nat), t' = 213 ∨ t' = 111 → Obj.cells c 314 (0, 0) ≠ .cells c' t' fr' := fun c' t' fr' ht e => by injection e with _ e _; subst e; revert ht; decide
  have h191 : ∀ {c : Array Value} (c' : Array Value) (t' : TypeId) (fr' : Nat × Nat), t' = 213 ∨ t' = 111 → Obj.cells c 191 (0, 0) ≠ .cells c' t' fr' := fun c' t' fr' ht e => by injection e with _ e _; subst e; revert ht; decide
  have h193 : ∀ {c : Array Value} (c' : Array Value) (t' : TypeId) (fr' : Nat × Nat), t' = 213 ∨ t' = 111 → Obj.cells c 193 (0, 0) ≠ .cells c' t' fr' := fun c' t' fr' ht e => by injection e with _ e _; subst e; revert ht; decide
  refine ⟨⟨?_, ?_, ?_, push_same hkz hS h.tb h191, push_same hkz hS h.hb4 h193, ⟨v2, T ++ [t], ?_, ?_, ?_, ?_⟩, ?_⟩, ?_, hB3⟩
  · obtain ⟨⟨u, m, xs, hb, hr, hm⟩, hle, hlt⟩ := h.sc
    refine ⟨⟨u, m, xs, by unfold scObj at hb ⊢; exact push_same hkz hS hb h286, row_same hr (fun g hg => ?_), hm⟩, hle, hlt⟩
    obtain ⟨cur, hc⟩ := row_block hr hg
    rw [hc]
    exact push_same hkz hS hc h314
  · obtain ⟨es, cl, hm1, hm2⟩ := h.words
    exact ⟨es, cl, push_same hkz hS hm1 (fun c t fr _ e => by cases e), hm2⟩
  · exact h.vars.kept hkz (fun k hk8 hx => by have := hge k hx; omega)
  · rw [heap_set_same hB3]; rfl
  · rw [tokCells_push, List.length_append]
    refine row_same hown fun g hg' => heap_set_other _ ?_
    intro e
    obtain ⟨cur, hc⟩ := row_own hown hg'
    rw [e, hB3] at hc; simp at hc
  · rw [hi]; exact h3.step hp ht
  · have := ht.pos
    rw [List.length_append]; simp; omega
  · exact Kept.trans h.keeps hkz (fun x hx hs => by have := hge x hs; omega)
  · refine ⟨hkz.size, fun x o' _ hx ho => push_same hkz hS hx (fun c t fr _ e => by rw [e] at ho; cases ho)⟩
theorem results_three {fn : Func} (hr : fn.results = #[.tmp 2, .cell 3 111, .cell 4 193]) (tmps : Array Value) (w : World) (p lv : Value) (a k : Int) (b3 b4 : Nat) (h2 : tmps.getD 2 undef = p) (h3 : tmps.getD 3 undef = .pointer (some ⟨b3, 0, none⟩)) (h4 : tmps.getD 4 undef = .pointer (some ⟨b4, 0, none⟩))
    (c3 : w.heap[b3]? = some (.cells #[lv] 111 (0, 0))) (c4 : w.heap[b4]? = some (.cells #[.int .i64 a, .int .i64 k] 193 (0, 0))) :
    (results fn tmps).run Tryz.prog w = .ok (.tuple #[p, lv, .agg #[.int .i64 a, .int .i64 k]]) w := by
  have d3 := cell_of_block c3 0
  have d4 := cell_of_block c4 0
  have d5 := cell_of_block c4 1
  simp at d3 d4 d5
  have e2 : tmps[2]?.getD undef = p := by simpa using h2
  have e3 : tmps[3]?.getD undef = .pointer (some ⟨b3, 0, none⟩) := by simpa using h3
  have e4 : tmps[4]?.getD undef = .pointer (some ⟨b4, 0, none⟩) := by simpa using h4
  simp [results, hr, e2, e3, e4, asAddr, go_sem, d3, d4, d5]
end Go.Proofs.YtfehlbepjmmkeaaGreatDoor
namespace Go.Proofs.YtfehlbepjmmkeaaGreatDoor
open Go.RowKit Go.Shelf
attribute [local go_sem] Oper.semAt_some
/-- It goes on, in this frame and this world. -/
def onlyN (F : Act) (W : World) : Exit → Act → World → Prop
  | .normal, a, w => a = F ∧ w = W
  | _, _, _ => False
set_option maxHeartbeats 8000000 in
set_option maxRecDepth 100000 in
theorem scanned_of (s : ByteArray) (w : World) (hv : Vars w) (hs : s.size ≤ 24) :
    Calls Tryz.prog 99 #[.string s] w fun e w' => (∃ (p : Value) (lv : Value) (a k : Int), e = .returned (.tuple #[p, lv, .agg #[.int .i64 a, .int .i64 k]]) ∧
      ((k ≠ 0 ∧ ¬ Good s) ∨ (k = 0 ∧ ∃ T, Toks s T s.size ∧ w'.ownsRow w.heap.size 213 4 lv T.length (tokCells T)))) ∧ Keeps w w' := by
  have hmf : ∀ (fn : Fn) (first cap : Array Value) (w : World), (Instr.makeFunc fn first cap).run Tryz.prog w = .ok (.func fn first cap) w := fun _ _ _ _ => rfl
  have h8 := hv.blk
  have HV := Lib.hid hv
  obtain ⟨W0, hW0⟩ : ∃ W0, W0 = (w.alloc (.cells #[.slice none 0 0] 111)).alloc (.cells #[.int .i64 0, .int .i64 0] 193) := ⟨_, rfl⟩
  have hK0 : Keeps w W0 := by rw [hW0]; exact Kept.alloc (Keeps.alloc _ _) _
  have hz0 : W0.heap.size = w.heap.size + 2 := by rw [hW0]; simp
  have h3 : W0.heap[w.heap.size]? = some (.cells #[.slice none 0 0] 111 (0, 0)) := by rw [hW0]; exact heap_alloc_old _ (heap_alloc_at _ _)
  have h4 : W0.heap[w.heap.size + 1]? = some (.cells #[.int .i64 0, .int .i64 0] 193 (0, 0)) := by
    rw [hW0]
    have := heap_alloc_at (w.alloc (.cells #[.slice none 0 0] 111)) (.cells #[.int .i64 0, .int .i64 0] 193)
    rw [World.size_alloc] at this
    exact this
  clear hv
  refine (callsIn_wide (n := 0)).1 ?_
  refine callsIn_of_wp_marks Tryz.func99 rfl trivial ?_ rfl
  simp only [Tryz.ntmps99, List.size_toArray, List.length_cons, List.length_nil, Nat.reduceAdd, Nat.reduceSub, Array.replicate_succ, Array.replicate_zero, List.push_toArray, List.append_toArray, List.nil_append, List.cons_append]
  refine wpIn_wide.2 ?_
  go_wp2_with (go_at_call 147; refine holdL ?_)
  refine Lib.hid ?_
  rw [← hW0]
  refine (newScanner_of s W0).mono ?_
  rintro _ w2 ⟨sb, M, rfl, hsc, hwd, hM1, hM2, hk2⟩
  go_wp2_with (go_at_call 149; refine holdL ?_)
  refine Lib.hid ?_
  refine (tokens_of sb w2).mono ?_
  rintro _ w3 ⟨rfl, hw3⟩
  have hk3 : Keeps w2 w3 := by rw [hw3]; exact Keeps.alloc _ _
  have htb : w3.heap[w2.heap.size]? = some (.cells #[.pointer (some ⟨sb, 0, none⟩)] 191 (0, 0)) := by rw [hw3]; exact heap_alloc_at _ _
  have hz3 : w3.heap.size = w2.heap.size + 1 := by rw [hw3]; simp
  clear hw3 hW0
  obtain ⟨b, hb⟩ : ∃ b : SB, b = ⟨W0.heap.size, w.heap.size, w.heap.size + 1, sb, M, w2.heap.size⟩ := ⟨_, rfl⟩
  have hJ : SJ w b s 0 0 w3 := by
    rw [hb]
    exact ⟨hsc.keep hk3, hwd.keep hk3 (fun x => x), HV.out.keep (Keeps.trans hK0 (Keeps.trans hk2 hk3)), htb, (Keeps.trans hk2 hk3).at h4 (fun x => x),
      ⟨.slice none 0 0, [], (Keeps.trans hk2 hk3).at h3 (fun x => x), World.ownsRow_nil _ _ _ _, Toks.nil s 0 (Nat.zero_le _) (fun _ => rfl), Nat.le_refl _⟩, Keeps.trans hK0 (Keeps.trans hk2 hk3)⟩
  go_wp2_with fail
  refine (wpIn_wide (n := 0)).1 ?_
  have hB : w.heap.size ≤ b.B := by rw [hb]; show w.heap.size ≤ W0.heap.size; omega
  have hMb : b.M < w3.heap.size := by rw [hb]; show M < w3.heap.size; omega
  have hwz : w.heap.size ≤ w3.heap.size := hJ.keeps.size
  have hsb : b.sb = sb := by rw [hb]
  have hMM : b.M = M := by rw [hb]
  have htbb : b.tb = w2.heap.size := by rw [hb]
  have hb3 : b.b3 = w.heap.size := by rw [hb]
  have hb4 : b.b4 = w.heap.size + 1 := by rw [hb]
  clear hsc hwd htb hb h3 h4 hk2 hk3
  refine wpIn_rangeP (ι := Nat × Nat) (gf := 193) (lb := #[.pointer (some ⟨w2.heap.size, 0, none⟩)]) (by simp [go_sem]) (enters_of Tryz.func193 (by kernel_rfl) rfl)
    (fun x y z => ∃ t n, x = #[.agg (Tk.cells t).toArray] ∧ TokAt s y.1 t n ∧ y.1 < s.size ∧ y.2 = y.1 + n ∧ z.1 = y.2 ∧ z.2 = y.2)
    (fun x W => SJ w b s x.1 x.2 W)
    (fun x y W W' => ScK b.B W W' ∧ ScAt b.B b.sb b.M s y.2 W' ∧ (y.1 = x.1 ∨ (y.1 = y.2 ∧ x.2 = x.1 ∧ x.1 ≤ y.1 ∧ (Calm s x.1 → y.1 = x.1))))
    (fun x ch => ∃ a k, ch = [wrongE a k] ∧ k ≠ 0 ∧ ¬ Calm s x.1) (0, 0) ?hps ?hM ?hMk ?hJa ?hJp hJ (fun x => x.1 = s.size) ?hiter
    (fun x p => { tmps := #[.string s, undef, .pointer (some ⟨sb, 0, none⟩), .pointer (some ⟨w.heap.size, 0, none⟩), .pointer (some ⟨w.heap.size + 1, 0, none⟩), .pointer (some ⟨p, 0, none⟩), .string s, .pointer (some ⟨sb, 0, none⟩),
      .func (.func 148) #[] #[.pointer (some ⟨w.heap.size, 0, none⟩), .pointer (some ⟨w.heap.size + 1, 0, none⟩)], .pointer (some ⟨sb, 0, none⟩), .func (.func 193) #[] #[.pointer (some ⟨w2.heap.size, 0, none⟩)], x.getD 0 undef, undef, undef, undef, undef, undef, undef, undef], defers := [] })
    (fun x => .cells (match x.getD 0 undef with | .agg cs => cs | _ => #[]) 213 (0, 0)) ?assign ?body ?done ?pan
  case hps =>
    rintro x i j ⟨t, n, rfl, _⟩
    rfl
  case hM =>
    rintro ⟨p, i⟩ ⟨p', i'⟩ W W' hJ ⟨h1, h2, h3⟩
    exact hJ.move hB h8 h1 h2 h3
  case hMk =>
    rintro _ _ W W' _ ⟨h1, _⟩
    exact sck_firm h1
  case hJa => exact fun _ W o h => h.alloc o
  case hJp => exact fun _ W x o o' h hx ho hc => h.putObj o' (by omega) (by omega) ho hc h8
  case hiter =>
    intro l J' W hJJ h0' hl hW hM' hY
    have := tokens1_in (0 - 1) l w2.heap.size sb M 15 b.B s hs J' W 0 (fun x W' hx => ?_) (fun p i p' i' W' W'' h1 h2 h3 h4 => hM' (p, i) (p', i') W' W'' h1 ⟨h2, by rw [hsb, hMM]; exact h3, h4⟩) h0'
      (fun p t n W1 h1 h2 h3 => hY _ (p, p + n) (p + n, p + n) W1 ⟨t, n, rfl, h1, h2, rfl, rfl, rfl⟩ h3)
    · refine this.mono ?_
      rintro e W' ⟨x, hx, (⟨h1, h2⟩ | ⟨a, k, h1, h2, h3⟩)⟩
      · exact ⟨x, hx, .inl ⟨h1, h2⟩⟩
      · exact ⟨x, hx, .inr ⟨_, h1, a, k, rfl, h2, h3⟩⟩
    · have h := hJJ _ _ hx
      refine ⟨?_, ?_, h.vars, ?_⟩
      · have := h.sc; rwa [hsb, hMM] at this
      · have := h.words; rwa [hMM] at this
      · have := h.tb; rwa [hsb, htbb] at this
  case assign =>
    rintro l i j x W K ⟨t, n, rfl, _⟩ hK
    simp only [Tk.cells] at hK ⊢
    gi_wp2
    exact hK
  case body =>
    rintro l ⟨p, i⟩ ⟨p', i'⟩ x q rec W ⟨t, n, rfl, ht, hp, hi, hp', hi'⟩ hq hl hrec hL hD hJ
    simp only at hi hp' hi' ht hp
    obtain rfl : p' = i := hp'
    obtain rfl : i' = p' := hi'
    obtain ⟨v, T, h1, h2, h3, h4⟩ := hJ.row
    have c3 : W.cell? ⟨w.heap.size, 0, none⟩ = some v := by rw [← hb3, cell_of_block h1]; rfl
    have hq' : W.heap[q]? = some (.cells #[.int .i64 t.kind, .int .i64 t.num, .string t.text, .int .i64 t.at_] 213 (0, 0)) := hq
    have d0 := cell_of_block hq' 0
    have d1 := cell_of_block hq' 1
    have d2 := cell_of_block hq' 2
    have d3 := cell_of_block hq' 3
    simp at d0 d1 d2 d3
    obtain ⟨i213, hi3, hz3, hs3, hy3⟩ := info_parts info213
    have hbsz := hJ.keeps.size
    have htl := h3.le
    have HJ := Lib.hid hJ
    have H1 := Lib.hid h1
    have H2 := Lib.hid h2
    have H3 := Lib.hid h3
    have HL := Lib.hid hL
    have HD := Lib.hid hD
    have Hrec := Lib.hid hrec
    have HT := Lib.hid ht
    have HP := Lib.hid hp
    have HI := Lib.hid hi
    have H4 := Lib.hid h4
    have HB3 := Lib.hid hb3
    clear hJ h1 h2 h3 hL hD hrec hq hq' ht hi hp hb3
    simp only [Tk.cells]
    gi_wp2_with (gi_at_builtin; refine wpListIn_append_own _ rfl _ _ 111 rfl w.heap.size 213 i213 (.agg #[.int .i64 0, .int .i64 0, .string ⟨#[]⟩, .int .i64 0]) 4 40 under111 hi3 hz3 hs3 hy3 rfl (by decide) v T.length (tokCells T) rfl (H2.out.alloc _) ⟨W.heap.size, 0, none⟩ 1 1 [.int .i64 t.kind, .int .i64 t.num, .string t.text, .int .i64 t.at_] rfl rfl (World.news_of_block (cs := #[.int .i64 t.kind, .int .i64 t.num, .string t.text, .int .i64 t.at_]) (t := 213) (fr := (0, 0)) (heap_alloc_at _ _)) (by simp [Value.oneCell']) (by unfold maxLen; omega) (by omega) (by simp; omega) ?_; intro v2 w9 hown2 hgrow2 hnil2; obtain ⟨g2, cap2, rfl⟩ := row_succ hown2; have hput := SJ.push HJ.out h8 (Nat.le_of_eq HB3.out.symm) H1.out H2.out H3.out H4.out HT.out HP.out HI.out hown2 hgrow2; have cb := cell_of_block hput.2.2 0; have fb := free_of_block hput.2.2 0; rw [HB3.out] at cb fb; simp at cb; have HPut := Lib.hid hput; clear hput hown2 hgrow2 hnil2)
    obtain ⟨p1, p2, p3⟩ := HPut.out
    rw [HB3.out] at p1 p2
    exact ⟨p2.same _ _ (fun h => h) HL.out rfl, by rw [Hrec.out]; exact p2.same _ _ (fun h => h) HD.out rfl, p1⟩
  case done =>
    rintro ⟨p, i⟩ D W hD hJ hp hK
    obtain ⟨v, T, h1, h2, h3, h4⟩ := hJ.row
    obtain ⟨pv, nv, cv, rfl⟩ : ∃ pv nv cv, v = .slice pv nv cv := by
      rcases h2.2 with ⟨e, _⟩ | ⟨g, cap, cur, e, _⟩
      · exact ⟨_, _, _, e⟩
      · exact ⟨_, _, _, e⟩
    rw [hb3] at h1
    have h5 := hJ.hb4
    rw [hb4] at h5
    have c3 := cell_of_block h1 0
    have f3 := free_of_block h1 0
    have c4 := cell_of_block h5 0
    have c5 := cell_of_block h5 1
    have f4 := free_of_block h5 0
    have f5 := free_of_block h5 1
    simp at c3 c4 c5
    have hlt3 : w.heap.size < D := by omega
    have hlt4 : w.heap.size + 1 < D := by omega
    have hne34 : w.heap.size ≠ w.heap.size + 1 := by omega
    have HJ := Lib.hid hJ
    have HK := Lib.hid hK
    have H1 := Lib.hid h1
    have H5 := Lib.hid h5
    have H2 := Lib.hid h2
    have H3 := Lib.hid h3
    have HP := Lib.hid (hp : p = s.size)
    clear hJ hK h1 h2 h3 h4 h5 hp hb3 hb4
    go_wp2_with fail
    refine Code.wp_mono (Q := onlyN { tmps := #[.string s, undef, .pointer (some ⟨sb, 0, none⟩), .pointer (some ⟨w.heap.size, 0, none⟩), .pointer (some ⟨w.heap.size + 1, 0, none⟩), undef, .string s, .pointer (some ⟨sb, 0, none⟩),
      .func (.func 148) #[] #[.pointer (some ⟨w.heap.size, 0, none⟩), .pointer (some ⟨w.heap.size + 1, 0, none⟩)], .pointer (some ⟨sb, 0, none⟩), .func (.func 193) #[] #[.pointer (some ⟨w2.heap.size, 0, none⟩)], undef, undef, undef, undef, undef, .pointer (some ⟨sb, 0, none⟩), .slice pv nv cv, .agg #[.int .i64 0, .int .i64 0]], defers := [{ target := .collected D, args := #[] }, { target := .fn (.func 148) #[.pointer (some ⟨w.heap.size, 0, none⟩), .pointer (some ⟨w.heap.size + 1, 0, none⟩)], args := #[] }] } (((W.setCell ⟨w.heap.size, 0, none⟩ (.slice pv nv cv)).setCell ⟨w.heap.size + 1, 0, none⟩ (.int .i64 0)).setCell ⟨w.heap.size + 1, 1, none⟩ (.int .i64 0)).drew) ?_ ?_
    · rintro e a' w' he
      cases e with
      | normal =>
        obtain ⟨rfl, rfl⟩ := he
        have g1 : (((W.setCell ⟨w.heap.size, 0, none⟩ (.slice pv nv cv)).setCell ⟨w.heap.size + 1, 0, none⟩ (.int .i64 0)).setCell ⟨w.heap.size + 1, 1, none⟩ (.int .i64 0)).heap[w.heap.size]? = some (.cells #[.slice pv nv cv] 111 (0, 0)) := by
          rw [heap_set_other _ hne34, heap_set_other _ hne34, heap_set_same H1.out]; rfl
        have g2 : (((W.setCell ⟨w.heap.size, 0, none⟩ (.slice pv nv cv)).setCell ⟨w.heap.size + 1, 0, none⟩ (.int .i64 0)).setCell ⟨w.heap.size + 1, 1, none⟩ (.int .i64 0)).heap[w.heap.size + 1]? = some (.cells #[.int .i64 0, .int .i64 0] 193 (0, 0)) := by
          rw [heap_set_same (heap_set_same ((heap_set_other _ (Ne.symm hne34)).trans H5.out) _) _]; rfl
        have g3 : (((W.setCell ⟨w.heap.size, 0, none⟩ (.slice pv nv cv)).setCell ⟨w.heap.size + 1, 0, none⟩ (.int .i64 0)).setCell ⟨w.heap.size + 1, 1, none⟩ (.int .i64 0)).heap[D]? = some (.deferred (some [])) := by
          rw [heap_set_other _ (by omega), heap_set_other _ (by omega), heap_set_other _ (by omega)]; exact HK.out
        have g4 : Keeps w (((W.setCell ⟨w.heap.size, 0, none⟩ (.slice pv nv cv)).setCell ⟨w.heap.size + 1, 0, none⟩ (.int .i64 0)).setCell ⟨w.heap.size + 1, 1, none⟩ (.int .i64 0)) :=
          keeps_put (keeps_put (keeps_put HJ.out.keeps (Nat.le_refl _) 0 _) (Nat.le_succ _) 0 _) (Nat.le_succ _) 1 _
        have g5 : (((W.setCell ⟨w.heap.size, 0, none⟩ (.slice pv nv cv)).setCell ⟨w.heap.size + 1, 0, none⟩ (.int .i64 0)).setCell ⟨w.heap.size + 1, 1, none⟩ (.int .i64 0)).ownsRow w.heap.size 213 4 (.slice pv nv cv) T.length (tokCells T) := row_same H2.out (fun g hg => by
          obtain ⟨cur, hc⟩ := row_own H2.out hg
          have n1 : g ≠ w.heap.size := fun e => by rw [e, H1.out] at hc; simp at hc
          have n2 : g ≠ w.heap.size + 1 := fun e => by rw [e, H5.out] at hc; simp at hc
          rw [heap_set_other _ n2, heap_set_other _ n2, heap_set_other _ n1])
        obtain ⟨W8, hW8⟩ : ∃ W8, W8 = (((W.setCell ⟨w.heap.size, 0, none⟩ (.slice pv nv cv)).setCell ⟨w.heap.size + 1, 0, none⟩ (.int .i64 0)).setCell ⟨w.heap.size + 1, 1, none⟩ (.int .i64 0)) := ⟨_, rfl⟩
        rw [← hW8] at g1 g2 g3 g4 g5
        rw [← hW8]
        clear hW8
        have G1 := Lib.hid g1
        have G2 := Lib.hid g2
        have G3 := Lib.hid g3
        have G4 := Lib.hid g4
        have G5 := Lib.hid g5
        clear g1 g2 g3 g4 g5 c3 c4 c5 f3 f4 f5
        go_wp2_with fail
        refine ⟨by simp, .inl ⟨D, _, rfl, run_takeDeferred (w := W8.drew) G3.out, ?_⟩⟩
        refine ⟨by simp, .inr ⟨fun h => by simp [Fence.wide] at h, .func 148, _, 148, #[.pointer (some ⟨w.heap.size, 0, none⟩), .pointer (some ⟨w.heap.size + 1, 0, none⟩)], rfl, by simp [go_sem], fun _ _ => trivial, ?_⟩⟩
        refine (catch_idle _ _ _ _).mono ?_
        rintro _ u' W9 ⟨⟨rv, rfl⟩, rfl, hk9⟩
        have hcc : ∀ {y : Nat} {c : Array Value} {t : TypeId} {fr : Nat × Nat}, W8.heap[y]? = some (.cells c t fr) → W9.heap[y]? = some (.cells c t fr) := fun {y c t fr} hy => by
          refine hk9.at ?_ (fun x => x)
          rw [World.putObj_heap_other (fun e => by have := G3.out; rw [← e, hy] at this; cases this)]
          exact hy
        refine ⟨_, results_three rfl _ _ _ _ _ _ _ _ rfl rfl rfl (hcc G1.out) (hcc G2.out), ⟨_, _, _, _, rfl, .inr ⟨rfl, T, ?_, ?_⟩⟩, ?_⟩
        · have := H3.out; rw [HP.out] at this; exact this
        · exact row_same G5.out (fun g hg => by
            obtain ⟨cur, hc⟩ := row_own G5.out hg
            rw [hc]; exact hcc hc)
        · have hkp : Keeps w (W8.drew.putObj D (.deferred none)) := ⟨G4.out.os, G4.out.tape, G4.out.output, by rw [World.putObj_size]; exact G4.out.size, fun k hk _ => (World.putObj_heap_other (by omega)).trans (G4.out.block k hk (fun x => x))⟩
          exact Keeps.trans hkp hk9
      | ret => exact he.elim
      | exit id => exact he.elim
      | goto t => exact he.elim
      | panic chain => exact he.elim
      | outgrown => exact he.elim
    · go_region_law
      all_goals go_wp2_with fail
      all_goals exact ⟨rfl, rfl⟩
  case pan =>
    rintro ⟨p, i⟩ D W ch hD hJ ⟨a, k, rfl, hk0, hnc⟩ hK
    obtain ⟨v, T, h1, h2, h3, h4⟩ := hJ.row
    rw [hb3] at h1
    have h5 := hJ.hb4
    rw [hb4] at h5
    have hcc : ∀ {y : Nat} {c : Array Value} {t : TypeId} {fr : Nat × Nat}, W.heap[y]? = some (.cells c t fr) → (W.putObj D (.deferred none)).heap[y]? = some (.cells c t fr) := fun {y c t fr} hy => by
      rw [World.putObj_heap_other (fun e => by rw [← e, hy] at hK; cases hK)]
      exact hy
    refine ⟨by simp, .inl ⟨D, _, rfl, run_takeDeferred hK, ?_⟩⟩
    refine ⟨by simp, .inr ⟨fun h => by simp [Fence.wide] at h, .func 148, _, 148, #[.pointer (some ⟨w.heap.size, 0, none⟩), .pointer (some ⟨w.heap.size + 1, 0, none⟩)], rfl, by simp [go_sem], fun _ _ => trivial, ?_⟩⟩
    refine (catch_wrong _ _ _ v a k 0 0 _ (hcc h1) (hcc h5)).mono ?_
    rintro _ u' W9 ⟨⟨rv, rfl⟩, rfl, g1, g2, hk9⟩
    have hkp : Keeps w (W.putObj D (.deferred none)) := ⟨hJ.keeps.os, hJ.keeps.tape, hJ.keeps.output, by rw [World.putObj_size]; exact hJ.keeps.size, fun k hk _ => (World.putObj_heap_other (by omega)).trans (hJ.keeps.block k hk (fun x => x))⟩
    refine ⟨_, results_three rfl _ _ _ _ _ _ _ _ rfl rfl rfl g1 g2, ⟨_, _, _, _, rfl, .inl ⟨hk0, fun hg => ?_⟩⟩, Kept.trans hkp hk9 (fun x hx e => by omega)⟩
    rcases h3.full hg with ⟨_, rfl⟩ | ⟨_, _, _, _, rfl⟩
    · exact hnc (.inr hg.1)
    · exact hnc (.inl rfl)
end Go.Proofs.YtfehlbepjmmkeaaGreatDoor
namespace Go.Proofs.YtfehlbepjmmkeaaGreatDoor
open Go.RowKit
set_option maxHeartbeats 4000000 in
set_option maxRecDepth 100000 in
theorem kind_of (s : ByteArray) (w : World) (hv : Vars w) : Calls Tryz.prog 124 #[.string s] w fun e w' => (∃ k : Int, e = .returned (.int .i64 k) ∧ (k = 3 ↔ conB s = true)) ∧ Keeps w w' := by
  by_cases hs : s.size ≤ 24
  · have hs' : ¬ (24 : Int) < s.size := by omega
    have hcg : conB s = true ↔ Good s := by rw [conB_good]; exact ⟨fun h => h.2, fun h => ⟨hs, h⟩⟩
    go_enter Tryz.func124, Tryz.ntmps124
    go_wp2_with (go_at_call 99; refine holdL ?_)
    refine Lib.hid ?_
    refine (scanned_of s w hv hs).mono ?_
    rintro _ w2 ⟨⟨p, lv, a, k, rfl, hcase⟩, hk2⟩
    rcases hcase with ⟨hk0, hg⟩ | ⟨rfl, T, hT, hrow⟩
    · have hkb : (k != 0) = true := by simp [hk0]
      have hcf : ¬ conB s = true := fun h => hg (hcg.1 h)
      go_wp2_with fail
      go_ret
      exact ⟨⟨0, rfl, fun h => absurd h (by decide), fun h => absurd h hcf⟩, Kept.alloc hk2 _⟩
    · match T, hT, hrow with
      | [], hT, hrow =>
        have hcf : ¬ conB s = true := fun h => by
          rcases hT.full (hcg.1 h) with ⟨_, h0⟩ | ⟨_, h0, _⟩
          · have := greatC_pos (hcg.1 h).1; omega
          · cases h0
        obtain ⟨pv, cv, rfl⟩ : ∃ pv cv, lv = .slice pv 0 cv := by
          rcases hrow.2 with ⟨e, _⟩ | ⟨g, cap, cur, e, _⟩
          · exact ⟨_, _, e⟩
          · exact ⟨_, _, e⟩
        go_wp2_with fail
        go_ret
        exact ⟨⟨0, rfl, fun h => absurd h (by decide), fun h => absurd h hcf⟩, Kept.alloc hk2 _⟩
      | [t], hT, hrow =>
        obtain ⟨g, cap, rfl⟩ := row_succ (k := 0) hrow
        have d0 := hrow.cellAt 0 (by decide)
        have d2 := hrow.cellAt 2 (by decide)
        simp [tokCells, Tk.cells] at d0 d2
        have hgl := (hrow.lt g rfl).2
        have e0 : (w2.alloc (.cells #[.int .i64 a, .int .i64 0] 193)).cell? ⟨g, 0, none⟩ = some (.int .i64 t.kind) := cell_keeps (Keeps.alloc _ _) d0
        have e2 : (w2.alloc (.cells #[.int .i64 a, .int .i64 0] 193)).cell? ⟨g, 2, none⟩ = some (.string t.text) := cell_keeps (Keeps.alloc _ _) d2
        have hr : t.kind = 3 ∧ t.text = s ↔ conB s = true := by
          rw [hcg]
          refine ⟨fun h => hT.sound t (by simp) h.1 h.2, fun h => ?_⟩
          rcases hT.full h with ⟨h0, _⟩ | ⟨u, h0, h1, h2, _⟩
          · cases h0
          · injection h0 with h0 _
            subst h0
            exact ⟨h1, h2⟩
        by_cases ht : t.text = s
        · have htb : (t.text.toList != s.toList) = false := by simp [ht]
          go_wp2_with fail
          all_goals
            go_ret
            exact ⟨⟨t.kind, rfl, fun h => hr.1 ⟨h, ht⟩, fun h => (hr.2 h).1⟩, Kept.alloc hk2 _⟩
        · have htb : (t.text.toList != s.toList) = true := by
            simp only [bne_iff_ne, ne_eq]
            exact fun h => ht (toList_eq h)
          have htb2 : (t.text.toList == s.toList) = false := by simpa using htb
          have hcf : ¬ conB s = true := fun h => ht (hr.2 h).2
          go_wp2_with fail
          all_goals go_ret
          all_goals first
            | exact ⟨⟨0, rfl, fun h => absurd h (by decide), fun h => absurd h hcf⟩, Kept.alloc hk2 _⟩
            | (exfalso; simp_all)
      | t :: u :: T, hT, hrow =>
        have hcf : ¬ conB s = true := fun h => by
          rcases hT.full (hcg.1 h) with ⟨h0, _⟩ | ⟨_, h0, _⟩ <;> cases h0
        obtain ⟨g, cap, rfl⟩ := row_succ (k := T.length + 1) hrow
        have hl1 : (((T.length + 1 + 1 : Nat) : Int) != 1) = true := by simp; omega
        go_wp2_with fail
        go_ret
        exact ⟨⟨0, rfl, fun h => absurd h (by decide), fun h => absurd h hcf⟩, Kept.alloc hk2 _⟩
  · have hs' : (24 : Int) < s.size := by omega
    go_enter Tryz.func124, Tryz.ntmps124
    go_wp2_with fail
    go_ret
    refine ⟨⟨0, rfl, ?_⟩, Keeps.refl _⟩
    rw [conB_good]
    exact ⟨fun h => absurd h (by decide), fun h => absurd h.1 hs⟩
theorem lexIsCon_of (s : ByteArray) (w : World) (hv : Vars w) : Calls Tryz.prog 77 #[.string s] w fun e w' => e = .returned (.bool (conB s)) ∧ Keeps w w' := by
  go_enter Tryz.func77, Tryz.ntmps77
  go_wp2_with (go_at_call 124; refine holdL ?_)
  refine Lib.hid ?_
  refine (kind_of s w hv).mono ?_
  rintro _ w2 ⟨⟨k, rfl, hk⟩, hk2⟩
  have hkb : (k == 3) = conB s := by
    rw [Bool.eq_iff_iff]
    simpa using hk
  go_wp2_with fail
  go_ret
  exact ⟨rfl, hk2⟩
end Go.Proofs.YtfehlbepjmmkeaaGreatDoor
