/-
  DERIVED. The reference's Events. Condition: the nodes lie in memory.
-/
import Derived.Test.YtbhiaeciiphelaaGreatDoorTrT
import Derived.Deep.RegionHeld3
namespace Go.Proofs.YtbhiaeciiphelaaGreatDoor
open Go.RowKit
theorem evCells_get : ∀ {evs : List ET} {i : Nat} {t : ET}, evs[i]? = some t → ∀ j : Nat, j < 8 → (evCells evs)[i * 8 + j]? = t.ev.cells[j]?
  | s :: evs, 0, t, h, j, hj => by
    injection h with h
    subst h
    rw [evCells, List.flatMap_cons, List.getElem?_append_left (by simp [Ev.cells]; omega), Nat.zero_mul, Nat.zero_add]
  | s :: evs, i + 1, t, h, j, hj => by
    have h1 := evCells_get (evs := evs) (i := i) h j hj
    rw [evCells, List.flatMap_cons, List.getElem?_append_right (by simp [Ev.cells]; omega), show (i + 1) * 8 + j - s.ev.cells.length = i * 8 + j by simp [Ev.cells]; omega]
    exact h1
theorem row_evs {W : World} {base : Nat} {v : Value} {evs : List ET} (h : W.ownsRow base 98 8 v evs.length (evCells evs)) : ∃ a c, v = .slice a evs.length c ∧ EvsAt W a (evs.map ET.ev) := by
  rcases h.2 with ⟨hv, h0⟩ | ⟨g, cap, cur, hv, hb, hg, hc, hm, hs, ht⟩
  · have hn := List.eq_nil_of_length_eq_zero h0
    subst hn
    exact ⟨none, 0, hv, ⟨fun i e he => by simp at he⟩⟩
  · refine ⟨some ⟨g, 0, none⟩, cap, hv, ⟨fun i e he => ?_⟩⟩
    rw [List.getElem?_map] at he
    cases ht2 : evs[i]? with
    | none => rw [ht2] at he; cases he
    | some t =>
      rw [ht2] at he
      injection he with he
      subst he
      refine ⟨g, 0, rfl, heap_lt hg, fun j u hj => ?_⟩
      have hjl := (List.getElem?_eq_some_iff.1 hj).1
      have hil := (List.getElem?_eq_some_iff.1 ht2).1
      have h8 : t.ev.cells.length = 8 := rfl
      rw [h8] at hjl
      rw [hv] at h
      rw [Nat.zero_add, h.cellAt _ (by omega), evCells_get ht2 j hjl]
      exact hj
theorem size56 : (Tryz.prog.info? 56).map (·.size) = some 2 := by kernel_rfl
theorem results_ls {fn : Func} {p : Tmp} (h : fn.results = #[.cell p 56]) (tmps : Array Value) (w : World) (g : Nat) (x y : Value) (hp : tmps.getD p undef = .pointer (some ⟨g, 0, none⟩)) (hg : w.heap[g]? = some (.cells #[x, y] 56 (0, 0))) :
    (results fn tmps).run Tryz.prog w = .ok (.agg #[x, y]) w :=
  results_cell_row h tmps w g 56 _ _ _ hp hg Tryz.underlying56 rfl size56
theorem two_sets56 {W : World} {B : Nat} {x y x' y' : Value} (h : W.heap[B]? = some (.cells #[x, y] 56 (0, 0))) : ((W.setCell ⟨B, 0, none⟩ x').setCell ⟨B, 1, none⟩ y').heap[B]? = some (.cells #[x', y'] 56 (0, 0)) := by
  rw [heap_set_same (heap_set_same h _) _]; rfl
def RefEventsPost (w : World) (l : List NP) (x : Ending) (w' : World) : Prop := Keeps w w' ∧ match readOf ((flat l).map ET.ev) with
  | none => x = .returned (.agg #[.slice none 0 0, .int .i64 121])
  | some _ => ∃ v, x = .returned (.agg #[v, .int .i64 0]) ∧ w'.ownsRow w.heap.size 98 8 v (flat l).length (evCells (flat l))
set_option maxHeartbeats 8000000 in
set_option maxRecDepth 100000 in
theorem refEvents_of (e d : Nat) (w : World) (A : Nat → Prop) (s : SR) (l : List NP) (h : NPAt w A e d l (.slice s.pr s.nr s.cr)) (hc : cnt l ≤ 600) : Calls Tryz.prog 28 #[.agg s.cells] w (RefEventsPost w l) := by
  obtain ⟨ps, ns, cs, pl, nl, cl, pi, ni, ci, pr, nr, cr, steps⟩ := s
  simp only [SR.cells] at *
  have H := Lib.hid h
  obtain ⟨W0, hW0⟩ : ∃ W0, W0 = ((((w.alloc (.cells #[.slice ps ns cs, .slice pl nl cl, .slice pi ni ci, .slice pr nr cr, .int .i64 steps] 51)).alloc (.cells #[.slice none 0 0, .int .i64 0] 56)).alloc (.cells #[.slice none 0 0] 22)).alloc (.cells #[.int .i64 0] 3)) := ⟨_, rfl⟩
  have h1 : (w.alloc (.cells #[.slice ps ns cs, .slice pl nl cl, .slice pi ni ci, .slice pr nr cr, .int .i64 steps] 51)).heap.size = w.heap.size + 1 := World.size_alloc _ _
  have h2 : ((w.alloc (.cells #[.slice ps ns cs, .slice pl nl cl, .slice pi ni ci, .slice pr nr cr, .int .i64 steps] 51)).alloc (.cells #[.slice none 0 0, .int .i64 0] 56)).heap.size = w.heap.size + 1 + 1 := by rw [World.size_alloc, h1]
  have h3 : (((w.alloc (.cells #[.slice ps ns cs, .slice pl nl cl, .slice pi ni ci, .slice pr nr cr, .int .i64 steps] 51)).alloc (.cells #[.slice none 0 0, .int .i64 0] 56)).alloc (.cells #[.slice none 0 0] 22)).heap.size = w.heap.size + 1 + 1 + 1 := by rw [World.size_alloc, h2]
  have hk0 : Keeps w W0 := by rw [hW0]; exact Kept.alloc (Kept.alloc (Kept.alloc (Keeps.alloc _ _) _) _) _
  have hbt : W0.heap[w.heap.size + 1]? = some (.cells #[.slice none 0 0, .int .i64 0] 56 (0, 0)) := by
    have h9 := heap_alloc_at (w.alloc (.cells #[.slice ps ns cs, .slice pl nl cl, .slice pi ni ci, .slice pr nr cr, .int .i64 steps] 51)) (.cells #[.slice none 0 0, .int .i64 0] 56)
    rw [h1] at h9
    rw [hW0]; exact heap_alloc_old _ (heap_alloc_old _ h9)
  have hbo : W0.heap[w.heap.size + 1 + 1]? = some (.cells #[.slice none 0 0] 22 (0, 0)) := by
    have h9 := heap_alloc_at ((w.alloc (.cells #[.slice ps ns cs, .slice pl nl cl, .slice pi ni ci, .slice pr nr cr, .int .i64 steps] 51)).alloc (.cells #[.slice none 0 0, .int .i64 0] 56)) (.cells #[.slice none 0 0] 22)
    rw [h2] at h9
    rw [hW0]; exact heap_alloc_old _ h9
  have hbn : W0.heap[w.heap.size + 1 + 1 + 1]? = some (.cells #[.int .i64 ((0 : Nat) : Int)] 3 (0, 0)) := by
    have h9 := heap_alloc_at (((w.alloc (.cells #[.slice ps ns cs, .slice pl nl cl, .slice pi ni ci, .slice pr nr cr, .int .i64 steps] 51)).alloc (.cells #[.slice none 0 0, .int .i64 0] 56)).alloc (.cells #[.slice none 0 0] 22)) (.cells #[.int .i64 0] 3)
    rw [h3] at h9
    rw [hW0]; exact h9
  have hM : FlatMem w W0 (w.heap.size + 1 + 1 + 1) (w.heap.size + 1 + 1) (.slice none 0 0) [] 0 := ⟨hk0, by omega, by omega, hbn, hbo, World.ownsRow_nil _ _ _ _⟩
  have HC := Lib.hid (refAdd_of e w A (w.heap.size + 1 + 1 + 1) (w.heap.size + 1 + 1) d l (.slice pr nr cr) W0 (.slice none 0 0) [] 0 1 H.out hM (by omega) (by omega) (Nat.zero_le _))
  have HM0 := Lib.hid hM
  have HBt := Lib.hid hbt
  have HW0 := Lib.hid hW0
  clear hW0 h1 h2 h3 hk0 hbo hbn hbt hM h
  go_enter Tryz.func28, Tryz.ntmps28
  go_wp2_with (go_at_call 62; refine holdT ?_)
  refine Lib.hid ?_
  rw [← HW0.out]
  refine HC.out.mono ?_
  rintro _ W7 ⟨v7, rfl, hM7, hk7, _⟩
  simp only [List.nil_append, Nat.zero_add] at hM7
  obtain ⟨a7, c7, rfl, hev⟩ := row_evs hM7.row
  have hbt7 := HM0.out.far hk7 HBt.out (by decide) (by decide) (by decide)
  have b0 := cell_of_block hM7.hbo 0
  simp at b0
  obtain ⟨nF, hnF⟩ : ∃ nF, nF = (flat l).length := ⟨_, rfl⟩
  have HR := Lib.hid (right_any W7 a7 nF c7 ((flat l).map ET.ev) hev (by rw [List.length_map]; exact hnF))
  have HBt7 := Lib.hid hbt7
  have HM7 := Lib.hid hM7
  have HnF := Lib.hid hnF
  rw [← hnF] at b0
  clear hM7 hk7 hbt7 hev hnF
  cases ho : readOf ((flat l).map ET.ev) with
  | none =>
    rw [ho] at HR
    simp only [Option.isSome_none] at HR
    have HO := Lib.hid ho
    clear ho
    go_wp2_with (go_at_call 24; refine HR.out.mono ?_; rintro _ w8 ⟨rfl, hk8⟩; have HB := Lib.hid (hk8.at HBt7.out (fun x => x)); have d0 := cell_of_block HB.out 0; have d1 := cell_of_block HB.out 1; have f0 := free_of_block HB.out 0; have f1 := free_of_block HB.out 1; have l0 := heap_lt HB.out; simp at d0 d1; have HK := Lib.hid (Keeps.trans HM7.out.kept hk8); clear hk8)
    refine bodyPost_ret (results_ls rfl _ _ (w.heap.size + 1) _ _ rfl (two_sets56 HB.out)) rfl ⟨Kept.one0 (Kept.one0 HK.out (Nat.le_succ _) _ _) (Nat.le_succ _) _ _, ?_⟩
    rw [HO.out]
  | some st =>
    rw [ho] at HR
    simp only [Option.isSome_some] at HR
    have HO := Lib.hid ho
    clear ho
    go_wp2_with (go_at_call 24; refine HR.out.mono ?_; rintro _ w8 ⟨rfl, hk8⟩; have HB := Lib.hid (hk8.at HBt7.out (fun x => x)); have d0 := cell_of_block HB.out 0; have d1 := cell_of_block HB.out 1; have e0 := cell_keeps hk8 b0; have f0 := free_of_block HB.out 0; have f1 := free_of_block HB.out 1; have l0 := heap_lt HB.out; simp at d0 d1; have HK8 := Lib.hid hk8; have HK := Lib.hid (Keeps.trans HM7.out.kept hk8); clear hk8)
    refine bodyPost_ret (results_ls rfl _ _ (w.heap.size + 1) _ _ rfl (two_sets56 HB.out)) rfl ⟨Kept.one0 (Kept.one0 HK.out (Nat.le_succ _) _ _) (Nat.le_succ _) _ _, ?_⟩
    rw [HO.out]
    have hrow := HM7.out.row
    rw [HnF.out]
    refine ⟨_, rfl, row_same (row_same hrow fun g hg => HK8.out.block g (hrow.lt g hg).2 (fun x => x)) fun g hg => ?_⟩
    have hne : g ≠ w.heap.size + 1 := fun e => by
      obtain ⟨cur, hcc⟩ := row_block hrow hg
      have h9 := HK8.out.at hcc (fun x => x)
      rw [e, HB.out] at h9
      simp at h9
    rw [heap_set_other _ hne, heap_set_other _ hne]
end Go.Proofs.YtbhiaeciiphelaaGreatDoor
namespace Go.Proofs.YtbhiaeciiphelaaGreatDoor
open Go.RowKit
def EtsRow (w : World) (A : Nat → Prop) (e : Nat) (v : Value) (ets : List ET) : Prop := ∃ p c, v = .slice p ets.length c ∧
  ∀ (j : Nat) (t : ET), ets[j]? = some t → ∃ g o va v0 v1 v2 v3, p = some ⟨g, o, none⟩ ∧ ¬ A g ∧ (∀ (i : Nat) (u : Value), ([.int .i64 t.ev.kind, .int .i64 t.ev.site, .int .i64 t.ev.addr, va, v0, v1, v2, v3] : List Value)[i]? = some u → w.cell? ⟨g, o + j * 8 + i, none⟩ = some u) ∧
    RunsAt w A e va t.args ∧ RunAt w A e t.val [v0, v1, v2, v3]
structure EvJ (w W : World) (g e : Nat) (ets : List ET) : Prop where
  kept : Keeps w W
  nb : w.heap.size ≤ g
  row : ∃ cur, W.heap[g]? = some (.cells cur 98 (0, 0)) ∧ ∀ (j : Nat) (t : ET), ets[j]? = some t → ∃ va v0 v1 v2 v3, (∀ (i : Nat) (u : Value), ([.int .i64 t.ev.kind, .int .i64 t.ev.site, .int .i64 t.ev.addr, va, v0, v1, v2, v3] : List Value)[i]? = some u → cur[j * 8 + i]? = some u) ∧
    RunsAt W (fun b => b = g) e va t.args ∧ RunAt W (fun b => b = g) e t.val [v0, v1, v2, v3]
theorem EvJ.step {w W w3 : World} {g e i : Nat} {ets : List ET} {u : ET} {va v0 v1 v2 v3 : Value} (h : EvJ w W g e ets) (hu : ets[i]? = some u) (hk : Keeps W w3) (ha : RunsAt w3 (fun b => b < W.heap.size) e va u.args) (hv : RunAt w3 (fun b => b < W.heap.size) e u.val [v0, v1, v2, v3]) :
    EvJ w (((((w3.setCell ⟨g, i * 8 + 3, none⟩ va).setCell ⟨g, i * 8 + 4, none⟩ v0).setCell ⟨g, i * 8 + 4 + 1, none⟩ v1).setCell ⟨g, i * 8 + 4 + 2, none⟩ v2).setCell ⟨g, i * 8 + 4 + 3, none⟩ v3) g e ets := by
  obtain ⟨cur, hg, hall⟩ := h.row
  have hgl := heap_lt hg
  have hg3 := hk.at hg (fun x => x)
  have hg8 := heap_set_same (o := i * 8 + 4 + 3) (heap_set_same (o := i * 8 + 4 + 2) (heap_set_same (o := i * 8 + 4 + 1) (heap_set_same (o := i * 8 + 4) (heap_set_same (o := i * 8 + 3) hg3 va) v0) v1) v2) v3
  have hoth : ∀ (b : Nat), b ≠ g → (((((w3.setCell ⟨g, i * 8 + 3, none⟩ va).setCell ⟨g, i * 8 + 4, none⟩ v0).setCell ⟨g, i * 8 + 4 + 1, none⟩ v1).setCell ⟨g, i * 8 + 4 + 2, none⟩ v2).setCell ⟨g, i * 8 + 4 + 3, none⟩ v3).heap[b]? = w3.heap[b]? := fun b hne => by
    rw [heap_set_other _ hne, heap_set_other _ hne, heap_set_other _ hne, heap_set_other _ hne, heap_set_other _ hne]
  obtain ⟨wa, w0, w1, w2, w3', hcs, _⟩ := hall i u hu
  have hsz : i * 8 + 7 < cur.size := (Array.getElem?_eq_some_iff.1 (hcs 7 _ rfl)).1
  refine ⟨Kept.one0 (Kept.one0 (Kept.one0 (Kept.one0 (Kept.one0 (Keeps.trans h.kept hk) h.nb _ _) h.nb _ _) h.nb _ _) h.nb _ _) h.nb _ _, h.nb, _, hg8, fun j t hj => ?_⟩
  by_cases e1 : j = i
  · subst e1
    rw [hu] at hj; injection hj with hj; subst hj
    have hkk : ∀ (b : Nat) (o : Obj), w3.heap[b]? = some o → ¬ b < W.heap.size → (((((w3.setCell ⟨g, j * 8 + 3, none⟩ va).setCell ⟨g, j * 8 + 4, none⟩ v0).setCell ⟨g, j * 8 + 4 + 1, none⟩ v1).setCell ⟨g, j * 8 + 4 + 2, none⟩ v2).setCell ⟨g, j * 8 + 4 + 3, none⟩ v3).heap[b]? = some o ∧ ¬ b = g := fun b o hb hA =>
      ⟨by rw [hoth b (fun e => hA (by rw [e]; exact hgl))]; exact hb, fun e => hA (by rw [e]; exact hgl)⟩
    refine ⟨va, v0, v1, v2, v3, fun k x hx => ?_, ha.keep hkk, hv.keep hkk⟩
    match k, hx with
    | 0, hx => rw [Array.getElem?_setIfInBounds_ne (by omega), Array.getElem?_setIfInBounds_ne (by omega), Array.getElem?_setIfInBounds_ne (by omega), Array.getElem?_setIfInBounds_ne (by omega), Array.getElem?_setIfInBounds_ne (by omega)]; exact hcs 0 _ hx
    | 1, hx => rw [Array.getElem?_setIfInBounds_ne (by omega), Array.getElem?_setIfInBounds_ne (by omega), Array.getElem?_setIfInBounds_ne (by omega), Array.getElem?_setIfInBounds_ne (by omega), Array.getElem?_setIfInBounds_ne (by omega)]; exact hcs 1 _ hx
    | 2, hx => rw [Array.getElem?_setIfInBounds_ne (by omega), Array.getElem?_setIfInBounds_ne (by omega), Array.getElem?_setIfInBounds_ne (by omega), Array.getElem?_setIfInBounds_ne (by omega), Array.getElem?_setIfInBounds_ne (by omega)]; exact hcs 2 _ hx
    | 3, hx => rw [Array.getElem?_setIfInBounds_ne (by omega), Array.getElem?_setIfInBounds_ne (by omega), Array.getElem?_setIfInBounds_ne (by omega), Array.getElem?_setIfInBounds_ne (by omega), Array.getElem?_setIfInBounds_self_of_lt (by omega)]; exact hx
    | 4, hx => rw [Array.getElem?_setIfInBounds_ne (by omega), Array.getElem?_setIfInBounds_ne (by omega), Array.getElem?_setIfInBounds_ne (by omega), Array.getElem?_setIfInBounds_self_of_lt (by simp; omega)]; exact hx
    | 5, hx => rw [Array.getElem?_setIfInBounds_ne (by omega), Array.getElem?_setIfInBounds_ne (by omega), Array.getElem?_setIfInBounds_self_of_lt (by simp; omega)]; exact hx
    | 6, hx => rw [Array.getElem?_setIfInBounds_ne (by omega), Array.getElem?_setIfInBounds_self_of_lt (by simp; omega)]; exact hx
    | 7, hx => rw [Array.getElem?_setIfInBounds_self_of_lt (by simp; omega)]; exact hx
  · obtain ⟨xa, x0, x1, x2, x3, hxs, hxa, hxv⟩ := hall j t hj
    have hkk : ∀ (b : Nat) (o : Obj), W.heap[b]? = some o → ¬ b = g → (((((w3.setCell ⟨g, i * 8 + 3, none⟩ va).setCell ⟨g, i * 8 + 4, none⟩ v0).setCell ⟨g, i * 8 + 4 + 1, none⟩ v1).setCell ⟨g, i * 8 + 4 + 2, none⟩ v2).setCell ⟨g, i * 8 + 4 + 3, none⟩ v3).heap[b]? = some o ∧ ¬ b = g := fun b o hb hA =>
      ⟨by rw [hoth b hA]; exact hk.at hb (fun x => x), hA⟩
    refine ⟨xa, x0, x1, x2, x3, fun k x hx => ?_, hxa.keep hkk, hxv.keep hkk⟩
    have hk8 := (List.getElem?_eq_some_iff.1 hx).1
    simp only [List.length_cons, List.length_nil] at hk8
    rw [Array.getElem?_setIfInBounds_ne (by omega), Array.getElem?_setIfInBounds_ne (by omega), Array.getElem?_setIfInBounds_ne (by omega), Array.getElem?_setIfInBounds_ne (by omega), Array.getElem?_setIfInBounds_ne (by omega)]
    exact hxs k x hx
theorem EvJ.done {w W : World} {g e c : Nat} {ets : List ET} (h : EvJ w W g e ets) : EtsRow W (fun _ => False) e (.slice (some ⟨g, 0, none⟩) ets.length c) ets := by
  obtain ⟨cur, hg, hall⟩ := h.row
  refine ⟨_, c, rfl, fun j t hj => ?_⟩
  obtain ⟨va, v0, v1, v2, v3, hcs, h1, h2⟩ := hall j t hj
  have hkk : ∀ (b : Nat) (o : Obj), W.heap[b]? = some o → ¬ b = g → W.heap[b]? = some o ∧ ¬ False := fun b o hb _ => ⟨hb, fun x => x⟩
  refine ⟨g, 0, va, v0, v1, v2, v3, rfl, fun x => x, fun i u hi => ?_, h1.keep hkk, h2.keep hkk⟩
  rw [Nat.zero_add, cell_of_block hg]
  exact hcs i u hi
theorem flat_vals {w : World} {A : Nat → Prop} {e : Nat} : ∀ {d : Nat} {l : List NP} {v : Value}, NPAt w A (e + 1) d l v → ∀ t ∈ flat l, RunsAt w A (e + 1) (.slice t.ev.args t.ev.argn t.ev.argc) t.args ∧ RunAt w A (e + 1) t.val [.int .i64 t.ev.vk, .int .i64 t.ev.vn, .string t.ev.vs, .slice t.ev.va t.ev.van t.ev.vac]
  | 0, l, v, h, t, ht => by
    obtain ⟨rfl, _⟩ := h
    simp [flat] at ht
  | d + 1, l, v, h, t, ht => by
    obtain ⟨p, c, rfl, h1⟩ := h
    have key : ∀ (j : Nat) (m : Bool) (r : NR) (kids : List NP), l[j]? = some (.mk m r kids) → t ∈ (if m then r.mkEv :: (flat kids ++ [r.wrEv]) else r.rdEv :: flat kids) → RunsAt w A (e + 1) (.slice t.ev.args t.ev.argn t.ev.argc) t.args ∧ RunAt w A (e + 1) t.val [.int .i64 t.ev.vk, .int .i64 t.ev.vn, .string t.ev.vs, .slice t.ev.va t.ev.van t.ev.vac] := by
      intro j m r kids hj hm
      obtain ⟨g, o, vk, _, _, _, ha, hs, hw, hk⟩ := h1 j m r kids hj
      cases m with
      | true =>
        simp only [if_true, List.mem_cons, List.mem_append, List.not_mem_nil, or_false] at hm
        rcases hm with rfl | hm | rfl
        · exact ⟨ha, RunAt.zero _ _ _⟩
        · exact flat_vals hk t hm
        · exact ⟨RunsAt.nil _ _ _, hw⟩
      | false =>
        simp only [Bool.false_eq_true, if_false, List.mem_cons] at hm
        rcases hm with rfl | hm
        · exact ⟨RunsAt.nil _ _ _, hs⟩
        · exact flat_vals hk t hm
    have split : ∀ (l' : List NP), t ∈ flat l' → ∃ (j : Nat) (m : Bool) (r : NR) (kids : List NP), l'[j]? = some (.mk m r kids) ∧ t ∈ (if m then r.mkEv :: (flat kids ++ [r.wrEv]) else r.rdEv :: flat kids) := by
      intro l'
      induction l' with
      | nil => intro h; simp [flat] at h
      | cons x l' ih =>
        intro h
        obtain ⟨m, r, kids⟩ := x
        have hx : t ∈ (if m then r.mkEv :: (flat kids ++ [r.wrEv]) else r.rdEv :: flat kids) ∨ t ∈ flat l' := by
          cases m with
          | true => rw [flat, List.mem_append] at h; exact h
          | false => rw [flat, List.mem_append] at h; exact h
        rcases hx with hx | hx
        · exact ⟨0, m, r, kids, rfl, hx⟩
        · obtain ⟨j, m', r', k', h2, h3⟩ := ih hx
          exact ⟨j + 1, m', r', k', h2, h3⟩
    obtain ⟨j, m, r, kids, h2, h3⟩ := split l ht
    exact key j m r kids h2 h3
end Go.Proofs.YtbhiaeciiphelaaGreatDoor
namespace Go.Proofs.YtbhiaeciiphelaaGreatDoor
open Go.RowKit
def EventsPost (w : World) (e : Nat) (l : List NP) (x : Ending) (w' : World) : Prop := Keeps w w' ∧ match readOf ((flat l).map ET.ev) with
  | none => x = .returned (.tuple #[.slice none 0 0, .int .i64 121])
  | some _ => ∃ v, x = .returned (.tuple #[v, .int .i64 0]) ∧ EtsRow w' (fun _ => False) e v (flat l)
theorem cell_put1 {W : World} {g b k o0 : Nat} {y0 : Value} (h : b ≠ g) : (W.setCell ⟨g, o0, none⟩ y0).cell? ⟨b, k, none⟩ = W.cell? ⟨b, k, none⟩ :=
  World.cell?_of_block (heap_set_other _ h)
theorem cell_put5 {W : World} {g b k o0 o1 o2 o3 o4 : Nat} {y0 y1 y2 y3 y4 : Value} (h : b ≠ g) : (((((W.setCell ⟨g, o0, none⟩ y0).setCell ⟨g, o1, none⟩ y1).setCell ⟨g, o2, none⟩ y2).setCell ⟨g, o3, none⟩ y3).setCell ⟨g, o4, none⟩ y4).cell? ⟨b, k, none⟩ = W.cell? ⟨b, k, none⟩ := by
  rw [cell_put1 h, cell_put1 h, cell_put1 h, cell_put1 h, cell_put1 h]
set_option maxHeartbeats 8000000 in
set_option maxRecDepth 100000 in
theorem events_of (e d : Nat) (w : World) (A : Nat → Prop) (s : SR) (l : List NP) (h : NPAt w A (e + 1) d l (.slice s.pr s.nr s.cr)) (hc : cnt l ≤ 600) : Calls Tryz.prog 27 #[.agg s.cells] w (EventsPost w (e + 1) l) := by
  obtain ⟨ps, ns, cs, pl, nl, cl, pi, ni, ci, pr, nr, cr, steps⟩ := s
  simp only [SR.cells] at *
  have hk0 : Keeps w (w.alloc (.cells #[.slice ps ns cs, .slice pl nl cl, .slice pi ni ci, .slice pr nr cr, .int .i64 steps] 51)) := Keeps.alloc _ _
  have H := Lib.hid h
  have HC := Lib.hid (flatten_of (e + 1) d _ A l (.slice pr nr cr) (h.keep (keeps_hk hk0)) hc)
  have HK0 := Lib.hid hk0
  have hfl := flat_len l
  clear h hk0
  go_enter Tryz.func27, Tryz.ntmps27
  go_wp2_with (go_at_call 61; refine holdT ?_)
  refine Lib.hid ?_
  refine HC.out.mono ?_
  rintro _ w1 ⟨vo, rfl, hrow, hk1⟩
  obtain ⟨a1, c1, rfl, hev⟩ := row_evs hrow
  have hk01 : Keeps w w1 := Keeps.trans HK0.out hk1
  obtain ⟨nF, hnF⟩ : ∃ nF, nF = (flat l).length := ⟨_, rfl⟩
  have HR := Lib.hid (read_of w1 a1 nF c1 ((flat l).map ET.ev) hev (by rw [List.length_map]; exact hnF) (by omega))
  have hWs : w.heap.size ≤ (w.alloc (.cells #[.slice ps ns cs, .slice pl nl cl, .slice pi ni ci, .slice pr nr cr, .int .i64 steps] 51)).heap.size := HK0.out.size
  have HRow := Lib.hid hrow
  have HnF := Lib.hid hnF
  have HK1 := Lib.hid hk01
  have hn6 : nF ≤ 60000 := by omega
  rw [← hnF]
  clear hrow hk1 hev hk01 hnF hfl
  cases ho : readOf ((flat l).map ET.ev) with
  | none =>
    have HO := Lib.hid ho
    clear ho
    go_wp2_with (go_at_call 47; refine HR.out.mono ?_; rintro _ w2 ⟨hk2, hp⟩; rw [HO.out] at hp; subst hp)
    go_ret2
    refine ⟨Keeps.trans HK1.out hk2, ?_⟩
    rw [HO.out]
    exact rfl
  | some st =>
    have HO := Lib.hid ho
    clear ho
    go_wp2_with (go_at_call 47; refine HR.out.mono ?_; rintro _ w2 ⟨hk2, hp⟩; rw [HO.out] at hp; obtain ⟨L, M, wv, m, rf, rfl, hm⟩ := hp; clear hm)
    have hrow := HRow.out
    rw [← HnF.out] at hrow
    have HK2 := Lib.hid (Keeps.trans HK1.out hk2)
    rcases hrow.2 with ⟨hv, h0⟩ | ⟨g, cap, cur, hv, hgb, hg, hc1, hm1, hs1, ht1⟩
    · injection hv with hv1 hv2 hv3
      subst hv1 hv3
      subst h0
      have hfl0 : flat l = [] := List.eq_nil_of_length_eq_zero HnF.out.symm
      clear hrow hk2
      go_loopw [23] (fun q W => q = .int .i64 0 ∧ Keeps w W) (fun _ _ => 0)
      case atStart => exact ⟨rfl, HK2.out⟩
      case round =>
        obtain ⟨rfl, hk⟩ := hrel
        go_wp2_with fail
        go_ret2
        refine ⟨hk, ?_⟩
        rw [HO.out]
        exact ⟨_, rfl, none, 0, by rw [hfl0]; rfl, fun j t hj => by rw [hfl0] at hj; simp at hj⟩
    · injection hv with hv1 hv2 hv3
      subst hv1 hv3
      have hJ : EvJ w w2 g (e + 1) (flat l) := by
        refine ⟨HK2.out, Nat.le_trans hWs hgb, cur, hk2.at hg (fun x => x), fun j t hj => ?_⟩
        obtain ⟨q1, q2⟩ := flat_vals H.out t (List.mem_of_getElem? hj)
        have hkk : ∀ (b : Nat) (o : Obj), w.heap[b]? = some o → ¬ A b → w2.heap[b]? = some o ∧ ¬ b = g := fun b o hb _ => ⟨HK2.out.at hb (fun x => x), fun e => by
          have := heap_lt hb
          have h9 : (w.alloc (.cells #[.slice ps ns cs, .slice pl nl cl, .slice pi ni ci, .slice pr nr cr, .int .i64 steps] 51)).heap.size = w.heap.size + 1 := World.size_alloc _ _
          omega⟩
        refine ⟨_, _, _, _, _, fun k u hk => ?_, q1.keep hkk, q2.keep hkk⟩
        have hkl := (List.getElem?_eq_some_iff.1 hk).1
        simp only [List.length_cons, List.length_nil] at hkl
        have hjl := (List.getElem?_eq_some_iff.1 hj).1
        rw [← HnF.out] at hjl
        have h9 := hrow.cellAt (j * 8 + k) (by omega)
        rw [cell_of_block hg, evCells_get hj k (by omega)] at h9
        rw [h9]
        exact hk
      have HJ0 := Lib.hid hJ
      clear hrow hk2 hJ hg ht1 hs1
      go_loopw [23] (fun q W => ∃ i : Nat, i ≤ nF ∧ q = .int .i64 i ∧ EvJ w W g (e + 1) (flat l)) (fun q _ => nF - (intOf q).toNat)
      case atStart => exact ⟨0, Nat.zero_le _, rfl, HJ0.out⟩
      case round =>
        obtain ⟨i, hi, rfl, hJ⟩ := hrel
        have HJ := Lib.hid hJ
        by_cases hil : i < nF
        · obtain ⟨u, hu⟩ : ∃ u, (flat l)[i]? = some u := ⟨_, List.getElem?_eq_getElem (by rw [← HnF.out]; exact hil)⟩
          obtain ⟨cur2, hg2, hall⟩ := hJ.row
          obtain ⟨va, v0, v1, v2, v3, hcs, ha, hv⟩ := hall i u hu
          obtain ⟨vk, vn, vs, vp, vl, vc, he⟩ := hv.four
          injection he with e0 he
          injection he with e1 he
          injection he with e2 he
          injection he with e3 he
          subst e0 e1 e2 e3
          obtain ⟨pa, ca, rfl⟩ : ∃ p c, va = .slice p u.args.length c := by obtain ⟨p, c, h, _⟩ := ha; exact ⟨p, c, h⟩
          have y0 := cell_of_block hg2 (i * 8)
          have y1 := cell_of_block hg2 (i * 8 + 1)
          have y2 := cell_of_block hg2 (i * 8 + 2)
          have y3 := cell_of_block hg2 (i * 8 + 3)
          have y4 := cell_of_block hg2 (i * 8 + 4)
          have y5 := cell_of_block hg2 (i * 8 + 5)
          have y6 := cell_of_block hg2 (i * 8 + 6)
          have y7 := cell_of_block hg2 (i * 8 + 7)
          rw [show i * 8 = i * 8 + 0 from rfl, hcs 0 _ rfl] at y0
          rw [hcs 1 _ rfl] at y1
          rw [hcs 2 _ rfl] at y2
          rw [hcs 3 _ rfl] at y3
          rw [hcs 4 _ rfl] at y4
          rw [hcs 5 _ rfl] at y5
          rw [hcs 6 _ rfl] at y6
          rw [hcs 7 _ rfl] at y7
          simp only [Nat.add_zero] at y0
          have k6 : (i : Int) < nF := by omega
          have k7 : (0 : Int) ≤ i := by omega
          have HU := Lib.hid hu
          have HG2 := Lib.hid hg2
          have HA := Lib.hid ha
          have HV := Lib.hid hv
          have hgl := heap_lt hg2
          clear hJ hg2 hall ha hv hu hcs
          go_wp2_with fail
          have hE0 := heap_alloc_at wr (.cells #[.int .i64 u.ev.kind, .int .i64 u.ev.site, .int .i64 u.ev.addr, .slice pa u.args.length ca, .int .i64 vk, .int .i64 vn, .string vs, .slice vp vl vc] 98)
          have hkr : Keeps wr (wr.alloc (.cells #[.int .i64 u.ev.kind, .int .i64 u.ev.site, .int .i64 u.ev.addr, .slice pa u.args.length ca, .int .i64 vk, .int .i64 vn, .string vs, .slice vp vl vc] 98)) := Keeps.alloc _ _
          have hgB : g ≠ wr.heap.size := by omega
          generalize wr.alloc (.cells #[.int .i64 u.ev.kind, .int .i64 u.ev.site, .int .i64 u.ev.addr, .slice pa u.args.length ca, .int .i64 vk, .int .i64 vn, .string vs, .slice vp vl vc] 98) = W2 at hE0 hkr ⊢
          generalize wr.heap.size = B at hE0 hgB ⊢
          have HE0 := Lib.hid hE0
          have HKr := Lib.hid hkr
          have d3 := cell_of_block hE0 3
          have d4 := cell_of_block hE0 4
          have d5 := cell_of_block hE0 5
          have d6 := cell_of_block hE0 6
          have d7 := cell_of_block hE0 7
          simp at d3 d4 d5 d6 d7
          have hBg : B ≠ g := fun e => hgB e.symm
          have H53 := Lib.hid (fun (W : World) (hW : Keeps W2 W) => copiedAll_of (e + 1) (copied_of (e + 1)) W _ u.args _ (HA.out.keep (keeps_hk (Keeps.trans hkr hW))))
          have H54 := Lib.hid (fun (W : World) (hW : Keeps W2 W) => copied_of (e + 1) W _ u.val _ (HV.out.keep (keeps_hk (Keeps.trans hkr hW))))
          have dd3 : W2.drew.cell? ⟨B, 3, none⟩ = _ := d3
          have dd4 : W2.drew.cell? ⟨B, 4, none⟩ = _ := d4
          have dd5 : W2.drew.cell? ⟨B, 5, none⟩ = _ := d5
          have dd6 : W2.drew.cell? ⟨B, 6, none⟩ = _ := d6
          have dd7 : W2.drew.cell? ⟨B, 7, none⟩ = _ := d7
          clear hE0 hkr y0 y1 y2
          have hcl : i * 8 + 7 < cur2.size := by
            have h9 := cell_of_block HG2.out (i * 8 + 7)
            rw [y7] at h9
            exact (Array.getElem?_eq_some_iff.1 h9.symm).1
          have HCl := Lib.hid hcl
          clear y3 y4 y5 y6 y7 hcl
          go_region_held3 (fun W' => W'.cell? ⟨B, 3, none⟩ = some (.slice pa u.args.length ca) ∧ W'.cell? ⟨B, 4, none⟩ = some (.int .i64 vk) ∧ W'.cell? ⟨B, 5, none⟩ = some (.int .i64 vn) ∧ W'.cell? ⟨B, 6, none⟩ = some (.string vs) ∧ W'.cell? ⟨B, 7, none⟩ = some (.slice vp vl vc))
            (first | with_reducible exact ⟨(cell_put5 hBg).trans q3, (cell_put5 hBg).trans q4, (cell_put5 hBg).trans q5, (cell_put5 hBg).trans q6, (cell_put5 hBg).trans q7⟩ | with_reducible exact ⟨(cell_put1 hBg).trans q3, (cell_put1 hBg).trans q4, (cell_put1 hBg).trans q5, (cell_put1 hBg).trans q6, (cell_put1 hBg).trans q7⟩ | with_reducible exact ⟨q3, q4, q5, q6, q7⟩ | with_reducible exact ⟨cell_keeps hk3 dd3, cell_keeps hk3 dd4, cell_keeps hk3 dd5, cell_keeps hk3 dd6, cell_keeps hk3 dd7⟩ | with_reducible exact ⟨dd3, dd4, dd5, dd6, dd7⟩ | exact ⟨d3, d4, d5, d6, d7⟩)
            (first
              | (go_at_call 53; refine (H53.out _ (Keeps.drew _)).mono ?_; rintro _ w3 ⟨v', rfl, hrs, hk3⟩; obtain ⟨pa', ca', rfl⟩ : ∃ p c, v' = .slice p u.args.length c := (by obtain ⟨p, c, h, _⟩ := hrs; exact ⟨p, c, h⟩))
              | (go_at_call 54; refine (H54.out _ (Keeps.trans (Keeps.drew _) hk3)).mono ?_; rintro _ w4 ⟨cs', rfl, hrv, hk4⟩; obtain ⟨k9, m9, t9, p9, n9, l9, rfl⟩ := hrv.four; have hk24 := Keeps.trans hk3 hk4; have q3 := cell_keeps hk24 d3; have q4 := cell_keeps hk24 d4; have q5 := cell_keeps hk24 d5; have q6 := cell_keeps hk24 d6; have q7 := cell_keeps hk24 d7; have hg4 := hk24.at (HKr.out.at HG2.out (fun x => x)) (fun x => x); have y3 := cell_of_block hg4 (i * 8 + 3); have y4 := cell_of_block hg4 (i * 8 + 4); have y5 := cell_of_block hg4 (i * 8 + 4 + 1); have y6 := cell_of_block hg4 (i * 8 + 4 + 2); have y7 := cell_of_block hg4 (i * 8 + 4 + 3); rw [Array.getElem?_eq_getElem (by have := HCl.out; omega)] at y3 y4 y5 y6 y7; have f3 := free_of_block hg4 (i * 8 + 3); have f4 := free_of_block hg4 (i * 8 + 4); have f5 := free_of_block hg4 (i * 8 + 4 + 1); have f6 := free_of_block hg4 (i * 8 + 4 + 2); have f7 := free_of_block hg4 (i * 8 + 4 + 3)))
          all_goals
            have hs2 : wr.heap.size ≤ W2.drew.heap.size := HKr.out.size
            have hs3 : W2.drew.heap.size ≤ w3.heap.size := hk3.size
            have hstep := HJ.out.step HU.out (Keeps.trans HKr.out (Keeps.trans (Keeps.drew W2) hk24)) (hrs.keep (A' := fun b => b < wr.heap.size) fun b o hb hA => ⟨hk4.at hb (fun x => x), fun h => hA (by omega)⟩) (hrv.keep (A' := fun b => b < wr.heap.size) fun b o hb hA => ⟨hb, fun h => hA (by omega)⟩)
            have HSt := Lib.hid hstep
            clear hstep hrs hrv hk3 hk4 hk24 q3 q4 q5 q6 q7 hg4 y3 y4 y5 y6 y7 f3 f4 f5 f6 f7 d3 d4 d5 d6 d7 dd3 dd4 dd5 dd6 dd7
            go_wp2_with fail
            go_roundw
            case rel => exact ⟨i + 1, by omega, by go_num, HSt.out⟩
            case measure => simp [intOf] <;> omega
        · obtain rfl : i = nF := by omega
          have k6 : ¬ (i : Int) < i := by omega
          clear hJ
          go_wp2_with fail
          go_ret2
          refine ⟨HJ.out.kept, ?_⟩
          rw [HO.out]
          refine ⟨_, rfl, ?_⟩
          have h9 := HJ.out.done (c := c1)
          rw [← HnF.out] at h9
          exact h9
end Go.Proofs.YtbhiaeciiphelaaGreatDoor
