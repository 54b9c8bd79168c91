/-
  The reference's functions Delete, DeleteBetween and Insert. Conditions: each theorem's own hypotheses on memory.
-/
import Derived.Test.YtijceljhpbdnnaaRefC
import Derived.Deep.RegionHeld3
namespace Go.Proofs.Ytijceljhpbdnnaa
open Go.RowKit

/-- The world in which a function of the reference begins to append: its box, its result, At's box. -/
abbrev refW (w : World) (g n cap made : Nat) : World := ((w.alloc (rbox g n cap made)).alloc (.cells #[.slice none 0 0, .int .i64 0] 30)).alloc (rbox g n cap made)
/-- What is held of the world behind an append. -/
structure RefAt (w : World) (g cap n made : Nat) (ids : List Nat) (g1 cap1 : Nat) (xs : List Nat) (w1 : World) : Prop where
  kept : Kept (fun _ => False) w w1
  box : w1.heap[w.heap.size]? = some (rbox g n cap made)
  res : w1.heap[w.heap.size + 1]? = some (.cells #[.slice none 0 0, .int .i64 0] 30)
  lies : Lies w1 g cap ids
  old : g < w.heap.size
  row : w1.ownsRow (w.heap.size + 3) 34 1 (.slice (some ⟨g1, 0, none⟩) xs.length cap1) xs.length (nums xs)
  big : w.heap.size + 3 ≤ w1.heap.size
theorem refW_at (w : World) (g n cap made : Nat) : (refW w g n cap made).heap[w.heap.size]? = some (rbox g n cap made) ∧ (refW w g n cap made).heap[w.heap.size + 1]? = some (.cells #[.slice none 0 0, .int .i64 0] 30) := by
  have h1 : (w.alloc (rbox g n cap made)).heap[w.heap.size]? = some (rbox g n cap made) := heap_alloc_at _ _
  have h2 : ((w.alloc (rbox g n cap made)).alloc (.cells #[.slice none 0 0, .int .i64 0] 30)).heap[w.heap.size + 1]? = some (.cells #[.slice none 0 0, .int .i64 0] 30) := by
    have := heap_alloc_at (w.alloc (rbox g n cap made)) (.cells #[.slice none 0 0, .int .i64 0] 30)
    rwa [World.size_alloc] at this
  exact ⟨heap_alloc_old _ (heap_alloc_old _ h1), heap_alloc_old _ h2⟩
theorem second_at (w : World) (o o2 : Obj) : ((w.alloc o).alloc o2).heap[w.heap.size + 1]? = some o2 := by
  have := heap_alloc_at (w.alloc o) o2
  rwa [World.size_alloc] at this
theorem refW_kept (w : World) (g n cap made : Nat) : Kept (fun _ => False) w (refW w g n cap made) := (((Kept.refl (fun _ => False) w).alloc _).alloc _).alloc _
theorem refW_size (w : World) (g n cap made : Nat) : (refW w g n cap made).heap.size = w.heap.size + 3 := by simp [World.size_alloc]
theorem RefAt.grow {w : World} {g cap n made : Nat} {ids : List Nat} {g1 cap1 g2 cap2 : Nat} {xs ys : List Nat} {w1 w2 w3 : World} {v : Value} (h : RefAt w g cap n made ids g1 cap1 xs w1) (h12 : Kept (fun _ => False) w1 w2)
    (hL : Longer w2 w3 (w.heap.size + 3) v g2 cap2 ys) (hv : v.ownBlock = some g1) : RefAt w g cap n made ids g2 cap2 ys w3 := by
  have hg1 : w.heap.size + 3 ≤ g1 := by
    rcases h.row.2 with ⟨hv, _⟩ | ⟨q, c, cur, hv, hb, _⟩
    · cases hv
    · simp only [Value.slice.injEq, Option.some.injEq, Addr.mk.injEq] at hv
      omega
  have hsz := h12.size
  have hb : ∀ k, k < w.heap.size + 3 → k < w1.heap.size → w3.heap[k]? = w1.heap[k]? := by
    intro k hk hk1
    rw [hL.grow.block k (by omega) (by rw [hv]; simp; omega)]
    exact h12.block k hk1 (fun x => x)
  have hbig := h.big
  have hbig3 := hL.grow.size
  have hg := h.lies.lt
  refine ⟨⟨?_, ?_, ?_, ?_, ?_⟩, ?_, ?_, h.lies.same (hb g (by have := h.old; omega) hg), h.old, hL.row, by omega⟩
  · rw [hL.grow.os, h12.os, h.kept.os]
  · rw [hL.grow.tape, h12.tape, h.kept.tape]
  · rw [hL.grow.output, h12.output, h.kept.output]
  · omega
  · intro k hk hn
    rw [hb k (by omega) (by omega)]
    exact h.kept.block k hk hn
  · rw [hb _ (by omega) (by omega)]; exact h.box
  · rw [hb _ (by omega) (by omega)]; exact h.res
theorem RefAt.first {w W0 : World} {g cap n made : Nat} {ids : List Nat} {g1 cap1 : Nat} {xs : List Nat} {w1 : World} (h : Lies w g cap ids) (hK : Kept (fun _ => False) w W0) (hbox : W0.heap[w.heap.size]? = some (rbox g n cap made))
    (hres : W0.heap[w.heap.size + 1]? = some (.cells #[.slice none 0 0, .int .i64 0] 30)) {H : Nat} (hH : W0.heap.size = H) (hH3 : w.heap.size + 3 ≤ H) (hL : Longer (W0.alloc (.cells #[] 34)) w1 (w.heap.size + 3) (.slice (some ⟨H, 0, none⟩) 0 0) g1 cap1 xs) :
    RefAt w g cap n made ids g1 cap1 xs w1 := by
  have hb : ∀ k, k < w.heap.size + 3 → w1.heap[k]? = W0.heap[k]? := by
    intro k hk
    rw [hL.grow.block k (by rw [World.size_alloc]; omega) (by simp [Value.ownBlock]; omega)]
    exact _root_.Go.heap_alloc_old _ _ (by omega)
  have hg := h.lt
  have hold : ∀ k, k < w.heap.size → w1.heap[k]? = w.heap[k]? := by
    intro k hk
    rw [hb k (by omega)]
    exact hK.block k hk (fun x => x)
  have h3 := hL.grow.size
  rw [World.size_alloc] at h3
  refine ⟨⟨hL.grow.os.trans hK.os, hL.grow.tape.trans hK.tape, hL.grow.output.trans hK.output, by omega, fun k hk _ => hold k hk⟩, ?_, ?_, h.same (hold g hg), hg, hL.row, by omega⟩
  · rw [hb _ (by omega)]; exact hbox
  · rw [hb _ (by omega)]; exact hres
theorem empty_row (w : World) {B base : Nat} (hB : w.heap.size = B) (hb : base ≤ B) : (w.alloc (.cells #[] 34)).ownsRow base 34 1 (.slice (some ⟨B, 0, none⟩) 0 0) ([] : List Nat).length (nums []) := by
  subst hB
  exact ⟨rfl, .inr ⟨_, 0, #[], rfl, hb, heap_alloc_at _ _, Nat.le_refl _, Nat.zero_le _, rfl, rfl⟩⟩
/-- What the walk needs of the world in which it stands. -/
theorem RefAt.cells {w : World} {g cap n made : Nat} {ids : List Nat} {g1 cap1 : Nat} {xs : List Nat} {w1 : World} (h : RefAt w g cap n made ids g1 cap1 xs w1) :
    w1.cell? ⟨w.heap.size, 0, none⟩ = some (.slice (some ⟨g, 0, none⟩) n cap) ∧ w1.cell? ⟨w.heap.size, 1, none⟩ = some (.int .i64 made) ∧
    w1.cell? ⟨w.heap.size + 1, 0, none⟩ = some (.slice none 0 0) ∧ w1.cell? ⟨w.heap.size + 1, 1, none⟩ = some (.int .i64 0) ∧ w1.frozen? ⟨w.heap.size + 1, 0, none⟩ = false ∧ w1.frozen? ⟨w.heap.size + 1, 1, none⟩ = false := by
  have a := h.box
  have b := h.res
  refine ⟨?_, ?_, ?_, ?_, ?_, ?_⟩
  · simp only [World.cell?]; rw [a]; rfl
  · simp only [World.cell?]; rw [a]; rfl
  · simp only [World.cell?]; rw [b]; rfl
  · simp only [World.cell?]; rw [b]; rfl
  · simp only [World.frozen?]; rw [b]; rfl
  · simp only [World.frozen?]; rw [b]; rfl
/-- The result is stored. -/
theorem RefAt.done {w : World} {g cap n made : Nat} {ids : List Nat} {g1 cap1 : Nat} {xs : List Nat} {w1 : World} (h : RefAt w g cap n made ids g1 cap1 xs w1) (hx : xs.length ≤ 100000) (x y : Value) :
    (((w1.setCell ⟨w.heap.size + 1, 0, none⟩ x).setCell ⟨w.heap.size + 1, 1, none⟩ y).heap[w.heap.size + 1]? = some (.cells #[x, y] 30)) ∧
    Lies ((w1.setCell ⟨w.heap.size + 1, 0, none⟩ x).setCell ⟨w.heap.size + 1, 1, none⟩ y) g1 cap1 xs ∧ w.heap.size ≤ g1 ∧ Kept (fun _ => False) w ((w1.setCell ⟨w.heap.size + 1, 0, none⟩ x).setCell ⟨w.heap.size + 1, 1, none⟩ y) := by
  have hl := lies_of_row h.row hx
  have hg1 : w.heap.size + 3 ≤ g1 := by
    rcases h.row.2 with ⟨hv, _⟩ | ⟨q, c, cur, hv, hb, _⟩
    · cases hv
    · simp only [Value.slice.injEq, Option.some.injEq, Addr.mk.injEq] at hv
      omega
  refine ⟨?_, ?_, by omega, ?_⟩
  · have e := heap_set_same (o := 0) h.res x
    have e2 := heap_set_same (o := 1) e y
    exact e2
  · refine hl.same ?_
    rw [heap_set_other _ (by simp; omega), heap_set_other _ (by simp; omega)]
  · exact (h.kept.setCell (fun (hh : w.heap.size + 1 < w.heap.size) => absurd hh (by omega)) _).setCell (fun (hh : w.heap.size + 1 < w.heap.size) => absurd hh (by omega)) _
set_option maxHeartbeats 1000000 in
theorem ref_delete_yes {w : World} {g cap made : Nat} {ids : List Nat} {a : Int} {i : Nat} (h : Lies w g cap ids) (ha : AtIs g cap made ids a i) (hi : 1 ≤ i) (hil : i < ids.length) :
    Calls Try.prog 47 #[rlist g ids.length cap made, .int .i64 a] w fun e w' => ∃ g' cap', e = .returned (.tuple #[rlist g' (ids.length - 1) cap' made, .int .i64 0]) ∧ Lies w' g' cap' (ids.take i ++ ids.drop (i + 1)) ∧ w.heap.size ≤ g' ∧ Kept (fun _ => False) w w' := by
  obtain ⟨n, hn⟩ : ∃ n, n = ids.length := ⟨_, rfl⟩
  rw [← hn]
  have H1 := Lib.hid fun o p => at_hid ha (lies_alloc (lies_alloc h o) p) hn
  have hn5 : n ≤ 100000 := by rw [hn]; exact h.len
  have hnc : n ≤ cap := by rw [hn]; exact h.fit
  have hcm : cap ≤ maxLen := h.max
  have hin : i < n := by rw [hn]; exact hil
  have H := Lib.hid h
  have Hn := Lib.hid hn
  clear ha h hn hil
  have hc : ∀ (j y : Nat), (ids.take i)[j]? = some y → ((refW w g n cap made).alloc (.cells #[] 34)).cell? ⟨g, 0 + j, none⟩ = some (.int .i64 y) := by
    intro j y hj
    rw [Nat.zero_add]
    refine (lies_alloc (lies_alloc (lies_alloc (lies_alloc H.out _) _) _) _).cell j y ?_
    rw [List.getElem?_take] at hj
    split at hj
    · exact hj
    · cases hj
  have hl : (ids.take i).length = i := by rw [List.length_take, ← Hn.out]; omega
  have HC := Lib.hid hc
  have HLn := Lib.hid hl
  clear hc hl
  unfold maxLen at hcm
  go_enter Try.func47, Try.ntmps47
  go_wp2_with fail
  refine (H1.out _ _).mono ?_
  rintro _ w0 ⟨rfl, rfl⟩
  go_wp2_with (at_builtin; (refine wpList_append_nums rfl (.tmp 14) (.tmp 18) rfl (w.heap.size + 3) (.slice (some ⟨w.heap.size + 3, 0, none⟩) 0 0) [] rfl (empty_row (refW w g n cap made) (by simp [World.size_alloc]) (Nat.le_refl _)) g 0 i cap (ids.take i) rfl HLn.out HC.out (by rw [List.nil_append, HLn.out]; exact hi) (by rw [List.nil_append, HLn.out]; omega) (by simp [World.size_alloc]) i (by rw [List.nil_append, HLn.out]) ?_; intro g1 cap1 w1 hL; rw [List.nil_append] at hL; have hR := RefAt.first (n := n) (ids := ids) H.out (refW_kept w g n cap made) (refW_at w g n cap made).1 (refW_at w g n cap made).2 (refW_size w g n cap made) (Nat.le_refl _) hL; obtain ⟨c1, c2, c3, c4, c5, c6⟩ := hR.cells; have HR := Lib.hid hR; clear hL hR))
  have b0 : (0 : Int) ≤ (i : Int) + 1 := by omega
  have b1 : (i : Int) + 1 ≤ (n : Int) := by omega
  have b2 : (n : Int) ≤ (cap : Int) := by omega
  have b3 : IntKind.i64.wrap ((i : Int) + 1) = (i : Int) + 1 := IntWalk.i64_in _ (by omega)
  have b4 : ((i : Int) + 1).toNat = i + 1 := by omega
  have b5 : (i : Int) + 1 ≤ (cap : Int) := by omega
  have hrow : w1.ownsRow (w.heap.size + 3) 34 1 (.slice (some ⟨g1, 0, none⟩) i cap1) (ids.take i).length (nums (ids.take i)) := by
    have := HR.out.row
    rw [HLn.out] at this ⊢
    exact this
  have hpart : ∀ (j y : Nat), (ids.drop (i + 1))[j]? = some y → w1.cell? ⟨g, i + 1 + j, none⟩ = some (.int .i64 y) := by
    intro j y hj
    rw [List.getElem?_drop] at hj
    exact HR.out.lies.cell _ _ hj
  have hnl : (ids.drop (i + 1)).length = n - (i + 1) := by rw [List.length_drop, ← Hn.out]
  have hN : (ids.take i ++ ids.drop (i + 1)).length = n - 1 := by rw [List.length_append, HLn.out, hnl]; omega
  have HROW := Lib.hid hrow
  have HPT := Lib.hid hpart
  have HNL := Lib.hid hnl
  have HNN := Lib.hid hN
  clear hrow hpart hnl hN
  by_cases hcap : cap = i + 1
  · obtain rfl : n = i + 1 := by omega
    subst hcap
    have hnil : ids.drop (i + 1) = [] := List.drop_eq_nil_of_le (by rw [← Hn.out]; omega)
    have hN2 : (ids.take i ++ []).length = i := by rw [List.append_nil, HLn.out]
    have HNIL := Lib.hid hnil
    have HN2 := Lib.hid hN2
    clear hnil hN2
    go_region_held3 (fun w' => w'.cell? ⟨w.heap.size, 0, none⟩ = some (.slice (some ⟨g, 0, none⟩) (i + 1) (i + 1)) ∧ w'.cell? ⟨w.heap.size, 1, none⟩ = some (.int .i64 made)) (first | exact ⟨c1, c2⟩ | exact ⟨d1, d2⟩ | go_keep)
      (first | ((refine step_append_nums rfl (.tmp 20) (.tmp 25) rfl (w.heap.size + 3) (.slice (some ⟨g1, 0, none⟩) i cap1) (ids.take i) rfl HROW.out g 0 0 0 [] rfl rfl (by simp) (by rw [HN2.out]; omega) (by rw [HN2.out]; omega) HR.out.big _ HN2.out.symm ?_; intro g2 cap2 w2 hL2; have hR2 := HR.out.grow (Kept.drew (Kept.refl _ _)) hL2 rfl; obtain ⟨d1, d2, d3, d4, d5, d6⟩ := hR2.cells; have HR2 := Lib.hid hR2; clear hL2 hR2)))
    go_wp2
    obtain ⟨e1, e2, e3, e4⟩ := HR2.out.done (by rw [HN2.out]; omega) (.slice (some ⟨g2, 0, none⟩) i cap2) (.int .i64 made)
    refine bodyPost_ret (results_row2 rfl _ _ (w.heap.size + 1) (.slice (some ⟨g2, 0, none⟩) i cap2) (.int .i64 made) rfl e1) rfl ?_
    exact ⟨g2, cap2, rfl, by rw [HNIL.out]; exact e2, e3, e4⟩
  · go_region_held3 (fun w' => w'.cell? ⟨w.heap.size, 0, none⟩ = some (.slice (some ⟨g, 0, none⟩) n cap) ∧ w'.cell? ⟨w.heap.size, 1, none⟩ = some (.int .i64 made)) (first | exact ⟨c1, c2⟩ | exact ⟨d1, d2⟩ | go_keep)
      (first | ((refine step_append_nums rfl (.tmp 20) (.tmp 25) rfl (w.heap.size + 3) (.slice (some ⟨g1, 0, none⟩) i cap1) (ids.take i) rfl HROW.out g (i + 1) _ _ (ids.drop (i + 1)) rfl HNL.out HPT.out (by rw [HNN.out]; omega) (by rw [HNN.out]; omega) HR.out.big (n - 1) HNN.out.symm ?_; intro g2 cap2 w2 hL2; have hR2 := HR.out.grow (Kept.drew (Kept.refl _ _)) hL2 rfl; obtain ⟨d1, d2, d3, d4, d5, d6⟩ := hR2.cells; have HR2 := Lib.hid hR2; clear hL2 hR2)))
    go_wp2
    obtain ⟨e1, e2, e3, e4⟩ := HR2.out.done (by rw [HNN.out]; omega) (.slice (some ⟨g2, 0, none⟩) (n - 1) cap2) (.int .i64 made)
    refine bodyPost_ret (results_row2 rfl _ _ (w.heap.size + 1) (.slice (some ⟨g2, 0, none⟩) (n - 1) cap2) (.int .i64 made) rfl e1) rfl ?_
    exact ⟨g2, cap2, rfl, e2, e3, e4⟩
set_option maxHeartbeats 1000000 in
theorem ref_delete_no {w : World} {g cap made : Nat} {ids : List Nat} {a r : Int} (h : Lies w g cap ids) (ha : AtIs g cap made ids a r) (hr : r < 1) :
    Calls Try.prog 47 #[rlist g ids.length cap made, .int .i64 a] w fun e w' => e = .returned (.tuple #[rlist g ids.length cap made, .int .i64 180]) ∧ Kept (fun _ => False) w w' := by
  obtain ⟨n, hn⟩ : ∃ n, n = ids.length := ⟨_, rfl⟩
  rw [← hn]
  have H1 := Lib.hid fun o p => at_hid ha (lies_alloc (lies_alloc h o) p) hn
  clear ha h hn
  go_enter Try.func47, Try.ntmps47
  go_wp2_with fail
  refine (H1.out _ _).mono ?_
  rintro _ w0 ⟨rfl, rfl⟩
  go_wp2
  have e2 := heap_alloc_old (rbox g n cap made) (second_at w (rbox g n cap made) (rbox g n cap made))
  refine bodyPost_ret (results_row2 rfl _ _ (w.heap.size + 1) (.slice (some ⟨g, 0, none⟩) n cap) (.int .i64 made) rfl e2) rfl ?_
  exact ⟨rfl, (((Kept.refl _ w).alloc _).alloc _).alloc _⟩
set_option maxHeartbeats 1000000 in
theorem ref_between_no {w : World} {g cap made : Nat} {ids : List Nat} {a b ra rb : Int} (h : Lies w g cap ids) (ha : AtIs g cap made ids a ra) (hb : AtIs g cap made ids b rb) (hr : ra < 0 ∨ rb < 0) :
    Calls Try.prog 48 #[rlist g ids.length cap made, .int .i64 a, .int .i64 b] w fun e w' => e = .returned (.tuple #[rlist g ids.length cap made, .int .i64 0, .int .i64 180]) ∧ Kept (fun _ => False) w w' := by
  obtain ⟨n, hn⟩ : ∃ n, n = ids.length := ⟨_, rfl⟩
  rw [← hn]
  have H1 := Lib.hid fun o p => at_hid ha (lies_alloc (lies_alloc h o) p) hn
  have H2 := Lib.hid fun o p q => at_hid hb (lies_alloc (lies_alloc (lies_alloc h o) p) q) hn
  clear ha hb h hn
  have e2 := heap_alloc_old (rbox g n cap made) (heap_alloc_old (rbox g n cap made) (second_at w (rbox g n cap made) (rbox g n cap made)))
  have HE := Lib.hid e2
  clear e2
  rcases Int.lt_or_le ra 0 with h1 | h1
  · clear hr
    go_enter Try.func48, Try.ntmps48
    go_wp2_with fail
    refine (H1.out _ _).mono ?_
    rintro _ w0 ⟨rfl, rfl⟩
    go_wp2_with fail
    refine (H2.out _ _ _).mono ?_
    rintro _ w0 ⟨rfl, rfl⟩
    go_wp2
    refine bodyPost_ret (results_row3 rfl _ _ (w.heap.size + 1) (.slice (some ⟨g, 0, none⟩) n cap) (.int .i64 made) rfl HE.out) rfl ?_
    exact ⟨rfl, ((((Kept.refl _ w).alloc _).alloc _).alloc _).alloc _⟩
  · have h2 : rb < 0 := by omega
    clear hr
    go_enter Try.func48, Try.ntmps48
    go_wp2_with fail
    refine (H1.out _ _).mono ?_
    rintro _ w0 ⟨rfl, rfl⟩
    go_wp2_with fail
    refine (H2.out _ _ _).mono ?_
    rintro _ w0 ⟨rfl, rfl⟩
    go_wp2
    refine bodyPost_ret (results_row3 rfl _ _ (w.heap.size + 1) (.slice (some ⟨g, 0, none⟩) n cap) (.int .i64 made) rfl HE.out) rfl ?_
    exact ⟨rfl, ((((Kept.refl _ w).alloc _).alloc _).alloc _).alloc _⟩
set_option maxHeartbeats 1000000 in
theorem ref_between_none {w : World} {g cap made : Nat} {ids : List Nat} {a b : Int} {i k : Nat} (h : Lies w g cap ids) (ha : AtIs g cap made ids a i) (hb : AtIs g cap made ids b k) (hr : k ≤ i) :
    Calls Try.prog 48 #[rlist g ids.length cap made, .int .i64 a, .int .i64 b] w fun e w' => e = .returned (.tuple #[rlist g ids.length cap made, .int .i64 0, .int .i64 3]) ∧ Kept (fun _ => False) w w' := by
  obtain ⟨n, hn⟩ : ∃ n, n = ids.length := ⟨_, rfl⟩
  rw [← hn]
  have H1 := Lib.hid fun o p => at_hid ha (lies_alloc (lies_alloc h o) p) hn
  have H2 := Lib.hid fun o p q => at_hid hb (lies_alloc (lies_alloc (lies_alloc h o) p) q) hn
  clear ha hb h hn
  have e2 := heap_alloc_old (rbox g n cap made) (heap_alloc_old (rbox g n cap made) (second_at w (rbox g n cap made) (rbox g n cap made)))
  have HE := Lib.hid e2
  clear e2
  go_enter Try.func48, Try.ntmps48
  go_wp2_with fail
  refine (H1.out _ _).mono ?_
  rintro _ w0 ⟨rfl, rfl⟩
  go_wp2_with fail
  refine (H2.out _ _ _).mono ?_
  rintro _ w0 ⟨rfl, rfl⟩
  go_wp2
  refine bodyPost_ret (results_row3 rfl _ _ (w.heap.size + 1) (.slice (some ⟨g, 0, none⟩) n cap) (.int .i64 made) rfl HE.out) rfl ?_
  exact ⟨rfl, ((((Kept.refl _ w).alloc _).alloc _).alloc _).alloc _⟩
set_option maxHeartbeats 1000000 in
theorem ref_insert_no {w : World} {g cap made : Nat} {ids : List Nat} {a : Int} (h : Lies w g cap ids) (ha : AtIs g cap made ids a (-1)) :
    Calls Try.prog 46 #[rlist g ids.length cap made, .int .i64 a] w fun e w' => e = .returned (.tuple #[rlist g ids.length cap made, .int .i64 0, .int .i64 180]) ∧ Kept (fun _ => False) w w' := by
  obtain ⟨n, hn⟩ : ∃ n, n = ids.length := ⟨_, rfl⟩
  rw [← hn]
  have H1 := Lib.hid fun o p => at_hid ha (lies_alloc (lies_alloc h o) p) hn
  clear ha h hn
  go_enter Try.func46, Try.ntmps46
  go_wp2_with fail
  refine (H1.out _ _).mono ?_
  rintro _ w0 ⟨rfl, rfl⟩
  go_wp2
  have e2 := heap_alloc_old (rbox g n cap made) (second_at w (rbox g n cap made) (rbox g n cap made))
  refine bodyPost_ret (results_row3 rfl _ _ (w.heap.size + 1) (.slice (some ⟨g, 0, none⟩) n cap) (.int .i64 made) rfl e2) rfl ?_
  exact ⟨rfl, (((Kept.refl _ w).alloc _).alloc _).alloc _⟩
set_option maxHeartbeats 1000000 in
theorem ref_insert_long {w : World} {g cap made : Nat} {ids : List Nat} {a : Int} {i : Nat} (h : Lies w g cap ids) (ha : AtIs g cap made ids a i) (hm : 100000 ≤ made) :
    Calls Try.prog 46 #[rlist g ids.length cap made, .int .i64 a] w fun e w' => e = .returned (.tuple #[rlist g ids.length cap made, .int .i64 0, .int .i64 2]) ∧ Kept (fun _ => False) w w' := by
  obtain ⟨n, hn⟩ : ∃ n, n = ids.length := ⟨_, rfl⟩
  rw [← hn]
  have H1 := Lib.hid fun o p => at_hid ha (lies_alloc (lies_alloc h o) p) hn
  have hmd : decide ((100000 : Int) ≤ (made : Int)) = true := decide_eq_true (by omega)
  clear ha h hn hm
  go_enter Try.func46, Try.ntmps46
  go_wp2_with fail
  refine (H1.out _ _).mono ?_
  rintro _ w0 ⟨rfl, rfl⟩
  go_wp2
  have e2 := heap_alloc_old (rbox g n cap made) (second_at w (rbox g n cap made) (rbox g n cap made))
  refine bodyPost_ret (results_row3 rfl _ _ (w.heap.size + 1) (.slice (some ⟨g, 0, none⟩) n cap) (.int .i64 made) rfl e2) rfl ?_
  exact ⟨rfl, (((Kept.refl _ w).alloc _).alloc _).alloc _⟩
end Go.Proofs.Ytijceljhpbdnnaa
