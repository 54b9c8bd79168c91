/-
  The reference's Insert and DeleteBetween where they do their work. Conditions: each theorem's own hypotheses on memory.
-/
import Derived.Test.YtijceljhpbdnnaaRefD
namespace Go.Proofs.Ytijceljhpbdnnaa
open Go.RowKit

theorem part_take {w0 : World} {g cap : Nat} {ids : List Nat} (H : Lies w0 g cap ids) (i : Nat) : ∀ (j y : Nat), (ids.take i)[j]? = some y → w0.cell? ⟨g, 0 + j, none⟩ = some (.int .i64 y) := by
  intro j y hj
  rw [Nat.zero_add]
  refine H.cell j y ?_
  rw [List.getElem?_take] at hj
  split at hj
  · exact hj
  · cases hj
theorem part_drop {w0 : World} {g cap : Nat} {ids : List Nat} (H : Lies w0 g cap ids) (i : Nat) : ∀ (j y : Nat), (ids.drop i)[j]? = some y → w0.cell? ⟨g, i + j, none⟩ = some (.int .i64 y) := by
  intro j y hj
  rw [List.getElem?_drop] at hj
  exact H.cell _ _ hj
theorem row_take {w1 : World} {base g n cap : Nat} {xs : List Nat} (h : w1.ownsRow base 34 1 (.slice (some ⟨g, 0, none⟩) xs.length cap) xs.length (nums xs)) (hn : xs.length = n) : w1.ownsRow base 34 1 (.slice (some ⟨g, 0, none⟩) n cap) xs.length (nums xs) := by
  subst hn; exact h
theorem one_num (w1 : World) (made : Nat) : ∀ (j y : Nat), [made][j]? = some y → (w1.alloc (.cells #[.int .i64 (made : Int)] 34)).cell? ⟨w1.heap.size, 0 + j, none⟩ = some (.int .i64 y) := by
  intro j y hj
  cases j with
  | zero =>
    simp at hj
    subst hj
    have := heap_alloc_at w1 (.cells #[.int .i64 (made : Int)] 34)
    simp only [World.cell?]
    rw [this]
    rfl
  | succ j => simp at hj
set_option maxHeartbeats 1000000 in
theorem ref_insert_yes {w : World} {g cap made : Nat} {ids : List Nat} {a : Int} {i : Nat} (h : Lies w g cap ids) (ha : AtIs g cap made ids a i) (hil : i < ids.length) (hn9 : ids.length < 100000) (hm : made < 100000) :
    Calls Try.prog 46 #[rlist g ids.length cap made, .int .i64 a] w fun e w' => ∃ g' cap', e = .returned (.tuple #[rlist g' (ids.length + 1) cap' (made + 1), .int .i64 made, .int .i64 0]) ∧ Lies w' g' cap' (putId ids i made) ∧ w.heap.size ≤ g' ∧ Kept (fun _ => False) w w' := by
  obtain ⟨n, hn⟩ : ∃ n, n = ids.length := ⟨_, rfl⟩
  rw [← hn] at hn9 ⊢
  have H1 := Lib.hid fun o p => at_hid ha (lies_alloc (lies_alloc h o) p) hn
  have hnc : n ≤ cap := by rw [hn]; exact h.fit
  have hcm : cap ≤ maxLen := h.max
  have hin : i < n := by rw [hn]; exact hil
  have H := Lib.hid h
  have Hn := Lib.hid hn
  have hmd : decide ((100000 : Int) ≤ (made : Int)) = false := decide_eq_false (by omega)
  have HM := Lib.hid hm
  clear ha h hn hil hm
  have hl : (ids.take (i + 1)).length = i + 1 := by rw [List.length_take, ← Hn.out]; omega
  have HLn := Lib.hid hl
  clear hl
  unfold maxLen at hcm
  have b3 : IntKind.i64.wrap ((i : Int) + 1) = (i : Int) + 1 := IntWalk.i64_in _ (by omega)
  have b4 : ((i : Int) + 1).toNat = i + 1 := by omega
  go_enter Try.func46, Try.ntmps46
  go_wp2_with fail
  refine (H1.out _ _).mono ?_
  rintro _ w0 ⟨rfl, rfl⟩
  go_wp2_with (first
    | (at_builtin; refine wpList_append_nums rfl (.tmp 22) (.tmp 27) rfl (w.heap.size + 3) (.slice (some ⟨w.heap.size + 3, 0, none⟩) 0 0) [] rfl (empty_row (refW w g n cap made) (by simp [World.size_alloc]) (Nat.le_refl _)) g 0 (i + 1) cap (ids.take (i + 1)) rfl HLn.out (part_take (lies_alloc (lies_alloc (lies_alloc (lies_alloc H.out _) _) _) _) (i + 1)) (by rw [List.nil_append, HLn.out]; omega) (by rw [List.nil_append, HLn.out]; omega) (by simp [World.size_alloc]) (i + 1) (by rw [List.nil_append, HLn.out]) ?_; intro g1 cap1 w1 hL; rw [List.nil_append] at hL; have hR := RefAt.first (n := n) (ids := ids) H.out (refW_kept w g n cap made) (refW_at w g n cap made).1 (refW_at w g n cap made).2 (refW_size w g n cap made) (Nat.le_refl _) hL; obtain ⟨c1, c2, c3, c4, c5, c6⟩ := hR.cells; have HR := Lib.hid hR; clear hL hR)
    | (at_builtin; refine wpList_append_nums rfl (.tmp 29) (.tmp 31) rfl (w.heap.size + 3) (.slice (some ⟨g1, 0, none⟩) (i + 1) cap1) (ids.take (i + 1)) rfl (row_take (HR.out.row.alloc _) HLn.out) w1.heap.size 0 1 1 [made] rfl rfl (one_num w1 made) (by rw [List.length_append, HLn.out]; simp) (by rw [List.length_append, HLn.out]; simp; omega) (by have := HR.out.big; rw [World.size_alloc]; omega) (i + 2) (by rw [List.length_append, HLn.out]; rfl) ?_; intro g2 cap2 w2 hL2; have hR2 := HR.out.grow ((Kept.refl _ _).alloc _) hL2 rfl; obtain ⟨e1, e2, e3, e4, e5, e6⟩ := hR2.cells; have HR2 := Lib.hid hR2; clear hL2 hR2 c1 c2 c3 c4 c5 c6))
  have b0 : (0 : Int) ≤ (i : Int) + 1 := by omega
  have b1 : (i : Int) + 1 ≤ (n : Int) := by omega
  have b2 : (n : Int) ≤ (cap : Int) := by omega
  have b5 : (i : Int) + 1 ≤ (cap : Int) := by omega
  have b6 : IntKind.i64.wrap ((made : Int) + 1) = (made : Int) + 1 := IntWalk.i64_in _ (by have := HM.out; omega)
  have hl2 : (ids.take (i + 1) ++ [made]).length = i + 2 := by rw [List.length_append, HLn.out]; rfl
  have hrow : w2.ownsRow (w.heap.size + 3) 34 1 (.slice (some ⟨g2, 0, none⟩) (i + 2) cap2) (ids.take (i + 1) ++ [made]).length (nums (ids.take (i + 1) ++ [made])) := row_take HR2.out.row hl2
  have hpart := part_drop HR2.out.lies (i + 1)
  have hnl : (ids.drop (i + 1)).length = n - (i + 1) := by rw [List.length_drop, ← Hn.out]
  have hN : ((ids.take (i + 1) ++ [made]) ++ ids.drop (i + 1)).length = n + 1 := by rw [List.length_append, hl2, hnl]; omega
  have hput : (ids.take (i + 1) ++ [made]) ++ ids.drop (i + 1) = putId ids i made := by unfold putId; simp
  have HROW := Lib.hid hrow
  have HPT := Lib.hid hpart
  have HNL := Lib.hid hnl
  have HNN := Lib.hid hN
  have HPUT := Lib.hid hput
  clear hrow hpart hnl hN hl2 hput
  by_cases hcap : cap = i + 1
  · obtain rfl : n = i + 1 := by omega
    subst hcap
    have hnil : ids.drop (i + 1) = [] := List.drop_eq_nil_of_le (by rw [← Hn.out]; omega)
    have hN2 : ((ids.take (i + 1) ++ [made]) ++ []).length = i + 2 := by rw [List.append_nil, List.length_append, HLn.out]; rfl
    have HNIL := Lib.hid hnil
    have HN2 := Lib.hid hN2
    clear hnil hN2
    go_region_held3 (fun w' => w'.cell? ⟨w.heap.size, 0, none⟩ = some (.slice (some ⟨g, 0, none⟩) (i + 1) (i + 1)) ∧ w'.cell? ⟨w.heap.size, 1, none⟩ = some (.int .i64 made)) (first | exact ⟨e1, e2⟩ | exact ⟨d1, d2⟩ | go_keep)
      (first | (refine step_append_nums rfl (.tmp 33) (.tmp 38) rfl (w.heap.size + 3) (.slice (some ⟨g2, 0, none⟩) (i + 2) cap2) (ids.take (i + 1) ++ [made]) rfl HROW.out g 0 0 0 [] rfl rfl (by simp) (by rw [HN2.out]; omega) (by rw [HN2.out]; omega) HR2.out.big (i + 2) HN2.out.symm ?_; intro g3 cap3 w3 hL3; have hR3 := HR2.out.grow (Kept.drew (Kept.refl _ _)) hL3 rfl; obtain ⟨d1, d2, d3, d4, d5, d6⟩ := hR3.cells; have HR3 := Lib.hid hR3; clear hL3 hR3))
    go_wp2
    obtain ⟨k1, k2, k3, k4⟩ := HR3.out.done (by rw [HN2.out]; omega) (.slice (some ⟨g3, 0, none⟩) (i + 2) cap3) (.int .i64 ((made : Int) + 1))
    refine bodyPost_ret (results_row3 rfl _ _ (w.heap.size + 1) (.slice (some ⟨g3, 0, none⟩) (i + 2) cap3) (.int .i64 ((made : Int) + 1)) rfl k1) rfl ?_
    exact ⟨g3, cap3, rfl, by rw [← HPUT.out, HNIL.out]; exact k2, k3, k4⟩
  · go_region_held3 (fun w' => w'.cell? ⟨w.heap.size, 0, none⟩ = some (.slice (some ⟨g, 0, none⟩) n cap) ∧ w'.cell? ⟨w.heap.size, 1, none⟩ = some (.int .i64 made)) (first | exact ⟨e1, e2⟩ | exact ⟨d1, d2⟩ | go_keep)
      (first | (refine step_append_nums rfl (.tmp 33) (.tmp 38) rfl (w.heap.size + 3) (.slice (some ⟨g2, 0, none⟩) (i + 2) cap2) (ids.take (i + 1) ++ [made]) rfl HROW.out g (i + 1) _ _ (ids.drop (i + 1)) rfl HNL.out HPT.out (by rw [HNN.out]; omega) (by rw [HNN.out]; omega) HR2.out.big (n + 1) HNN.out.symm ?_; intro g3 cap3 w3 hL3; have hR3 := HR2.out.grow (Kept.drew (Kept.refl _ _)) hL3 rfl; obtain ⟨d1, d2, d3, d4, d5, d6⟩ := hR3.cells; have HR3 := Lib.hid hR3; clear hL3 hR3))
    go_wp2
    obtain ⟨k1, k2, k3, k4⟩ := HR3.out.done (by rw [HNN.out]; omega) (.slice (some ⟨g3, 0, none⟩) (n + 1) cap3) (.int .i64 ((made : Int) + 1))
    refine bodyPost_ret (results_row3 rfl _ _ (w.heap.size + 1) (.slice (some ⟨g3, 0, none⟩) (n + 1) cap3) (.int .i64 ((made : Int) + 1)) rfl k1) rfl ?_
    exact ⟨g3, cap3, rfl, by rw [← HPUT.out]; exact k2, k3, k4⟩
set_option maxHeartbeats 1000000 in
theorem ref_between_yes {w : World} {g cap made : Nat} {ids : List Nat} {a b : Int} {i k : Nat} (h : Lies w g cap ids) (ha : AtIs g cap made ids a i) (hb : AtIs g cap made ids b k) (hik : i < k) (hkl : k < ids.length) :
    Calls Try.prog 48 #[rlist g ids.length cap made, .int .i64 a, .int .i64 b] w fun e w' => ∃ g' cap', e = .returned (.tuple #[rlist g' (i + 1 + (ids.length - k)) cap' made, .int .i64 ((k - i - 1 : Nat) : Int), .int .i64 0]) ∧ Lies w' g' cap' (ids.take (i + 1) ++ ids.drop k) ∧ w.heap.size ≤ g' ∧ Kept (fun _ => False) w w' := by
  obtain ⟨n, hn⟩ : ∃ n, n = ids.length := ⟨_, rfl⟩
  rw [← hn]
  have H1 := Lib.hid fun o p => at_hid ha (lies_alloc (lies_alloc h o) p) hn
  have H2 := Lib.hid fun o p q => at_hid hb (lies_alloc (lies_alloc (lies_alloc h o) p) q) hn
  have hn5 : n ≤ 100000 := by rw [hn]; exact h.len
  have hnc : n ≤ cap := by rw [hn]; exact h.fit
  have hcm : cap ≤ maxLen := h.max
  have hkn : k < n := by rw [hn]; exact hkl
  have H := Lib.hid h
  have Hn := Lib.hid hn
  clear ha hb h hn hkl
  have hl : (ids.take (i + 1)).length = i + 1 := by rw [List.length_take, ← Hn.out]; omega
  have HLn := Lib.hid hl
  clear hl
  unfold maxLen at hcm
  have b3 : IntKind.i64.wrap ((i : Int) + 1) = (i : Int) + 1 := IntWalk.i64_in _ (by omega)
  have b4 : ((i : Int) + 1).toNat = i + 1 := by omega
  go_enter Try.func48, Try.ntmps48
  go_wp2_with fail
  refine (H1.out _ _).mono ?_
  rintro _ w0 ⟨rfl, rfl⟩
  go_wp2_with fail
  refine (H2.out _ _ _).mono ?_
  rintro _ w0 ⟨rfl, rfl⟩
  go_wp2_with (at_builtin; go_loud (refine wpList_append_nums rfl (.tmp 29) (.tmp 34) rfl (w.heap.size + 3) (.slice (some ⟨w.heap.size + 4, 0, none⟩) 0 0) [] rfl (empty_row ((refW w g n cap made).alloc (rbox g n cap made)) (by simp [World.size_alloc]) (by omega)) g 0 (i + 1) cap (ids.take (i + 1)) rfl HLn.out (part_take (lies_alloc (lies_alloc (lies_alloc (lies_alloc (lies_alloc H.out _) _) _) _) _) (i + 1)) (by rw [List.nil_append, HLn.out]; omega) (by rw [List.nil_append, HLn.out]; omega) (by simp only [World.size_alloc]; omega) (i + 1) (by rw [List.nil_append, HLn.out]) ?_; intro g1 cap1 w1 hL; rw [List.nil_append] at hL; have hR := RefAt.first (n := n) (ids := ids) H.out ((refW_kept w g n cap made).alloc (rbox g n cap made)) (heap_alloc_old _ (refW_at w g n cap made).1) (heap_alloc_old _ (refW_at w g n cap made).2) (by rw [World.size_alloc, refW_size]) (by omega) hL; obtain ⟨c1, c2, c3, c4, c5, c6⟩ := hR.cells; have HR := Lib.hid hR; clear hL hR))
  have b0 : (0 : Int) ≤ (k : Int) := by omega
  have b1 : (k : Int) ≤ (n : Int) := by omega
  have b2 : (n : Int) ≤ (cap : Int) := by omega
  have b5 : (k : Int) ≤ (cap : Int) := by omega
  have b6 : IntKind.i64.wrap ((k : Int) - (i : Int)) = (k : Int) - (i : Int) := IntWalk.i64_in _ (by omega)
  have b7 : IntKind.i64.wrap ((k : Int) - (i : Int) - 1) = (k : Int) - (i : Int) - 1 := IntWalk.i64_in _ (by omega)
  have hcap : ¬ cap = k := by omega
  have hrow := row_take HR.out.row HLn.out
  have hpart := part_drop HR.out.lies k
  have hnl : (ids.drop k).length = n - k := by rw [List.length_drop, ← Hn.out]
  have hN : (ids.take (i + 1) ++ ids.drop k).length = i + 1 + (n - k) := by rw [List.length_append, HLn.out, hnl]
  have HROW := Lib.hid hrow
  have HPT := Lib.hid hpart
  have HNL := Lib.hid hnl
  have HNN := Lib.hid hN
  clear hrow hpart hnl hN
  go_region_held3 (fun w' => w'.cell? ⟨w.heap.size, 0, none⟩ = some (.slice (some ⟨g, 0, none⟩) n cap) ∧ w'.cell? ⟨w.heap.size, 1, none⟩ = some (.int .i64 made)) (first | exact ⟨c1, c2⟩ | exact ⟨d1, d2⟩ | go_keep)
    (first | (go_loud (refine step_append_nums rfl (.tmp 36) (.tmp 40) rfl (w.heap.size + 3) (.slice (some ⟨g1, 0, none⟩) (i + 1) cap1) (ids.take (i + 1)) rfl HROW.out g k _ _ (ids.drop k) rfl HNL.out HPT.out (by rw [HNN.out]; omega) (by rw [HNN.out]; omega) HR.out.big (i + 1 + (n - k)) HNN.out.symm ?_; intro g3 cap3 w3 hL3; have hR3 := HR.out.grow (Kept.drew (Kept.refl _ _)) hL3 rfl; obtain ⟨d1, d2, d3, d4, d5, d6⟩ := hR3.cells; have HR3 := Lib.hid hR3; clear hL3 hR3)))
  go_wp2
  obtain ⟨k1, k2, k3, k4⟩ := HR3.out.done (by rw [HNN.out]; omega) (.slice (some ⟨g3, 0, none⟩) (i + 1 + (n - k)) cap3) (.int .i64 (made : Int))
  refine bodyPost_ret (results_row3 rfl _ _ (w.heap.size + 1) (.slice (some ⟨g3, 0, none⟩) (i + 1 + (n - k)) cap3) (.int .i64 (made : Int)) rfl k1) rfl ?_
  refine ⟨g3, cap3, ?_, k2, k3, k4⟩
  have e : ((k - i - 1 : Nat) : Int) = (k : Int) - (i : Int) - 1 := by omega
  rw [e]
  rfl
end Go.Proofs.Ytijceljhpbdnnaa
