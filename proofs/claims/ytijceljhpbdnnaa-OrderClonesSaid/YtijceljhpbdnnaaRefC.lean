/-
  The reference's functions Less, Beside, Same and New. Conditions: each theorem's own hypotheses on memory.
-/
import Derived.Test.YtijceljhpbdnnaaRefB
import Derived.Laws.Rows
import Derived.Laws.ResultCell
namespace Go.Proofs.Ytijceljhpbdnnaa
open Go.RowKit

/-- What At answers of a number. -/
def AtIs (g cap made : Nat) (ids : List Nat) (s r : Int) : Prop :=
  ∀ W : World, Lies W g cap ids → Calls Try.prog 51 #[rlist g ids.length cap made, .int .i64 s] W fun e w' => e = .returned (.int .i64 r) ∧ w' = W.alloc (rbox g ids.length cap made)
theorem at_pos {g cap made : Nat} {ids : List Nat} (hnd : ids.Nodup) {i n : Nat} (hi : ids[i]? = some n) : AtIs g cap made ids n i := by
  intro W h
  obtain ⟨hil, hi'⟩ := List.getElem?_eq_some_iff.1 hi
  refine ref_at g cap ids.length made ids n i i W h rfl (by omega) ?_ (.inl ⟨hil, by rw [hi]; rfl, rfl⟩)
  intro j x hj hx e
  have e : x = n := by omega
  subst e
  have := (List.getElem?_inj hil hnd).1 (hi.trans hx.symm)
  omega
theorem at_out {g cap made : Nat} {ids : List Nat} {v : Int} (hv : ∀ n, n ∈ ids → (n : Int) ≠ v) : AtIs g cap made ids v (-1) := by
  intro W h
  refine ref_at g cap ids.length made ids v ids.length (-1) W h rfl (Nat.le_refl _) ?_ (.inr ⟨rfl, rfl⟩)
  intro j x _ hx
  exact hv x (List.mem_of_getElem? hx)
theorem lies_alloc {w : World} {g cap : Nat} {ids : List Nat} (h : Lies w g cap ids) (o : Obj) : Lies (w.alloc o) g cap ids := h.same (_root_.Go.heap_alloc_old _ _ h.lt)
theorem at_hid {g cap made : Nat} {ids : List Nat} {s r : Int} (h : AtIs g cap made ids s r) {W : World} (hW : Lies W g cap ids) {n : Nat} (hn : n = ids.length) :
    Calls Try.prog 51 #[rlist g n cap made, .int .i64 s] W fun e w' => e = .returned (.int .i64 r) ∧ w' = W.alloc (rbox g n cap made) := by
  subst hn; exact h W hW
set_option maxHeartbeats 400000 in
theorem ref_less_no {w : World} {g cap made : Nat} {ids : List Nat} {a b ra rb : Int} (h : Lies w g cap ids) (ha : AtIs g cap made ids a ra) (hb : AtIs g cap made ids b rb) (hr : ra < 0 ∨ rb < 0) :
    Calls Try.prog 49 #[rlist g ids.length cap made, .int .i64 a, .int .i64 b] w fun e w' => e = .returned (.tuple #[.bool false, .int .i64 180]) ∧ Kept (fun _ => False) w w' := by
  obtain ⟨n, hn⟩ : ∃ n, n = ids.length := ⟨_, rfl⟩
  rw [← hn]
  have H1 := Lib.hid fun o => at_hid ha (lies_alloc h o) hn
  have H2 := Lib.hid fun o p => at_hid hb (lies_alloc (lies_alloc h o) p) hn
  clear ha hb h hn
  by_cases h1 : ra < 0
  · clear hr
    go_enter Try.func49, Try.ntmps49
    go_wp2_with fail
    refine (H1.out _).mono ?_
    rintro _ w1 ⟨rfl, rfl⟩
    go_wp2_with fail
    refine (H2.out _ _).mono ?_
    rintro _ w2 ⟨rfl, rfl⟩
    go_wp2
    go_ret2
    exact ⟨rfl, ((Kept.refl _ _).alloc _).alloc _ |>.alloc _⟩
  · have h2 : rb < 0 := by omega
    clear hr
    go_enter Try.func49, Try.ntmps49
    go_wp2_with fail
    refine (H1.out _).mono ?_
    rintro _ w1 ⟨rfl, rfl⟩
    go_wp2_with fail
    refine (H2.out _ _).mono ?_
    rintro _ w2 ⟨rfl, rfl⟩
    go_wp2
    go_ret2
    exact ⟨rfl, ((Kept.refl _ _).alloc _).alloc _ |>.alloc _⟩
set_option maxHeartbeats 400000 in
theorem ref_less_yes {w : World} {g cap made : Nat} {ids : List Nat} {a b : Int} {i k : Nat} (h : Lies w g cap ids) (ha : AtIs g cap made ids a i) (hb : AtIs g cap made ids b k) :
    Calls Try.prog 49 #[rlist g ids.length cap made, .int .i64 a, .int .i64 b] w fun e w' => e = .returned (.tuple #[.bool (decide (i < k)), .int .i64 0]) ∧ Kept (fun _ => False) w w' := by
  obtain ⟨n, hn⟩ : ∃ n, n = ids.length := ⟨_, rfl⟩
  rw [← hn]
  have H1 := Lib.hid fun o => at_hid ha (lies_alloc h o) hn
  have H2 := Lib.hid fun o p => at_hid hb (lies_alloc (lies_alloc h o) p) hn
  clear ha hb h hn
  go_enter Try.func49, Try.ntmps49
  go_wp2_with fail
  refine (H1.out _).mono ?_
  rintro _ w1 ⟨rfl, rfl⟩
  go_wp2_with fail
  refine (H2.out _ _).mono ?_
  rintro _ w2 ⟨rfl, rfl⟩
  go_wp2
  go_ret2
  exact ⟨by simp, ((Kept.refl _ _).alloc _).alloc _ |>.alloc _⟩
set_option maxHeartbeats 400000 in
theorem ref_beside_no {w : World} {g cap made : Nat} {ids : List Nat} {a : Int} (d : Int) (h : Lies w g cap ids) (ha : AtIs g cap made ids a (-1)) :
    Calls Try.prog 50 #[rlist g ids.length cap made, .int .i64 a, .int .i64 d] w fun e w' => e = .returned (.tuple #[.int .i64 0, .int .i64 180]) ∧ Kept (fun _ => False) w w' := by
  obtain ⟨n, hn⟩ : ∃ n, n = ids.length := ⟨_, rfl⟩
  rw [← hn]
  have H1 := Lib.hid fun o => at_hid ha (lies_alloc h o) hn
  clear ha h hn
  go_enter Try.func50, Try.ntmps50
  go_wp2_with fail
  refine (H1.out _).mono ?_
  rintro _ w1 ⟨rfl, rfl⟩
  go_wp2
  go_ret2
  exact ⟨rfl, ((Kept.refl _ _).alloc _).alloc _⟩
set_option maxHeartbeats 400000 in
theorem ref_next_yes {w : World} {g cap made : Nat} {ids : List Nat} {a : Int} {i x : Nat} (h : Lies w g cap ids) (ha : AtIs g cap made ids a i) (hx : ids[i + 1]? = some x) :
    Calls Try.prog 50 #[rlist g ids.length cap made, .int .i64 a, .int .i64 1] w fun e w' => e = .returned (.tuple #[.int .i64 x, .int .i64 0]) ∧ Kept (fun _ => False) w w' := by
  obtain ⟨n, hn⟩ : ∃ n, n = ids.length := ⟨_, rfl⟩
  rw [← hn]
  have H1 := Lib.hid fun o => at_hid ha (lies_alloc h o) hn
  have hc : ∀ o p, ((w.alloc o).alloc p).cell? ⟨g, i + 1, none⟩ = some (.int .i64 x) := fun o p => (lies_alloc (lies_alloc h o) p).cell _ _ hx
  have hin : i + 1 < n := by rw [hn]; exact (List.getElem?_eq_some_iff.1 hx).1
  have hn5 : n ≤ 100000 := by rw [hn]; exact h.len
  have hnc : n ≤ cap := by rw [hn]; exact h.fit
  clear ha h hn hx
  go_enter Try.func50, Try.ntmps50
  go_wp2_with fail
  refine (H1.out _).mono ?_
  rintro _ w1 ⟨rfl, rfl⟩
  have c := hc (rbox g n cap made) (rbox g n cap made)
  clear hc
  go_wp2
  go_ret2
  exact ⟨rfl, ((Kept.refl _ _).alloc _).alloc _⟩
set_option maxHeartbeats 400000 in
theorem ref_next_end {w : World} {g cap made : Nat} {ids : List Nat} {a : Int} {i : Nat} (h : Lies w g cap ids) (ha : AtIs g cap made ids a i) (hx : ids.length = i + 1) :
    Calls Try.prog 50 #[rlist g ids.length cap made, .int .i64 a, .int .i64 1] w fun e w' => e = .returned (.tuple #[.int .i64 0, .int .i64 3]) ∧ Kept (fun _ => False) w w' := by
  have hn := hx.symm
  rw [← hn]
  have H1 := Lib.hid fun o => at_hid ha (lies_alloc h o) hn
  have hn5 : i + 1 ≤ 100000 := by rw [hn]; exact h.len
  clear ha h hn hx
  go_enter Try.func50, Try.ntmps50
  go_wp2_with fail
  refine (H1.out _).mono ?_
  rintro _ w1 ⟨rfl, rfl⟩
  go_wp2
  go_ret2
  exact ⟨rfl, ((Kept.refl _ _).alloc _).alloc _⟩
set_option maxHeartbeats 400000 in
theorem ref_prev_yes {w : World} {g cap made : Nat} {ids : List Nat} {a : Int} {i x : Nat} (h : Lies w g cap ids) (ha : AtIs g cap made ids a ((i : Int) + 1)) (hx : ids[i]? = some x) (hin1 : i + 1 < ids.length) :
    Calls Try.prog 50 #[rlist g ids.length cap made, .int .i64 a, .int .i64 (-1)] w fun e w' => e = .returned (.tuple #[.int .i64 x, .int .i64 0]) ∧ Kept (fun _ => False) w w' := by
  obtain ⟨n, hn⟩ : ∃ n, n = ids.length := ⟨_, rfl⟩
  rw [← hn]
  have H1 := Lib.hid fun o => at_hid ha (lies_alloc h o) hn
  have hc : ∀ o p, ((w.alloc o).alloc p).cell? ⟨g, i, none⟩ = some (.int .i64 x) := fun o p => (lies_alloc (lies_alloc h o) p).cell _ _ hx
  have hin : i + 1 < n := by rw [hn]; exact hin1
  have hn5 : n ≤ 100000 := by rw [hn]; exact h.len
  have hnc : n ≤ cap := by rw [hn]; exact h.fit
  clear ha h hn hx hin1
  have e1 : wrap64 ((i : Int) + 1 + -1) = i := by rw [IntWalk.wrap64_in _ ⟨by omega, by omega⟩]; omega
  go_enter Try.func50, Try.ntmps50
  go_wp2_with fail
  refine (H1.out _).mono ?_
  rintro _ w1 ⟨rfl, rfl⟩
  have c := hc (rbox g n cap made) (rbox g n cap made)
  have e2 : ((i : Int) + 1 + -1).toNat = i := by omega
  have c' : ((w.alloc (rbox g n cap made)).alloc (rbox g n cap made)).cell? ⟨g, ((i : Int) + 1 + -1).toNat, none⟩ = some (.int .i64 x) := by rw [e2]; exact c
  clear hc c e2
  go_wp2
  go_ret2
  exact ⟨rfl, ((Kept.refl _ _).alloc _).alloc _⟩
set_option maxHeartbeats 400000 in
theorem ref_prev_end {w : World} {g cap made : Nat} {ids : List Nat} {a : Int} (h : Lies w g cap ids) (ha : AtIs g cap made ids a 0) :
    Calls Try.prog 50 #[rlist g ids.length cap made, .int .i64 a, .int .i64 (-1)] w fun e w' => e = .returned (.tuple #[.int .i64 0, .int .i64 3]) ∧ Kept (fun _ => False) w w' := by
  obtain ⟨n, hn⟩ : ∃ n, n = ids.length := ⟨_, rfl⟩
  rw [← hn]
  have H1 := Lib.hid fun o => at_hid ha (lies_alloc h o) hn
  clear ha h hn
  go_enter Try.func50, Try.ntmps50
  go_wp2_with fail
  refine (H1.out _).mono ?_
  rintro _ w1 ⟨rfl, rfl⟩
  go_wp2
  go_ret2
  exact ⟨rfl, ((Kept.refl _ _).alloc _).alloc _⟩
theorem size30 : (Try.prog.info? 30).map (·.size) = some 2 := by kernel_rfl
theorem results_row1 {fn : Func} {p : Tmp} (h : fn.results = #[.cell p 30]) (tmps : Array Value) (w : World) (g : Nat) (x y : Value) (hp : tmps.getD p undef = .pointer (some ⟨g, 0, none⟩)) (hg : w.heap[g]? = some (.cells #[x, y] 30 (0, 0))) :
    (results fn tmps).run Try.prog w = .ok (.agg #[x, y]) w := by
  exact results_cell_row h tmps w g 30 _ _ _ hp hg Try.underlying30 rfl size30
theorem results_row2 {fn : Func} {p u : Tmp} (h : fn.results = #[.cell p 30, .tmp u]) (tmps : Array Value) (w : World) (g : Nat) (x y : Value) (hp : tmps.getD p undef = .pointer (some ⟨g, 0, none⟩)) (hg : w.heap[g]? = some (.cells #[x, y] 30 (0, 0))) :
    (results fn tmps).run Try.prog w = .ok (.tuple #[.agg #[x, y], tmps.getD u undef]) w := by
  rw [results_cell_tmp h, hp]
  simp [asAddr, run_loadVar_row w g 30 30 _ _ _ hg Try.underlying30 rfl size30, Result.andThen]
theorem results_row3 {fn : Func} {p u q : Tmp} (h : fn.results = #[.cell p 30, .tmp u, .tmp q]) (tmps : Array Value) (w : World) (g : Nat) (x y : Value) (hp : tmps.getD p undef = .pointer (some ⟨g, 0, none⟩)) (hg : w.heap[g]? = some (.cells #[x, y] 30 (0, 0))) :
    (results fn tmps).run Try.prog w = .ok (.tuple #[.agg #[x, y], tmps.getD u undef, tmps.getD q undef]) w := by
  have hp' : tmps[p]?.getD undef = .pointer (some ⟨g, 0, none⟩) := by simpa using hp
  simp [results, h, hp', asAddr, run_loadVar_row w g 30 30 _ _ _ hg Try.underlying30 rfl size30, Sem.run_bind, Result.andThen]
theorem lies_new (w : World) (o : Obj) : Lies ((w.alloc o).alloc (.cells #[.int .i64 0] 34)) (w.heap.size + 1) 1 [0] := by
  have hg : ((w.alloc o).alloc (.cells #[.int .i64 0] 34)).heap[w.heap.size + 1]? = some (.cells #[.int .i64 0] 34) := by
    have := heap_alloc_at (w.alloc o) (.cells #[.int .i64 0] 34)
    rwa [World.size_alloc] at this
  refine ⟨⟨_, hg⟩, by decide, by decide, by decide, ?_⟩
  intro j x hj
  cases j with
  | zero => simp at hj; subst hj; simp only [World.cell?]; rw [hg]; rfl
  | succ j => simp at hj
set_option maxHeartbeats 400000 in
theorem ref_new (w : World) : Calls Try.prog 33 #[] w fun e w' => ∃ g, e = .returned (rlist g 1 1 1) ∧ Lies w' g 1 [0] ∧ w.heap.size ≤ g ∧ Kept (fun _ => False) w w' := by
  go_enter Try.func33, Try.ntmps33
  go_wp2
  refine bodyPost_ret (results_row1 rfl _ _ w.heap.size (.slice (some ⟨w.heap.size + 1, 0, none⟩) 1 1) (.int .i64 1) rfl ?_) rfl ?_
  · exact heap_alloc_old _ (heap_alloc_at _ _)
  exact ⟨w.heap.size + 1, rfl, lies_new _ _, by omega, ((Kept.refl _ _).alloc _).alloc _⟩
/-- Two rows of numbers are the same. -/
theorem ref_same (w : World) (g g' cap cap' : Nat) (ids : List Nat) (h : Lies w g cap ids) (h' : Lies w g' cap' ids) :
    Calls Try.prog 30 #[.slice (some ⟨g, 0, none⟩) ids.length cap, .slice (some ⟨g', 0, none⟩) ids.length cap'] w fun e w' => e = .returned (.bool true) ∧ ∃ m, w' = w.drewN m := by
  obtain ⟨n, hn⟩ : ∃ n, n = ids.length := ⟨_, rfl⟩
  rw [← hn]
  have Hn := Lib.hid hn
  have Hc := Lib.hid h.cell
  have Hc' := Lib.hid h'.cell
  have h1 : n ≤ 100000 := by rw [hn]; exact h.len
  have h2 : n ≤ cap := by rw [hn]; exact h.fit
  have h3 : n ≤ cap' := by rw [hn]; exact h'.fit
  clear h h' hn
  go_enter Try.func30, Try.ntmps30
  go_wp2
  go_loopw [5, 6] (fun s c wr => ∃ j m : Nat, j ≤ n ∧ c = .int .i64 j ∧ s = .bool true ∧ wr = w.drewN m) (fun _ c _ => n - (intOf c).toNat)
  case atStart => exact ⟨0, 0, Nat.zero_le _, rfl, rfl, rfl⟩
  case round =>
    obtain ⟨j, m, hj, rfl, rfl, rfl⟩ := hrel
    by_cases hjn : j < n
    · obtain ⟨x, hx⟩ : ∃ x, ids[j]? = some x := ⟨ids[j]'(by rw [← Hn.out]; omega), List.getElem?_eq_getElem _⟩
      have c1 : w.cell? ⟨g, j, none⟩ = some (.int .i64 x) := Hc.out j x hx
      have c2 : w.cell? ⟨g', j, none⟩ = some (.int .i64 x) := Hc'.out j x hx
      have k1 : (j : Int) < n := by omega
      have k2 : (0 : Int) ≤ j := by omega
      clear hx
      go_wp2
      go_quiet (fail)
      go_wp2
      go_roundw
      case rel => exact ⟨j + 1, _, by omega, by go_num, rfl, rfl⟩
      case measure => simp [intOf]; omega
    · go_wp2
      go_ret
      exact ⟨rfl, m, rfl⟩
end Go.Proofs.Ytijceljhpbdnnaa
