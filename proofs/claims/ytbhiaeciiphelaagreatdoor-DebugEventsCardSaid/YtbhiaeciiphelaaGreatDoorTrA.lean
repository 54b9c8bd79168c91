/-
  DERIVED. Values at run time as trees in memory; comparing them. Condition: each theorem's own on memory.
-/
import Derived.Test.YtbhiaeciiphelaaGreatDoorEvO
import Derived.Test.YtbhiaeciiphelaaGreatDoorMomA
import Derived.Deep.RegionHeld3
import Derived.Deep.Slices
namespace Go.Proofs.YtbhiaeciiphelaaGreatDoor
open Go.RowKit
theorem holdT {p : Prop} (h : Hid p) : p := h.out
inductive RV where
  | mk (kind num : Int) (con : ByteArray) (args : List RV)
inductive ND where
  | mk (mod : Bool) (site addr : Int) (args : List RV) (seen wrote : RV) (kids : List ND)
def RunAt (w : World) (A : Nat → Prop) : Nat → RV → List Value → Prop
  | 0, _, _ => False
  | d + 1, .mk k m s args, cs => ∃ p c, cs = [.int .i64 k, .int .i64 m, .string s, .slice p args.length c] ∧ args.length * 56 ≤ 140737488355328 ∧
      ∀ (j : Nat) (t : RV), args[j]? = some t → ∃ g o cs', p = some ⟨g, o, none⟩ ∧ ¬ A g ∧ (∀ (i : Nat) (v : Value), cs'[i]? = some v → w.cell? ⟨g, o + j * 4 + i, none⟩ = some v) ∧ RunAt w A d t cs'
def RunsAt (w : World) (A : Nat → Prop) (d : Nat) (v : Value) (ts : List RV) : Prop := ∃ p c, v = .slice p ts.length c ∧ ts.length * 56 ≤ 140737488355328 ∧
  ∀ (j : Nat) (t : RV), ts[j]? = some t → ∃ g o cs', p = some ⟨g, o, none⟩ ∧ ¬ A g ∧ (∀ (i : Nat) (v : Value), cs'[i]? = some v → w.cell? ⟨g, o + j * 4 + i, none⟩ = some v) ∧ RunAt w A d t cs'
theorem RunAt.len {w : World} {A : Nat → Prop} {d : Nat} {t : RV} {cs : List Value} (h : RunAt w A d t cs) : cs.length = 4 := by
  cases d with
  | zero => exact h.elim
  | succ d =>
    obtain ⟨k, m, s, args⟩ := t
    obtain ⟨p, c, rfl, _⟩ := h
    rfl
theorem RunAt.keep {w w' : World} {A A' : Nat → Prop} (hk : ∀ (g : Nat) (o : Obj), w.heap[g]? = some o → ¬ A g → w'.heap[g]? = some o ∧ ¬ A' g) : ∀ {d : Nat} {t : RV} {cs : List Value}, RunAt w A d t cs → RunAt w' A' d t cs
  | 0, _, _, h => h
  | d + 1, .mk k m s args, cs, h => by
    obtain ⟨p, c, rfl, hl, h1⟩ := h
    refine ⟨p, c, rfl, hl, fun j t hj => ?_⟩
    obtain ⟨g, o, cs', rfl, hA, hc, ht⟩ := h1 j t hj
    have h4 := ht.len
    obtain ⟨v0, hv0⟩ : ∃ v0, cs'[0]? = some v0 := ⟨cs'[0]'(by omega), List.getElem?_eq_getElem _⟩
    have hg := World.block_lt_of_cell? _ _ (hc 0 v0 hv0)
    obtain ⟨h5, h6⟩ := hk g _ (Array.getElem?_eq_getElem hg) hA
    refine ⟨g, o, cs', rfl, h6, fun i v hi => ?_, RunAt.keep hk ht⟩
    rw [World.cell?_of_block (w := w) (a := ⟨g, o + j * 4 + i, none⟩) (by rw [h5, Array.getElem?_eq_getElem hg])]
    exact hc i v hi
theorem RunsAt.keep {w w' : World} {A A' : Nat → Prop} (hk : ∀ (g : Nat) (o : Obj), w.heap[g]? = some o → ¬ A g → w'.heap[g]? = some o ∧ ¬ A' g) {d : Nat} {v : Value} {ts : List RV} (h : RunsAt w A d v ts) : RunsAt w' A' d v ts := by
  obtain ⟨p, c, rfl, hl, h1⟩ := h
  refine ⟨p, c, rfl, hl, fun j t hj => ?_⟩
  obtain ⟨g, o, cs', rfl, hA, hc, ht⟩ := h1 j t hj
  have h4 := ht.len
  obtain ⟨v0, hv0⟩ : ∃ v0, cs'[0]? = some v0 := ⟨cs'[0]'(by omega), List.getElem?_eq_getElem _⟩
  have hg := World.block_lt_of_cell? _ _ (hc 0 v0 hv0)
  obtain ⟨h5, h6⟩ := hk g _ (Array.getElem?_eq_getElem hg) hA
  refine ⟨g, o, cs', rfl, h6, fun i v hi => ?_, ht.keep hk⟩
  rw [World.cell?_of_block (w := w) (a := ⟨g, o + j * 4 + i, none⟩) (by rw [h5, Array.getElem?_eq_getElem hg])]
  exact hc i v hi
theorem RunAt.deeper {w : World} {A : Nat → Prop} : ∀ {d : Nat} {t : RV} {cs : List Value}, RunAt w A d t cs → RunAt w A (d + 1) t cs
  | 0, _, _, h => h.elim
  | d + 1, .mk k m s args, cs, h => by
    obtain ⟨p, c, rfl, hl, h1⟩ := h
    refine ⟨p, c, rfl, hl, fun j t hj => ?_⟩
    obtain ⟨g, o, cs', rfl, hA, hc, ht⟩ := h1 j t hj
    exact ⟨g, o, cs', rfl, hA, hc, RunAt.deeper ht⟩
theorem RunAt.le {w : World} {A : Nat → Prop} {t : RV} {cs : List Value} {d : Nat} (h : RunAt w A d t cs) : ∀ {e : Nat}, d ≤ e → RunAt w A e t cs := by
  intro e he
  induction e with
  | zero =>
    obtain rfl : d = 0 := by omega
    exact h
  | succ e ih =>
    by_cases h1 : d = e + 1
    · rw [← h1]; exact h
    · exact (ih (by omega)).deeper
end Go.Proofs.YtbhiaeciiphelaaGreatDoor
namespace Go.Proofs.YtbhiaeciiphelaaGreatDoor
open Go.RowKit
theorem keeps_hk {w w' : World} {A : Nat → Prop} (hk : Keeps w w') : ∀ (g : Nat) (o : Obj), w.heap[g]? = some o → ¬ A g → w'.heap[g]? = some o ∧ ¬ A g := fun _ _ h hA => ⟨hk.at h (fun x => x), hA⟩
theorem RunAt.four {w : World} {A : Nat → Prop} {d : Nat} {t : RV} {cs : List Value} (h : RunAt w A d t cs) : ∃ k m s p n c, cs = [.int .i64 k, .int .i64 m, .string s, .slice p n c] := by
  cases d with
  | zero => exact h.elim
  | succ d =>
    obtain ⟨k, m, s, args⟩ := t
    obtain ⟨p, c, rfl, _⟩ := h
    exact ⟨_, _, _, _, _, _, rfl⟩
set_option maxHeartbeats 8000000 in
set_option maxRecDepth 100000 in
theorem alikeRun_of : ∀ (d : Nat) (w : World) (A A' : Nat → Prop) (t : RV) (cs cs' : List Value), RunAt w A d t cs → RunAt w A' d t cs' →
    Calls Tryz.prog 59 #[.agg cs.toArray, .agg cs'.toArray] w fun e w' => e = .returned (.bool true) ∧ Keeps w w'
  | 0, _, _, _, _, _, _, h, _ => h.elim
  | d + 1, w, A, A', .mk k m s args, cs, cs', h, h' => by
    obtain ⟨p, c, rfl, hl, h1⟩ := h
    obtain ⟨p', c', rfl, _, h1'⟩ := h'
    have IH := Lib.hid (alikeRun_of d)
    have H1 := Lib.hid h1
    have H2 := Lib.hid h1'
    obtain ⟨W0, hW0⟩ : ∃ W0, W0 = (w.alloc (.cells #[.int .i64 k, .int .i64 m, .string s, .slice p args.length c] 96)).alloc (.cells #[.int .i64 k, .int .i64 m, .string s, .slice p' args.length c'] 96) := ⟨_, rfl⟩
    have hk0 : Keeps w W0 := by rw [hW0]; exact Kept.alloc (Keeps.alloc _ _) _
    have hb1 : W0.heap[w.heap.size]? = some (.cells #[.int .i64 k, .int .i64 m, .string s, .slice p args.length c] 96 (0, 0)) := by rw [hW0]; exact heap_alloc_old _ (heap_alloc_at _ _)
    have hb2 : W0.heap[w.heap.size + 1]? = some (.cells #[.int .i64 k, .int .i64 m, .string s, .slice p' args.length c'] 96 (0, 0)) := by
      rw [hW0]
      have h9 := heap_alloc_at (w.alloc (.cells #[.int .i64 k, .int .i64 m, .string s, .slice p args.length c] 96)) (.cells #[.int .i64 k, .int .i64 m, .string s, .slice p' args.length c'] 96)
      rw [World.size_alloc] at h9
      exact h9
    have HK0 := Lib.hid hk0
    have HB1 := Lib.hid hb1
    have HB2 := Lib.hid hb2
    clear h1 h1' hk0 hb1 hb2
    go_enter Tryz.func59, Tryz.ntmps59
    go_wp2_with fail
    rw [← hW0]
    clear hW0
    go_loopw [5] (fun q W => ∃ i : Nat, i ≤ args.length ∧ q = .int .i64 i ∧ Keeps W0 W) (fun q _ => args.length - (intOf q).toNat)
    case atStart => exact ⟨0, Nat.zero_le _, rfl, Keeps.refl _⟩
    case round =>
      obtain ⟨i, hi, rfl, hk⟩ := hrel
      have HK := Lib.hid hk
      have a3 := cell_of_block (hk.at HB1.out (fun x => x)) 3
      have b3 := cell_of_block (hk.at HB2.out (fun x => x)) 3
      simp at a3 b3
      clear hk
      by_cases hil : i < args.length
      · obtain ⟨u, hu⟩ : ∃ u, args[i]? = some u := ⟨_, List.getElem?_eq_getElem hil⟩
        obtain ⟨g, o, c1, rfl, hA, hc1, ht1⟩ := H1.out i u hu
        obtain ⟨g', o', c2, rfl, hA', hc2, ht2⟩ := H2.out i u hu
        obtain ⟨k1, m1, s1, p1, n1, d1, rfl⟩ := ht1.four
        obtain ⟨k2, m2, s2, p2, n2, d2, rfl⟩ := ht2.four
        have hkw := Keeps.trans HK0.out HK.out
        have x0 := cell_keeps hkw (hc1 0 _ rfl)
        have x1 := cell_keeps hkw (hc1 1 _ rfl)
        have x2 := cell_keeps hkw (hc1 2 _ rfl)
        have x3 := cell_keeps hkw (hc1 3 _ rfl)
        have y0 := cell_keeps hkw (hc2 0 _ rfl)
        have y1 := cell_keeps hkw (hc2 1 _ rfl)
        have y2 := cell_keeps hkw (hc2 2 _ rfl)
        have y3 := cell_keeps hkw (hc2 3 _ rfl)
        have T1 := Lib.hid ht1
        have T2 := Lib.hid ht2
        have HKw := Lib.hid hkw
        have k6 : (i : Int) < args.length := by omega
        have k7 : (0 : Int) ≤ i := by omega
        have HI := Lib.hid (fun (W : World) (hW : Keeps wr W) => IH.out W A A' u _ _ (ht1.keep (keeps_hk (Keeps.trans hkw hW))) (ht2.keep (keeps_hk (Keeps.trans hkw hW))))
        clear hc1 hc2 hA hA' ht1 ht2 hkw
        simp only [Nat.add_zero] at x0 y0
        go_wp2_with fail
        go_region_held3 (fun W' => W'.cell? ⟨w.heap.size, 3, none⟩ = some (.slice (some ⟨g, o, none⟩) args.length c) ∧ W'.cell? ⟨w.heap.size + 1, 3, none⟩ = some (.slice (some ⟨g', o', none⟩) args.length c') ∧
            W'.cell? ⟨g, o + i * 4, none⟩ = some (.int .i64 k1) ∧ W'.cell? ⟨g, o + i * 4 + 1, none⟩ = some (.int .i64 m1) ∧ W'.cell? ⟨g, o + i * 4 + 2, none⟩ = some (.string s1) ∧ W'.cell? ⟨g, o + i * 4 + 3, none⟩ = some (.slice p1 n1 d1) ∧
            W'.cell? ⟨g', o' + i * 4, none⟩ = some (.int .i64 k2) ∧ W'.cell? ⟨g', o' + i * 4 + 1, none⟩ = some (.int .i64 m2) ∧ W'.cell? ⟨g', o' + i * 4 + 2, none⟩ = some (.string s2) ∧ W'.cell? ⟨g', o' + i * 4 + 3, none⟩ = some (.slice p2 n2 d2))
          (first | exact ⟨a3, b3, x0, x1, x2, x3, y0, y1, y2, y3⟩ | exact ⟨cell_keeps hk2 a3, cell_keeps hk2 b3, cell_keeps hk2 x0, cell_keeps hk2 x1, cell_keeps hk2 x2, cell_keeps hk2 x3, cell_keeps hk2 y0, cell_keeps hk2 y1, cell_keeps hk2 y2, cell_keeps hk2 y3⟩)
          (first | (go_at_call 59; refine (HI.out _ (Keeps.drew _)).mono ?_; rintro _ w2 ⟨rfl, hk2⟩))
        all_goals
          go_wp2_with fail
          go_roundw
          case rel => exact ⟨i + 1, by omega, by go_num, Keeps.trans (Kept.drew HK.out) hk2⟩
          case measure => simp [intOf] <;> omega
      · obtain rfl : i = args.length := by omega
        go_wp2_with fail
        go_ret
        exact ⟨rfl, Keeps.trans HK0.out HK.out⟩
set_option maxHeartbeats 8000000 in
set_option maxRecDepth 100000 in
theorem alikeRuns_of (d : Nat) (w : World) (A A' : Nat → Prop) (ts : List RV) (v v' : Value) (h : RunsAt w A d v ts) (h' : RunsAt w A' d v' ts) :
    Calls Tryz.prog 58 #[v, v'] w fun e w' => e = .returned (.bool true) ∧ Keeps w w' := by
  obtain ⟨p, c, rfl, hl, h1⟩ := h
  obtain ⟨p', c', rfl, _, h1'⟩ := h'
  have H1 := Lib.hid h1
  have H2 := Lib.hid h1'
  clear h1 h1'
  go_enter Tryz.func58, Tryz.ntmps58
  go_wp2_with fail
  go_loopw [5] (fun q W => ∃ i : Nat, i ≤ ts.length ∧ q = .int .i64 i ∧ Keeps w W) (fun q _ => ts.length - (intOf q).toNat)
  case atStart => exact ⟨0, Nat.zero_le _, rfl, Keeps.refl _⟩
  case round =>
    obtain ⟨i, hi, rfl, hk⟩ := hrel
    have HK := Lib.hid hk
    by_cases hil : i < ts.length
    · obtain ⟨u, hu⟩ : ∃ u, ts[i]? = some u := ⟨_, List.getElem?_eq_getElem hil⟩
      obtain ⟨g, o, c1, rfl, hA, hc1, ht1⟩ := H1.out i u hu
      obtain ⟨g', o', c2, rfl, hA', hc2, ht2⟩ := H2.out i u hu
      obtain ⟨k1, m1, s1, p1, n1, d1, rfl⟩ := ht1.four
      obtain ⟨k2, m2, s2, p2, n2, d2, rfl⟩ := ht2.four
      have x0 := cell_keeps hk (hc1 0 _ rfl)
      have x1 := cell_keeps hk (hc1 1 _ rfl)
      have x2 := cell_keeps hk (hc1 2 _ rfl)
      have x3 := cell_keeps hk (hc1 3 _ rfl)
      have y0 := cell_keeps hk (hc2 0 _ rfl)
      have y1 := cell_keeps hk (hc2 1 _ rfl)
      have y2 := cell_keeps hk (hc2 2 _ rfl)
      have y3 := cell_keeps hk (hc2 3 _ rfl)
      have k6 : (i : Int) < ts.length := by omega
      have k7 : (0 : Int) ≤ i := by omega
      have HI := Lib.hid (fun (W : World) (hW : Keeps wr W) => alikeRun_of d W A A' u _ _ (ht1.keep (keeps_hk (Keeps.trans hk hW))) (ht2.keep (keeps_hk (Keeps.trans hk hW))))
      clear hc1 hc2 hA hA' ht1 ht2 hk
      simp only [Nat.add_zero] at x0 y0
      go_wp2_with fail
      go_region_held3 (fun W' => W'.cell? ⟨g, o + i * 4, none⟩ = some (.int .i64 k1) ∧ W'.cell? ⟨g, o + i * 4 + 1, none⟩ = some (.int .i64 m1) ∧ W'.cell? ⟨g, o + i * 4 + 2, none⟩ = some (.string s1) ∧ W'.cell? ⟨g, o + i * 4 + 3, none⟩ = some (.slice p1 n1 d1) ∧
          W'.cell? ⟨g', o' + i * 4, none⟩ = some (.int .i64 k2) ∧ W'.cell? ⟨g', o' + i * 4 + 1, none⟩ = some (.int .i64 m2) ∧ W'.cell? ⟨g', o' + i * 4 + 2, none⟩ = some (.string s2) ∧ W'.cell? ⟨g', o' + i * 4 + 3, none⟩ = some (.slice p2 n2 d2))
        (first | exact ⟨x0, x1, x2, x3, y0, y1, y2, y3⟩ | exact ⟨cell_keeps hk2 x0, cell_keeps hk2 x1, cell_keeps hk2 x2, cell_keeps hk2 x3, cell_keeps hk2 y0, cell_keeps hk2 y1, cell_keeps hk2 y2, cell_keeps hk2 y3⟩)
        (first | (go_at_call 59; refine (HI.out _ (Keeps.drew _)).mono ?_; rintro _ w2 ⟨rfl, hk2⟩))
      all_goals
        go_wp2_with fail
        go_roundw
        case rel => exact ⟨i + 1, by omega, by go_num, Keeps.trans (Kept.drew HK.out) hk2⟩
        case measure => simp [intOf] <;> omega
    · obtain rfl : i = ts.length := by omega
      go_wp2_with fail
      go_ret
      exact ⟨rfl, HK.out⟩
end Go.Proofs.YtbhiaeciiphelaaGreatDoor
namespace Go.Proofs.YtbhiaeciiphelaaGreatDoor
open Go.RowKit
theorem info96 : (Tryz.prog.info? 96).map (fun i => (i.zero, i.size, i.bytes)) = some (some (.agg #[.int .i64 0, .int .i64 0, .string ⟨#[]⟩, .slice none 0 0]), 4, 56) := by kernel_rfl
theorem under48 : Tryz.prog.underlying 48 = some (.slice 96) := by kernel_rfl
theorem flat4 {f : Nat → List Value} (hf : ∀ j, (f j).length = 4) : ∀ n : Nat, ((List.range n).flatMap f).length = n * 4 ∧ ∀ (j i : Nat), j < n → i < 4 → ((List.range n).flatMap f)[j * 4 + i]? = (f j)[i]? := by
  intro n
  induction n with
  | zero => exact ⟨rfl, fun j i hj => absurd hj (Nat.not_lt_zero _)⟩
  | succ n ih =>
    rw [List.range_succ, List.flatMap_append]
    refine ⟨by rw [List.length_append, ih.1]; simp [hf]; omega, fun j i hj hi => ?_⟩
    by_cases h : j < n
    · rw [List.getElem?_append_left (by rw [ih.1]; omega)]
      exact ih.2 j i h hi
    · obtain rfl : j = n := by omega
      rw [List.getElem?_append_right (by rw [ih.1]; omega), ih.1]
      simp
set_option maxHeartbeats 4000000 in
set_option maxRecDepth 100000 in
theorem cloneRuns_of (d : Nat) (w : World) (A : Nat → Prop) (ts : List RV) (v : Value) (h : RunsAt w A d v ts) :
    Calls Tryz.prog 89 #[v] w fun e w' => ∃ v' xs, e = .returned v' ∧ w'.ownsRow w.heap.size 96 4 v' ts.length xs ∧ (∀ (j : Nat) (t : RV), ts[j]? = some t → ∃ cs, RunAt w A d t cs ∧ ∀ (i : Nat) (v : Value), cs[i]? = some v → xs[j * 4 + i]? = some v) ∧ Keeps w w' := by
  obtain ⟨p, c, rfl, hl, h1⟩ := h
  obtain ⟨i9, hi9, hz9, hs9, hb9⟩ := info_parts info96
  have q48 : ∀ (w : World) (a : Option Addr) (n c n' c' : Nat), (binOp .eql 48 (.slice a n c) (.slice none n' c')).run Tryz.prog w = .ok (.bool a.isNone) w := fun w a n c n' c' => Lib.run_eql_slice_nil w _ _ a n c n' c' under48
  cases p with
  | none =>
    have hts : ts = [] := by
      cases ts with
      | nil => rfl
      | cons t ts =>
        obtain ⟨g, o, cs, hp, _⟩ := h1 0 t rfl
        cases hp
    subst hts
    clear h1
    go_enter Tryz.func89, Tryz.ntmps89
    go_wp2
    go_ret
    exact ⟨_, [], rfl, World.ownsRow_nil _ _ _ _, fun j t hj => by simp at hj, Keeps.refl _⟩
  | some a =>
    have hex : ∀ j, j < ts.length → ∃ cs : List Value, cs.length = 4 ∧ (∀ t, ts[j]? = some t → RunAt w A d t cs) ∧ (∀ (i : Nat) (v : Value), cs[i]? = some v → w.cell? ((a.add (j * 4)).add i) = some v) ∧ ∀ u ∈ cs, u.oneCell' = true := by
      intro j hj
      obtain ⟨g, o, cs, hp, _, hc, ht⟩ := h1 j _ (List.getElem?_eq_getElem hj)
      injection hp with hp
      subst hp
      refine ⟨cs, ht.len, fun t h2 => by rw [List.getElem?_eq_getElem hj] at h2; injection h2 with h2; rw [← h2]; exact ht, fun i v hi => ?_, fun u hu => ?_⟩
      · have := hc i v hi
        have key : ((⟨g, o, none⟩ : Addr).add (j * 4)).add i = ⟨g, o + j * 4 + i, none⟩ := by
          unfold Addr.add
          split <;> split <;> simp_all
        rw [key]; exact this
      · obtain ⟨k, m, s, p, n, c, rfl⟩ := ht.four
        simp at hu
        rcases hu with rfl | rfl | rfl | rfl <;> rfl
    obtain ⟨f0, hf0⟩ := Go.Deep.choose_lt (α := List Value) (p := fun j cs => cs.length = 4 ∧ (∀ t, ts[j]? = some t → RunAt w A d t cs) ∧ (∀ (i : Nat) (v : Value), cs[i]? = some v → w.cell? ((a.add (j * 4)).add i) = some v) ∧ ∀ u ∈ cs, u.oneCell' = true) hex
    obtain ⟨f, hf⟩ : ∃ f : Nat → List Value, f = fun j => if j < ts.length then f0 j else [.nilIface, .nilIface, .nilIface, .nilIface] := ⟨_, rfl⟩
    have hf4 : ∀ j, (f j).length = 4 := fun j => by
      rw [hf]
      by_cases h : j < ts.length
      · simp only [if_pos h]; exact (hf0 j h).1
      · simp only [if_neg h]; rfl
    have hfj : ∀ j, j < ts.length → f j = f0 j := fun j h => by rw [hf]; simp only [if_pos h]
    obtain ⟨hlen, hget⟩ := flat4 hf4 ts.length
    obtain ⟨news, hnews⟩ : ∃ news, news = (List.range ts.length).flatMap f := ⟨_, rfl⟩
    rw [← hnews] at hlen hget
    have hcells : ∀ j u, news[j]? = some u → w.cell? (a.add j) = some u := fun j u hj => by
      have hj2 := (List.getElem?_eq_some_iff.1 hj).1
      rw [hlen] at hj2
      have h3 := hget (j / 4) (j % 4) (by omega) (Nat.mod_lt _ (by decide))
      rw [show j / 4 * 4 + j % 4 = j by omega, hj] at h3
      have h4 := (hf0 (j / 4) (by omega)).2.2.1 (j % 4) u (by rw [← hfj _ (by omega)]; exact h3.symm)
      have key : (a.add (j / 4 * 4)).add (j % 4) = a.add j := by
        unfold Addr.add
        split <;> split <;> split <;> simp_all <;> omega
      rw [key] at h4
      exact h4
    have hone : ∀ u ∈ news, u.oneCell' = true := fun u hu => by
      rw [hnews] at hu
      obtain ⟨j, hj, h3⟩ := List.mem_flatMap.1 hu
      rw [List.mem_range] at hj
      rw [hfj j hj] at h3
      exact (hf0 j hj).2.2.2 u h3
    have HLen := Lib.hid hlen
    have HCells := Lib.hid hcells
    have HOne := Lib.hid hone
    have HAll := Lib.hid (show ∀ (j : Nat) (t : RV), ts[j]? = some t → ∃ cs, RunAt w A d t cs ∧ ∀ (i : Nat) (v : Value), cs[i]? = some v → news[j * 4 + i]? = some v from fun j t hj => by
      have hjl := (List.getElem?_eq_some_iff.1 hj).1
      refine ⟨f0 j, (hf0 j hjl).2.1 t hj, fun i v hi => ?_⟩
      have hi4 : i < 4 := by
        have := (List.getElem?_eq_some_iff.1 hi).1
        rw [(hf0 j hjl).1] at this
        exact this
      rw [hget j i hjl hi4, hfj j hjl]
      exact hi)
    clear h1 hex hf0 hf hf4 hfj hlen hget hnews hcells hone
    go_enter Tryz.func89, Tryz.ntmps89
    go_wp2_with (at_builtin; refine holdT ?_)
    refine Lib.hid ?_
    refine wpList_append_own_at _ rfl (.tmp 5) (.tmp 6) 48 rfl w.heap.size 96 i9 (.agg #[.int .i64 0, .int .i64 0, .string ⟨#[]⟩, .slice none 0 0]) 4 56 under48 hi9 hz9 hs9 hb9 rfl (by decide) _ 0 [] rfl (World.ownsRow_made w #[] 0 (Nat.le_refl _) (Nat.zero_le _) rfl) a ts.length c news rfl HLen.out ?_ HOne.out (by unfold maxLen; omega) (by omega) (by simp) ?_
    · intro j u hj
      exact cell_keeps (Keeps.alloc _ _) (HCells.out j u hj)
    intro v' w1 hown hgrow hnil hat
    rw [Nat.zero_add] at hown
    have HOwn := Lib.hid hown
    have HK := Lib.hid (show Keeps w w1 from ((Kept.refl (fun _ => False) w).alloc (.cells #[] 96)).grown hgrow (fun k hk hlt => by cases hk; exact absurd hlt (Nat.lt_irrefl _)))
    clear hown hgrow hnil hat
    go_wp2
    go_ret
    exact ⟨_, _, rfl, HOwn.out, HAll.out, HK.out⟩
end Go.Proofs.YtbhiaeciiphelaaGreatDoor
namespace Go.Proofs.YtbhiaeciiphelaaGreatDoor
open Go.RowKit
structure CopJ (w W : World) (g : Nat) (d : Nat) (ts : List RV) (i : Nat) : Prop where
  kept : Keeps w W
  nb : w.heap.size ≤ g
  row : ∃ cur, W.heap[g]? = some (.cells cur 96 (0, 0)) ∧ ∀ (j : Nat) (t : RV), ts[j]? = some t → ∃ c0 c1 c2 c3, cur[j * 4]? = some c0 ∧ cur[j * 4 + 1]? = some c1 ∧ cur[j * 4 + 2]? = some c2 ∧ cur[j * 4 + 3]? = some c3 ∧
    RunAt W (fun b => b = g ∨ (j < i ∧ b < w.heap.size)) d t [c0, c1, c2, c3]
theorem CopJ.step {w W w2 : World} {g d i : Nat} {ts : List RV} {u : RV} {v0 v1 v2 v3 : Value} (h : CopJ w W g d ts i) (hu : ts[i]? = some u) (hr : RunAt w2 (fun b => b < W.heap.size) d u [v0, v1, v2, v3]) (hk : Keeps W w2) :
    CopJ w ((((w2.setCell ⟨g, i * 4, none⟩ v0).setCell ⟨g, i * 4 + 1, none⟩ v1).setCell ⟨g, i * 4 + 2, none⟩ v2).setCell ⟨g, i * 4 + 3, none⟩ v3) g d ts (i + 1) := by
  obtain ⟨cur, hg, hall⟩ := h.row
  have hgl := heap_lt hg
  have hg2 := hk.at hg (fun x => x)
  have hg6 := heap_set_same (o := i * 4 + 3) (heap_set_same (o := i * 4 + 2) (heap_set_same (o := i * 4 + 1) (heap_set_same (o := i * 4) hg2 v0) v1) v2) v3
  have hoth : ∀ (b : Nat) (o : Obj), w2.heap[b]? = some o → b ≠ g → ((((w2.setCell ⟨g, i * 4, none⟩ v0).setCell ⟨g, i * 4 + 1, none⟩ v1).setCell ⟨g, i * 4 + 2, none⟩ v2).setCell ⟨g, i * 4 + 3, none⟩ v3).heap[b]? = some o := fun b o hb hne => by
    rw [heap_set_other _ hne, heap_set_other _ hne, heap_set_other _ hne, heap_set_other _ hne]; exact hb
  obtain ⟨c0, c1, c2, c3, y0, y1, y2, y3, _⟩ := hall i u hu
  have hsz : i * 4 + 3 < cur.size := (Array.getElem?_eq_some_iff.1 y3).1
  refine ⟨Kept.one0 (Kept.one0 (Kept.one0 (Kept.one0 (Keeps.trans h.kept hk) h.nb _ _) h.nb _ _) h.nb _ _) h.nb _ _, h.nb, _, hg6, fun j t hj => ?_⟩
  by_cases e : j = i
  · subst e
    rw [hu] at hj; injection hj with hj; subst hj
    refine ⟨v0, v1, v2, v3, ?_, ?_, ?_, ?_, hr.keep fun b o hb hA => ⟨hoth b o hb (fun e => by omega), fun e => ?_⟩⟩
    · rw [Array.getElem?_setIfInBounds_ne (by omega), Array.getElem?_setIfInBounds_ne (by omega), Array.getElem?_setIfInBounds_ne (by omega), Array.getElem?_setIfInBounds_self_of_lt (by omega)]
    · rw [Array.getElem?_setIfInBounds_ne (by omega), Array.getElem?_setIfInBounds_ne (by omega), Array.getElem?_setIfInBounds_self_of_lt (by simp; omega)]
    · rw [Array.getElem?_setIfInBounds_ne (by omega), Array.getElem?_setIfInBounds_self_of_lt (by simp; omega)]
    · rw [Array.getElem?_setIfInBounds_self_of_lt (by simp; omega)]
    · have := h.kept.size
      omega
  · obtain ⟨a0, a1, a2, a3, x0, x1, x2, x3, hr3⟩ := hall j t hj
    refine ⟨a0, a1, a2, a3, ?_, ?_, ?_, ?_, hr3.keep fun b o hb hA => ⟨hoth b o (hk.at hb (fun x => x)) (fun e => hA (.inl e)), fun e3 => hA ?_⟩⟩
    all_goals first
      | (rcases e3 with e3 | ⟨e3, e4⟩
         · exact .inl e3
         · exact .inr ⟨by omega, e4⟩)
      | (rw [Array.getElem?_setIfInBounds_ne (by omega), Array.getElem?_setIfInBounds_ne (by omega), Array.getElem?_setIfInBounds_ne (by omega), Array.getElem?_setIfInBounds_ne (by omega)]; assumption)
theorem CopJ.all {w W : World} {g d cap : Nat} {ts : List RV} (h : CopJ w W g d ts ts.length) (hl : ts.length * 56 ≤ 140737488355328) : RunsAt W (fun b => b < w.heap.size) d (.slice (some ⟨g, 0, none⟩) ts.length cap) ts := by
  obtain ⟨cur, hg, hall⟩ := h.row
  refine ⟨_, _, rfl, hl, fun j t hj => ?_⟩
  obtain ⟨c0, c1, c2, c3, x0, x1, x2, x3, hr⟩ := hall j t hj
  have hjl := (List.getElem?_eq_some_iff.1 hj).1
  refine ⟨g, 0, [c0, c1, c2, c3], rfl, Nat.not_lt.2 h.nb, fun i v hi => ?_, hr.keep fun b o hb hA => ⟨hb, fun e => hA (.inr ⟨hjl, e⟩)⟩⟩
  rw [Nat.zero_add, cell_of_block hg]
  match i, hi with
  | 0, hi => simp at hi; subst hi; exact x0
  | 1, hi => simp at hi; subst hi; exact x1
  | 2, hi => simp at hi; subst hi; exact x2
  | 3, hi => simp at hi; subst hi; exact x3
def CopyOf (d : Nat) : Prop := ∀ (w : World) (A : Nat → Prop) (t : RV) (cs : List Value), RunAt w A d t cs → Calls Tryz.prog 54 #[.agg cs.toArray] w fun e w' => ∃ cs', e = .returned (.agg cs'.toArray) ∧ RunAt w' (fun b => b < w.heap.size) d t cs' ∧ Keeps w w'
set_option maxHeartbeats 8000000 in
set_option maxRecDepth 100000 in
theorem copiedAll_of (d : Nat) (ih : CopyOf d) (w : World) (A : Nat → Prop) (ts : List RV) (v : Value) (h : RunsAt w A d v ts) :
    Calls Tryz.prog 53 #[v] w fun e w' => ∃ v', e = .returned v' ∧ RunsAt w' (fun b => b < w.heap.size) d v' ts ∧ Keeps w w' := by
  have HI := Lib.hid ih
  have HC := Lib.hid (cloneRuns_of d w A ts v h)
  obtain ⟨p, c, rfl, hl, _⟩ := h
  have hlen := hl
  clear ih
  go_enter Tryz.func53, Tryz.ntmps53
  go_wp2_with (go_at_call 89; refine holdT ?_)
  refine Lib.hid ?_
  refine HC.out.mono ?_
  rintro _ w1 ⟨v', xs, rfl, hrow, hxs, hk⟩
  rcases hrow.2 with ⟨rfl, h0⟩ | ⟨g, cap, cur, rfl, hb, hg, hc, hcm, hcs, htake⟩
  · have hts : ts = [] := List.eq_nil_of_length_eq_zero h0
    subst hts
    have HK := Lib.hid hk
    clear hk hrow hxs
    go_wp2_with fail
    go_loopw [9] (fun q W => q = .int .i64 0 ∧ Keeps w W) (fun _ _ => 0)
    case atStart => exact ⟨rfl, HK.out⟩
    case round =>
      obtain ⟨rfl, hk⟩ := hrel
      go_wp2_with fail
      go_ret
      exact ⟨_, rfl, ⟨none, 0, rfl, by simp, fun j t hj => by simp at hj⟩, hk⟩
  · have hcj : CopJ w w1 g d ts 0 := ⟨hk, hb, cur, hg, fun j t hj => by
      obtain ⟨cs, hr, hcs2⟩ := hxs j t hj
      obtain ⟨k, m, s, p, n, c, rfl⟩ := hr.four
      have hx : ∀ (i : Nat) (v : Value), ([Value.int .i64 k, .int .i64 m, .string s, .slice p n c] : List Value)[i]? = some v → cur[j * 4 + i]? = some v := fun i v hi => by
        have h3 := hcs2 i v hi
        rw [← htake, List.getElem?_take] at h3
        split at h3
        · simpa using h3
        · cases h3
      refine ⟨_, _, _, _, hx 0 _ rfl, hx 1 _ rfl, hx 2 _ rfl, hx 3 _ rfl, hr.keep fun b o hbo hA => ⟨hk.at hbo (fun x => x), fun e => ?_⟩⟩
      rcases e with rfl | ⟨e, _⟩
      · have := heap_lt hbo; omega
      · exact absurd e (Nat.not_lt_zero _)⟩
    have HJ0 := Lib.hid hcj
    have hcap : cap ≤ 9223372036854775807 := hcm
    clear hcj hrow hxs htake hcs hk hg
    go_wp2_with fail
    go_loopw [9] (fun q W => ∃ i : Nat, i ≤ ts.length ∧ q = .int .i64 i ∧ CopJ w W g d ts i) (fun q _ => ts.length - (intOf q).toNat)
    case atStart => exact ⟨0, Nat.zero_le _, rfl, HJ0.out⟩
    case round =>
      obtain ⟨i, hi, rfl, hj⟩ := hrel
      have HJ := Lib.hid hj
      by_cases hil : i < ts.length
      · obtain ⟨u, hu⟩ : ∃ u, ts[i]? = some u := ⟨_, List.getElem?_eq_getElem hil⟩
        obtain ⟨cur2, hg2, hall⟩ := hj.row
        obtain ⟨c0, c1, c2, c3, x0, x1, x2, x3, hr⟩ := hall i u hu
        have z0 := cell_of_block hg2 (i * 4)
        have z1 := cell_of_block hg2 (i * 4 + 1)
        have z2 := cell_of_block hg2 (i * 4 + 2)
        have z3 := cell_of_block hg2 (i * 4 + 3)
        rw [x0] at z0
        rw [x1] at z1
        rw [x2] at z2
        rw [x3] at z3
        have k6 : (i : Int) < ts.length := by omega
        have k7 : (0 : Int) ≤ i := by omega
        have HU := Lib.hid hu
        have HG2 := Lib.hid hg2
        have HAll := Lib.hid hall
        have HCp := Lib.hid (HI.out wr _ u _ hr)
        obtain ⟨k0, m0, s0, p0, n0, d0, he⟩ := hr.four
        injection he with e0 he
        injection he with e1 he
        injection he with e2 he
        injection he with e3 he
        subst e0 e1 e2 e3
        clear hj hall hr hg2 hu x0 x1 x2 x3
        go_wp2_with (go_at_call 54; refine holdT ?_)
        refine Lib.hid ?_
        refine HCp.out.mono ?_
        rintro _ w2 ⟨cs', rfl, hr2, hk2⟩
        obtain ⟨k9, m9, s9, p9, n9, d9, rfl⟩ := hr2.four
        have hg3 := hk2.at HG2.out (fun x => x)
        have f0 := free_of_block hg3 (i * 4)
        have f1 := free_of_block hg3 (i * 4 + 1)
        have f2 := free_of_block hg3 (i * 4 + 2)
        have f3 := free_of_block hg3 (i * 4 + 3)
        have y0 := cell_keeps hk2 z0
        have y1 := cell_keeps hk2 z1
        have y2 := cell_keeps hk2 z2
        have y3 := cell_keeps hk2 z3
        have HG3 := Lib.hid hg3
        have HR2 := Lib.hid hr2
        have HK2 := Lib.hid hk2
        clear hg3 hr2 hk2 z0 z1 z2 z3
        go_wp2_with fail
        go_roundw
        case rel => exact ⟨i + 1, by omega, by go_num, HJ.out.step HU.out HR2.out HK2.out⟩
        case measure => simp [intOf] <;> omega
      · obtain rfl : i = ts.length := by omega
        go_wp2_with fail
        go_ret
        exact ⟨_, rfl, HJ.out.all hlen, HJ.out.kept⟩
set_option maxHeartbeats 4000000 in
set_option maxRecDepth 100000 in
theorem copied_of : ∀ d : Nat, CopyOf d
  | 0 => fun w A t cs h => h.elim
  | d + 1 => fun w A t cs h => by
    obtain ⟨k, m, s, args⟩ := t
    obtain ⟨p, c, rfl, hl, h1⟩ := h
    have HC := Lib.hid (fun (W : World) (hW : Keeps w W) => copiedAll_of d (copied_of d) W A args (.slice p args.length c) ⟨p, c, rfl, hl, fun j t hj => by
      obtain ⟨g, o, cs', hp, hA, hc, ht⟩ := h1 j t hj
      exact ⟨g, o, cs', hp, hA, fun i v hi => cell_keeps hW (hc i v hi), ht.keep (keeps_hk hW)⟩⟩)
    clear h1
    go_enter Tryz.func54, Tryz.ntmps54
    go_wp2_with (go_at_call 53; refine holdT ?_)
    refine Lib.hid ?_
    obtain ⟨W0, hW0⟩ : ∃ W0, W0 = (w.alloc (.cells #[.int .i64 k, .int .i64 m, .string s, .slice p args.length c] 96)).alloc (.cells #[.int .i64 0, .int .i64 0, .string ⟨#[]⟩, .slice none 0 0] 96) := ⟨_, rfl⟩
    have hk0 : Keeps w W0 := by rw [hW0]; exact Kept.alloc (Keeps.alloc _ _) _
    have hb1 : W0.heap[w.heap.size]? = some (.cells #[.int .i64 k, .int .i64 m, .string s, .slice p args.length c] 96 (0, 0)) := by rw [hW0]; exact heap_alloc_old _ (heap_alloc_at _ _)
    have hb2 : W0.heap[w.heap.size + 1]? = some (.cells #[.int .i64 0, .int .i64 0, .string ⟨#[]⟩, .slice none 0 0] 96 (0, 0)) := by
      rw [hW0]
      have h9 := heap_alloc_at (w.alloc (.cells #[.int .i64 k, .int .i64 m, .string s, .slice p args.length c] 96)) (.cells #[.int .i64 0, .int .i64 0, .string ⟨#[]⟩, .slice none 0 0] 96)
      rw [World.size_alloc] at h9
      exact h9
    have hsz : W0.heap.size = w.heap.size + 2 := by rw [hW0]; simp
    rw [← hW0]
    refine (HC.out W0 hk0).mono ?_
    rintro _ w1 ⟨v', rfl, hr, hk1⟩
    obtain ⟨p1, c1, rfl, hl1, hall⟩ := hr
    have b1 := hk1.at hb1 (fun x => x)
    have b2 := hk1.at hb2 (fun x => x)
    have a0 := cell_of_block b1 0
    have a1 := cell_of_block b1 1
    have a2 := cell_of_block b1 2
    have a3 := cell_of_block b1 3
    have f3 := free_of_block b1 3
    have d0 := cell_of_block b2 0
    have d1 := cell_of_block b2 1
    have d2 := cell_of_block b2 2
    have d3 := cell_of_block b2 3
    have g0 := free_of_block b2 0
    have g1 := free_of_block b2 1
    have g2 := free_of_block b2 2
    have g3 := free_of_block b2 3
    simp at a0 a1 a2 a3 d0 d1 d2 d3
    have HB1 := Lib.hid b1
    have HB2 := Lib.hid b2
    have HAll := Lib.hid hall
    have HK := Lib.hid (Keeps.trans hk0 hk1)
    have HK1 := Lib.hid hk1
    have HSz := Lib.hid hsz
    clear hW0 hk0 hb1 hb2 hk1 b1 b2 hall hsz
    go_wp2_with fail
    try rw [Exit.noGoto_ret]
    have h0 := HB2.out
    have hsz := HSz.out
    have hfin : (((((w1.setCell ⟨w.heap.size, 3, none⟩ (.slice p1 args.length c1)).setCell ⟨w.heap.size + 1, 0, none⟩ (.int .i64 k)).setCell ⟨w.heap.size + 1, 1, none⟩ (.int .i64 m)).setCell ⟨w.heap.size + 1, 2, none⟩ (.string s)).setCell ⟨w.heap.size + 1, 3, none⟩ (.slice p1 args.length c1)).heap[w.heap.size + 1]? = some (.cells #[.int .i64 k, .int .i64 m, .string s, .slice p1 args.length c1] 96 (0, 0)) := by
      have h1 : (w1.setCell ⟨w.heap.size, 3, none⟩ (.slice p1 args.length c1)).heap[w.heap.size + 1]? = some (.cells #[.int .i64 0, .int .i64 0, .string ⟨#[]⟩, .slice none 0 0] 96 (0, 0)) := by rw [heap_set_other _ (by omega)]; exact h0
      rw [heap_set_same (heap_set_same (heap_set_same (heap_set_same h1 _) _) _) _]
      rfl
    have hoth : ∀ (b : Nat) (o : Obj), w1.heap[b]? = some o → w.heap.size + 2 ≤ b → (((((w1.setCell ⟨w.heap.size, 3, none⟩ (.slice p1 args.length c1)).setCell ⟨w.heap.size + 1, 0, none⟩ (.int .i64 k)).setCell ⟨w.heap.size + 1, 1, none⟩ (.int .i64 m)).setCell ⟨w.heap.size + 1, 2, none⟩ (.string s)).setCell ⟨w.heap.size + 1, 3, none⟩ (.slice p1 args.length c1)).heap[b]? = some o := fun b o hb hge => by
      rw [heap_set_other _ (by omega), heap_set_other _ (by omega), heap_set_other _ (by omega), heap_set_other _ (by omega), heap_set_other _ (by omega)]; exact hb
    refine bodyPost_ret (results_cell_row rfl _ _ (w.heap.size + 1) 96 _ _ _ rfl hfin Tryz.underlying96 rfl (by kernel_rfl)) rfl ⟨[.int .i64 k, .int .i64 m, .string s, .slice p1 args.length c1], rfl, ⟨p1, c1, rfl, hl1, fun j t hj => ?_⟩, ?_⟩
    · obtain ⟨g, o, cs', hp, hA, hc, ht⟩ := HAll.out j t hj
      have h4 := ht.len
      obtain ⟨v0, hv0⟩ : ∃ v0, cs'[0]? = some v0 := ⟨cs'[0]'(by omega), List.getElem?_eq_getElem _⟩
      have hg := World.block_lt_of_cell? _ _ (hc 0 v0 hv0)
      refine ⟨g, o, cs', hp, by omega, fun i v hi => ?_, ht.keep fun b o hb hA => ⟨hoth b o hb (by omega), by omega⟩⟩
      rw [World.cell?_of_block (w := w1) (a := ⟨g, o + j * 4 + i, none⟩) (by rw [hoth g _ (Array.getElem?_eq_getElem hg) (by omega), Array.getElem?_eq_getElem hg])]
      exact hc i v hi
    · have h := HK.out
      exact Kept.one0 (Kept.one0 (Kept.one0 (Kept.one0 (Kept.one0 h (Nat.le_refl _) _ _) (Nat.le_succ _) _ _) (Nat.le_succ _) _ _) (Nat.le_succ _) _ _) (Nat.le_succ _) _ _
end Go.Proofs.YtbhiaeciiphelaaGreatDoor
