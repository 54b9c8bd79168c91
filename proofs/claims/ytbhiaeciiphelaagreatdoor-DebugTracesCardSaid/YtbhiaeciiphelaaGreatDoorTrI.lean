/-
  DERIVED. The functions put and close on nodes under way. Condition: they lie in memory.
-/
import Derived.Test.YtbhiaeciiphelaaGreatDoorTrP
import Derived.Deep.AppendLies
import Derived.Deep.RegionLaw
namespace Go.Proofs.YtbhiaeciiphelaaGreatDoor
open Go.RowKit
def putL (W : World) (g : Nat) : Nat → List Value → World
  | _, [] => W
  | o, v :: l => putL (W.setCell ⟨g, o, none⟩ v) g (o + 1) l
theorem putL_other {g : Nat} : ∀ (l : List Value) (W : World) (o k : Nat), k ≠ g → (putL W g o l).heap[k]? = W.heap[k]?
  | [], _, _, _, _ => rfl
  | v :: l, W, o, k, hk => by rw [putL, putL_other l _ _ _ hk, heap_set_other _ hk]
theorem putL_kept {g : Nat} {S : Nat → Prop} {a : World} (hg : g < a.heap.size → S g) : ∀ (l : List Value) (W : World) (o : Nat), Kept S a W → Kept S a (putL W g o l)
  | [], _, _, h => h
  | v :: l, _W, o, h => putL_kept hg l _ _ (h.setCell (p := ⟨g, o, none⟩) hg v)
def setL : List Value → Nat → List Value → List Value
  | xs, _, [] => xs
  | xs, o, v :: l => setL (xs.set o v) (o + 1) l
theorem setL_get : ∀ (l xs : List Value) (o j : Nat), o + l.length ≤ xs.length → (setL xs o l)[j]? = if o ≤ j ∧ j < o + l.length then l[j - o]? else xs[j]?
  | [], xs, o, j, _ => by simp [setL]; intro h1 h2; omega
  | v :: l, xs, o, j, h => by
    simp only [List.length_cons] at h
    rw [setL, setL_get l _ _ _ (by simp; omega)]
    by_cases h1 : j = o
    · subst h1
      rw [if_neg (by omega), if_pos (by simp), List.getElem?_set_self (by omega)]
      simp
    · by_cases h2 : o + 1 ≤ j ∧ j < o + 1 + l.length
      · rw [if_pos h2, if_pos (by simp; omega), show j - o = (j - (o + 1)) + 1 by omega, List.getElem?_cons_succ]
      · rw [if_neg h2, if_neg (by simp; omega), List.getElem?_set_ne (by omega)]
theorem setL_end (xs zs l : List Value) (h : zs.length = l.length) : setL (xs ++ zs) xs.length l = xs ++ l := by
  apply List.ext_getElem?
  intro j
  rw [setL_get _ _ _ _ (by simp; omega)]
  by_cases h1 : j < xs.length
  · rw [if_neg (by omega), List.getElem?_append_left h1, List.getElem?_append_left h1]
  · by_cases h2 : j < xs.length + l.length
    · rw [if_pos (by omega), List.getElem?_append_right (by omega)]
    · rw [if_neg (by omega), List.getElem?_append_right (by omega), List.getElem?_append_right (by omega), List.getElem?_eq_none (by omega), List.getElem?_eq_none (by omega)]
theorem row_put {base ty sz g n cap : Nat} : ∀ (l : List Value) (W : World) (xs : List Value) (o : Nat), W.ownsRow base ty sz (.slice (some ⟨g, 0, none⟩) n cap) n xs → (putL W g o l).ownsRow base ty sz (.slice (some ⟨g, 0, none⟩) n cap) n (setL xs o l)
  | [], _, _, _, h => h
  | v :: l, _W, _xs, o, h => row_put l _ _ _ (h.stored o v).1
theorem put_tail {base n g cap b : Nat} {w5 W6 : World} {v v' : Value} {p' : Option Addr} {xs zs cs : List Value} (hxs : xs.length = n * 13) (hr : w5.ownsRow base 114 13 (.slice (some ⟨g, 0, none⟩) (n + 1) cap) (n + 1) (xs ++ zs)) (hz : zs.length = cs.length)
    (hb : w5.heap[b]? = some (.cells #[v, .pointer p'] 110 (0, 0))) (hv' : v' = .slice (some ⟨g, 0, none⟩) (n + 1) cap) (h6 : W6 = (putL w5 g (n * 13) cs).setCell ⟨b, 0, none⟩ v' ∨ W6 = putL (w5.setCell ⟨b, 0, none⟩ v') g (n * 13) cs) :
    W6.heap[b]? = some (.cells #[v', .pointer p'] 110 (0, 0)) ∧ W6.ownsRow base 114 13 v' (n + 1) (xs ++ cs) ∧ Kept (fun k => k = b ∨ k = g) w5 W6 ∧ W6.heap.size = w5.heap.size := by
  subst hv'
  obtain ⟨cur, hc⟩ := row_block hr (g := g) rfl
  have hbg : b ≠ g := fun e => by rw [e, hc] at hb; simp at hb
  have hsz : ∀ (l : List Value) (W : World) (o : Nat), (putL W g o l).heap.size = W.heap.size := by
    intro l
    induction l with
    | nil => exact fun _ _ => rfl
    | cons v l ih => intro W o; rw [putL, ih]; simp [World.setCell]
  rcases h6 with rfl | rfl
  · have hb1 : (putL w5 g (n * 13) cs).heap[b]? = some (.cells #[v, .pointer p'] 110 (0, 0)) := by rw [putL_other _ _ _ _ hbg]; exact hb
    refine ⟨heap_set_same hb1 _, ?_, (putL_kept (fun _ => .inr rfl) _ _ _ (Kept.refl _ _)).setCell (p := ⟨b, 0, none⟩) (fun _ => .inl rfl) _, by rw [← hsz cs w5 (n * 13)]; simp [World.setCell]⟩
    have h1 := row_put cs w5 (xs ++ zs) (n * 13) hr
    rw [← hxs, setL_end _ _ _ hz] at h1
    rw [← hxs]
    refine row_same h1 fun k hk => heap_set_other _ ?_
    injection hk with hk
    rw [← hk]
    exact fun e => hbg e.symm
  · have hr1 : (w5.setCell ⟨b, 0, none⟩ (.slice (some ⟨g, 0, none⟩) (n + 1) cap)).ownsRow base 114 13 (.slice (some ⟨g, 0, none⟩) (n + 1) cap) (n + 1) (xs ++ zs) := row_same hr fun k hk => heap_set_other _ (by
      injection hk with hk
      rw [← hk]
      exact fun e => hbg e.symm)
    refine ⟨by rw [putL_other _ _ _ _ hbg]; exact heap_set_same hb _, ?_, putL_kept (fun _ => .inr rfl) _ _ _ ((Kept.refl _ _).setCell (p := ⟨b, 0, none⟩) (fun _ => .inl rfl) _), by rw [hsz]; simp [World.setCell]⟩
    have h1 := row_put cs _ (xs ++ zs) (n * 13) hr1
    rw [← hxs, setL_end _ _ _ hz] at h1
    rw [← hxs]
    exact h1
theorem putL13 (W : World) (g o : Nat) (c0 c1 c2 c3 c4 c5 c6 c7 c8 c9 c10 c11 c12 : Value) : putL W g o [c0, c1, c2, c3, c4, c5, c6, c7, c8, c9, c10, c11, c12] = ((((((((((((W.setCell ⟨g, o, none⟩ c0).setCell ⟨g, o + 1, none⟩ c1).setCell ⟨g, o + 2, none⟩ c2).setCell ⟨g, o + 3, none⟩ c3).setCell ⟨g, o + 4, none⟩ c4).setCell ⟨g, o + 5, none⟩ c5).setCell ⟨g, o + 6, none⟩ c6).setCell ⟨g, o + 7, none⟩ c7).setCell ⟨g, o + 8, none⟩ c8).setCell ⟨g, o + 9, none⟩ c9).setCell ⟨g, o + 10, none⟩ c10).setCell ⟨g, o + 11, none⟩ c11).setCell ⟨g, o + 12, none⟩ c12 := rfl
theorem info114 : (Tryz.prog.info? 114).map (fun i => (i.zero, i.size, i.bytes)) = some (some (.agg #[.bool false, .int .i64 0, .int .i64 0, .slice none 0 0, .int .i64 0, .int .i64 0, .string ⟨#[]⟩, .slice none 0 0, .int .i64 0, .int .i64 0, .string ⟨#[]⟩, .slice none 0 0, .slice none 0 0]), 13, 184) := by kernel_rfl
theorem under40 : Tryz.prog.underlying 40 = some (.slice 114) := by kernel_rfl
set_option maxHeartbeats 8000000 in
set_option maxRecDepth 100000 in
theorem put_of {w W0 W1 : World} {e D b : Nat} {K : List ND} {S : List (List ND × ND)} {v : Value} {xs : List Value} {p' : Option Addr} (h : NestAt w W0 e D K S b v xs p') (hS : S.length < D) (hk0 : Keeps W0 W1) (hK : K.length ≤ 60000)
    {mo : Bool} {si ad k1 m1 k2 m2 : Int} {s1 s2 : ByteArray} {pa p1 p2 : Option Addr} {na ca n1 d1 n2 d2 : Nat} {nd : ND}
    (hcs : ∀ d, NodeCs W1 (fun g => g < W0.heap.size) e d nd [.bool mo, .int .i64 si, .int .i64 ad, .slice pa na ca, .int .i64 k1, .int .i64 m1, .string s1, .slice p1 n1 d1, .int .i64 k2, .int .i64 m2, .string s2, .slice p2 n2 d2, .slice none 0 0]) :
    Calls Tryz.prog 52 #[.pointer (some ⟨b, 0, none⟩), .agg #[.bool mo, .int .i64 si, .int .i64 ad, .slice pa na ca, .int .i64 k1, .int .i64 m1, .string s1, .slice p1 n1 d1, .int .i64 k2, .int .i64 m2, .string s2, .slice p2 n2 d2, .slice none 0 0]] W1 fun x W' =>
      ∃ nb, x = .returned (.pointer (some ⟨nb, 0, none⟩)) ∧ NestAt w W' e D [] ((K, nd) :: S) nb (.slice none 0 0) [] (some ⟨b, 0, none⟩) ∧ ∀ (k : Nat) (c : Array Value), W1.heap[k]? = some (.cells c 98 (0, 0)) → W'.heap[k]? = some (.cells c 98 (0, 0)) := by
  have h1 := h.keeps hk0
  obtain ⟨i14, hi14, hz14, hs14, hb14⟩ := info_parts info114
  have b0 : W1.cell? ⟨b, 0, none⟩ = some v := by rw [cell_of_block h1.blk]; rfl
  have f0 := free_of_block h1.blk 0
  have hlt := heap_lt h1.blk
  have H := Lib.hid h
  have H1 := Lib.hid h1
  have HC := Lib.hid hcs
  obtain ⟨N, hN⟩ : ∃ N, N = K.length := ⟨_, rfl⟩
  have HN := Lib.hid hN
  obtain ⟨qv, cv, hv⟩ : ∃ q c, v = .slice q N c := by
    rcases h1.row.2 with ⟨hv, h0⟩ | ⟨g, cap, cur, hv, _⟩
    · exact ⟨none, 0, by rw [hv, hN, h0]⟩
    · exact ⟨_, cap, by rw [hv, hN]⟩
  subst hv
  have hNK : N ≤ 60000 := by omega
  have key : ∀ (g5 cap5 nb : Nat) (w5 W6 : World), w5.ownsRow w.heap.size 114 13 (.slice (some ⟨g5, 0, none⟩) (N + 1) cap5) (N + 1) (xs ++ [.bool false, .int .i64 0, .int .i64 0, .slice none 0 0, .int .i64 0, .int .i64 0, .string ⟨#[]⟩, .slice none 0 0, .int .i64 0, .int .i64 0, .string ⟨#[]⟩, .slice none 0 0, .slice none 0 0]) →
      Kept (fun k => (Value.slice qv N cv).ownBlock = some k) W1 w5 → ((Value.slice qv N cv).ownBlock = some g5 ∨ g5 = W1.heap.size + 1 + 1) → nb = w5.heap.size →
      (W6 = (putL w5 g5 (N * 13) [.bool mo, .int .i64 si, .int .i64 ad, .slice pa na ca, .int .i64 k1, .int .i64 m1, .string s1, .slice p1 n1 d1, .int .i64 k2, .int .i64 m2, .string s2, .slice p2 n2 d2, .slice none 0 0]).setCell ⟨b, 0, none⟩ (.slice (some ⟨g5, 0, none⟩) (N + 1) cap5) ∨ W6 = putL (w5.setCell ⟨b, 0, none⟩ (.slice (some ⟨g5, 0, none⟩) (N + 1) cap5)) g5 (N * 13) [.bool mo, .int .i64 si, .int .i64 ad, .slice pa na ca, .int .i64 k1, .int .i64 m1, .string s1, .slice p1 n1 d1, .int .i64 k2, .int .i64 m2, .string s2, .slice p2 n2 d2, .slice none 0 0]) →
      NestAt w (W6.alloc (.cells #[.slice none 0 0, .pointer (some ⟨b, 0, none⟩)] 110)) e D [] ((K, nd) :: S) nb (.slice none 0 0) [] (some ⟨b, 0, none⟩) ∧ ∀ (k : Nat) (c : Array Value), W1.heap[k]? = some (.cells c 98 (0, 0)) → (W6.alloc (.cells #[.slice none 0 0, .pointer (some ⟨b, 0, none⟩)] 110)).heap[k]? = some (.cells c 98 (0, 0)) := by
    intro g5 cap5 nb w5 W6 hown hgk hat hnb h6
    have hxs : xs.length = N * 13 := by rw [hN]; exact h1.row.1
    have hnvb : (Value.slice qv N cv).ownBlock ≠ some b := fun e => by
      obtain ⟨cur, hc⟩ := row_block h1.row e
      rw [h1.blk] at hc; simp at hc
    obtain ⟨t1, t2, t3, t4⟩ := put_tail (v' := .slice (some ⟨g5, 0, none⟩) (N + 1) cap5) hxs hown (by rfl) (hgk.at h1.blk hnvb) rfl h6
    have hg5 : ∀ k, k = g5 → k < W1.heap.size → (Value.slice qv N cv).ownBlock = some k := fun k hk hlt => by
      subst hk
      rcases hat with e | e
      · exact e
      · omega
    have hk6 : Kept (fun k => k = b ∨ (Value.slice qv N cv).ownBlock = some k) W1 W6 := Kept.trans (hgk.mono (fun _ _ x => .inr x)) t3 (fun k hlt hx => by
      rcases hx with hx | hx
      · exact .inl hx
      · exact .inr (hg5 k hx hlt))
    have hk7 := hk6.alloc (.cells #[.slice none 0 0, .pointer (some ⟨b, 0, none⟩)] 110)
    refine ⟨h.put (W1 := W1) (cs := [.bool mo, .int .i64 si, .int .i64 ad, .slice pa na ca, .int .i64 k1, .int .i64 m1, .string s1, .slice p1 n1 d1, .int .i64 k2, .int .i64 m2, .string s2, .slice p2 n2 d2, .slice none 0 0]) (v' := .slice (some ⟨g5, 0, none⟩) (N + 1) cap5) hS hk0 hcs hk7 (heap_alloc_old _ t1) (by rw [← hN]; exact t2.alloc _) ?_ ?_ ?_, fun k c hk => hk7.at hk ?_⟩
    · rcases hat with e | e
      · exact .inl e.symm
      · exact .inr ⟨g5, rfl, by omega⟩
    · rw [hnb, ← t4]; exact heap_alloc_at _ _
    · rw [hnb]; exact hgk.size
    · rintro (rfl | e)
      · rw [h1.blk] at hk; simp at hk
      · obtain ⟨cur, hc⟩ := row_block h1.row e
        rw [hc] at hk; simp at hk
  have keyA := fun (g5 cap5 : Nat) (w5 : World) h1 h2 h3 => key g5 cap5 w5.heap.size w5 _ h1 h2 h3 rfl (.inl rfl)
  have keyB := fun (g5 cap5 : Nat) (w5 : World) h1 h2 h3 => key g5 cap5 w5.heap.size w5 _ h1 h2 h3 rfl (.inr rfl)
  simp only [putL13] at keyA keyB
  have KA := Lib.hid keyA
  have KB := Lib.hid keyB
  have hgv : ∀ g5, ((Value.slice qv N cv).ownBlock = some g5 ∨ g5 = W1.heap.size + 1 + 1) → b ≠ g5 := fun g5 hat e => by
    rcases hat with e2 | e2
    · obtain ⟨cur, hc⟩ := row_block h1.row e2
      rw [← e, h1.blk] at hc; simp at hc
    · omega
  have HGV := Lib.hid hgv
  have hvb : (Value.slice qv N cv).ownBlock ≠ some b := fun e => by
    obtain ⟨cur, hc⟩ := row_block h1.row e
    rw [h1.blk] at hc; simp at hc
  have HVB := Lib.hid hvb
  have hi1 : (N : Int) < N + 1 := by omega
  have hi2 : (0 : Int) ≤ N := by omega
  have hb1 : b ≠ W1.heap.size := by omega
  have hb2 : b ≠ W1.heap.size + 1 := by omega
  have HXL := Lib.hid (show xs.length = N * 13 by rw [hN]; exact h1.row.1)
  have HRow := Lib.hid (show W1.ownsRow w.heap.size 114 13 (.slice qv N cv) N xs by have h9 := h1.row; rw [← hN] at h9; exact h9)
  have HSz := Lib.hid h1.kept.size
  clear h h1 hcs hN hk0 key keyA keyB hgv hvb
  go_enter Tryz.func52, Tryz.ntmps52
  go_wp2_with fail
  go_region_law
    ((refine step_append_lies _ (by rfl) _ _ _ (by rfl) w.heap.size 114 i14 (.agg #[.bool false, .int .i64 0, .int .i64 0, .slice none 0 0, .int .i64 0, .int .i64 0, .string ⟨#[]⟩, .slice none 0 0, .int .i64 0, .int .i64 0, .string ⟨#[]⟩, .slice none 0 0, .slice none 0 0]) 13 184 under40 hi14 hz14 hs14 hb14 rfl (by decide) (.slice qv N cv) N xs (by rfl) (((HRow.out.alloc _).drew).alloc _) ⟨W1.heap.size + 1, 0, none⟩ 1 1 [.bool false, .int .i64 0, .int .i64 0, .slice none 0 0, .int .i64 0, .int .i64 0, .string ⟨#[]⟩, .slice none 0 0, .int .i64 0, .int .i64 0, .string ⟨#[]⟩, .slice none 0 0, .slice none 0 0] (by rfl) (by rfl) (World.news_of_block (cs := #[.bool false, .int .i64 0, .int .i64 0, .slice none 0 0, .int .i64 0, .int .i64 0, .string ⟨#[]⟩, .slice none 0 0, .int .i64 0, .int .i64 0, .string ⟨#[]⟩, .slice none 0 0, .slice none 0 0]) (t := 114) (fr := (0, 0)) (by have h9 := heap_alloc_new (W1.alloc (.cells #[.bool mo, .int .i64 si, .int .i64 ad, .slice pa na ca, .int .i64 k1, .int .i64 m1, .string s1, .slice p1 n1 d1, .int .i64 k2, .int .i64 m2, .string s2, .slice p2 n2 d2, .slice none 0 0] 114)).drew (.cells #[.bool false, .int .i64 0, .int .i64 0, .slice none 0 0, .int .i64 0, .int .i64 0, .string ⟨#[]⟩, .slice none 0 0, .int .i64 0, .int .i64 0, .string ⟨#[]⟩, .slice none 0 0, .slice none 0 0] 114); rw [show (W1.alloc (.cells #[.bool mo, .int .i64 si, .int .i64 ad, .slice pa na ca, .int .i64 k1, .int .i64 m1, .string s1, .slice p1 n1 d1, .int .i64 k2, .int .i64 m2, .string s2, .slice p2 n2 d2, .slice none 0 0] 114)).drew.heap.size = W1.heap.size + 1 from World.size_alloc _ _] at h9; exact h9)) (by simp [Value.oneCell']) (by omega) (by unfold maxLen; omega) (by omega) (by have h9 := HSz.out; simp; omega) (W1.heap.size + 1 + 1) (by simp) ?_; intro g5 cap5 w5 hown hgrow hat hlt5; have hbg := HGV.out g5 hat; have hgb : g5 ≠ b := (fun e => hbg e.symm); have yb : w5.cell? ⟨b, 0, none⟩ = some (.slice qv N cv) := (by rw [hgrow.cell_far _ (by simp <;> omega) (Ne.symm HVB.out)] <;> simp [World.cell?_alloc_some, b0]); have yf : w5.frozen? ⟨b, 0, none⟩ = false := (by rw [hgrow.frozen_far _ (by simp <;> omega) (Ne.symm HVB.out)] <;> simp [World.frozen?_alloc_old, f0, hb1, hb2]); have hfr : ∀ j, w5.frozen? ⟨g5, j, none⟩ = false := (fun j => hown.frozenAt j); have z0 : w5.cell? ⟨g5, N * 13 + 0, none⟩ = some (.bool false) := (hown.cellAt _ (by omega)).trans (by rw [List.getElem?_append_right (by rw [HXL.out]; omega), HXL.out, Nat.add_sub_cancel_left]; rfl); have z1 : w5.cell? ⟨g5, N * 13 + 1, none⟩ = some (.int .i64 0) := (hown.cellAt _ (by omega)).trans (by rw [List.getElem?_append_right (by rw [HXL.out]; omega), HXL.out, Nat.add_sub_cancel_left]; rfl); have z2 : w5.cell? ⟨g5, N * 13 + 2, none⟩ = some (.int .i64 0) := (hown.cellAt _ (by omega)).trans (by rw [List.getElem?_append_right (by rw [HXL.out]; omega), HXL.out, Nat.add_sub_cancel_left]; rfl); have z3 : w5.cell? ⟨g5, N * 13 + 3, none⟩ = some (.slice none 0 0) := (hown.cellAt _ (by omega)).trans (by rw [List.getElem?_append_right (by rw [HXL.out]; omega), HXL.out, Nat.add_sub_cancel_left]; rfl); have z4 : w5.cell? ⟨g5, N * 13 + 4, none⟩ = some (.int .i64 0) := (hown.cellAt _ (by omega)).trans (by rw [List.getElem?_append_right (by rw [HXL.out]; omega), HXL.out, Nat.add_sub_cancel_left]; rfl); have z5 : w5.cell? ⟨g5, N * 13 + 5, none⟩ = some (.int .i64 0) := (hown.cellAt _ (by omega)).trans (by rw [List.getElem?_append_right (by rw [HXL.out]; omega), HXL.out, Nat.add_sub_cancel_left]; rfl); have z6 : w5.cell? ⟨g5, N * 13 + 6, none⟩ = some (.string ⟨#[]⟩) := (hown.cellAt _ (by omega)).trans (by rw [List.getElem?_append_right (by rw [HXL.out]; omega), HXL.out, Nat.add_sub_cancel_left]; rfl); have z7 : w5.cell? ⟨g5, N * 13 + 7, none⟩ = some (.slice none 0 0) := (hown.cellAt _ (by omega)).trans (by rw [List.getElem?_append_right (by rw [HXL.out]; omega), HXL.out, Nat.add_sub_cancel_left]; rfl); have z8 : w5.cell? ⟨g5, N * 13 + 8, none⟩ = some (.int .i64 0) := (hown.cellAt _ (by omega)).trans (by rw [List.getElem?_append_right (by rw [HXL.out]; omega), HXL.out, Nat.add_sub_cancel_left]; rfl); have z9 : w5.cell? ⟨g5, N * 13 + 9, none⟩ = some (.int .i64 0) := (hown.cellAt _ (by omega)).trans (by rw [List.getElem?_append_right (by rw [HXL.out]; omega), HXL.out, Nat.add_sub_cancel_left]; rfl); have z10 : w5.cell? ⟨g5, N * 13 + 10, none⟩ = some (.string ⟨#[]⟩) := (hown.cellAt _ (by omega)).trans (by rw [List.getElem?_append_right (by rw [HXL.out]; omega), HXL.out, Nat.add_sub_cancel_left]; rfl); have z11 : w5.cell? ⟨g5, N * 13 + 11, none⟩ = some (.slice none 0 0) := (hown.cellAt _ (by omega)).trans (by rw [List.getElem?_append_right (by rw [HXL.out]; omega), HXL.out, Nat.add_sub_cancel_left]; rfl); have z12 : w5.cell? ⟨g5, N * 13 + 12, none⟩ = some (.slice none 0 0) := (hown.cellAt _ (by omega)).trans (by rw [List.getElem?_append_right (by rw [HXL.out]; omega), HXL.out, Nat.add_sub_cancel_left]; rfl); rw [Nat.add_zero] at z0; have HOwn := Lib.hid hown; have HGr := Lib.hid (show Kept (fun k => (Value.slice qv N cv).ownBlock = some k) W1 w5 from (by first | exact ((((Kept.refl _ W1).alloc _).drew).alloc _).grown hgrow (fun k hk _ => hk) | exact ((((Kept.refl _ W1).alloc _).alloc _).drew).grown hgrow (fun k hk _ => hk))); have HAt := Lib.hid hat; clear hown hgrow hat))
  all_goals
    clear z0 z1 z2 z3 z4 z5 z6 z7 z8 z9 z10 z11 z12 yb yf hfr hbg hgb hlt5
    go_wp2_with fail
    go_ret
    refine ⟨_, rfl, ?_⟩
    first | with_reducible exact KA.out g5 cap5 w5 HOwn.out HGr.out HAt.out | with_reducible exact KB.out g5 cap5 w5 HOwn.out HGr.out HAt.out
end Go.Proofs.YtbhiaeciiphelaaGreatDoor
