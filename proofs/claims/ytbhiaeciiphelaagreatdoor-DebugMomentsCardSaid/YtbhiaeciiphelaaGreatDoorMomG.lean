/-
  DERIVED. At and Back of package debug, and Back of the reference: what they return. Condition: the events lie in a row; there are at most sixty thousand.
-/
import Derived.Test.YtbhiaeciiphelaaGreatDoorMomD
import Derived.Deep.RegionHeld3
import Derived.Test.YtbhiaeciiphelaaGreatDoorMomF
namespace Go.Proofs.YtbhiaeciiphelaaGreatDoor
open Go.RowKit
/-- A goal that is held back. -/
theorem holdG {p : Prop} (h : Hid p) : p := h.out
/-- What a function of package debug hands back: a moment and an error. -/
def AtPost (w : World) (r : Mom × Int) (x : Ending) (w' : World) : Prop := ∃ a b c, x = .returned (.tuple #[.agg #[a, b, c], .int .i64 r.2]) ∧ MomAt w' (.agg #[a, b, c]) r.1 ∧ Keeps w w'
theorem state_is (w0 w : World) (a : Option Addr) (n c L M : Nat) (wv : Value) (mm : List (Int × Nat)) (rf : Nat → Value) (evs : List Ev) (f : St) (h : EvIn w a n evs) (hro : readOf evs = some f)
    (hm : RMem w0 w (.slice a n c) L M wv mm rf f.sps f.within) (x : Nat) (hx : x ≤ n) (hnc : n ≤ c) (hcm : c ≤ 9223372036854775807) :
    Calls Tryz.prog 63 #[.agg #[.slice a n c, .map (some M), wv, .int .i64 x]] w fun e w' => ∃ p q r, e = .returned (.agg #[p, q, r]) ∧ (∀ W', Kept (fun b => b < w.heap.size) w' W' → MomAt W' (.agg #[p, q, r]) (theM evs x)) ∧ Keeps w w' :=
  (state_of w0 w a n c L M wv mm rf evs f h hro hm x hx hnc hcm).mono (by
    rintro e w' ⟨v, s, st, wr, rfl, hr, ha, hmo, hk⟩
    rw [state_mom hro (by rw [← h.len]; exact hx) hr ha, ← theM_eq hr ha] at hmo
    obtain ⟨p, q, r, rfl, _⟩ := hmo w' (Kept.refl _ _)
    exact ⟨p, q, r, rfl, hmo, hk⟩)
theorem mom_slices {w : World} {p q r : Value} {m : Mom} (h : MomAt w (.agg #[p, q, r]) m) : (∃ a n c, p = .slice a n c) ∧ (∃ a n c, q = .slice a n c) ∧ ∃ a n c, r = .slice a n c := by
  obtain ⟨_, _, _, he, ⟨pa, ca, h1, _⟩, ⟨pb, cb, h2, _⟩, ⟨pc, cc, h3, _⟩⟩ := h
  injection he with he
  injection he with he
  simp only [List.cons.injEq, and_true] at he
  obtain ⟨rfl, rfl, rfl⟩ := he
  exact ⟨⟨_, _, _, h1⟩, ⟨_, _, _, h2⟩, ⟨_, _, _, h3⟩⟩
theorem results_mom_tmp {fn : Func} {p u : Tmp} (h : fn.results = #[.cell p 61, .tmp u]) (tmps : Array Value) (w : World) (g : Nat) (x y z t : Value) (hp : tmps.getD p undef = .pointer (some ⟨g, 0, none⟩)) (hu : tmps.getD u undef = t) (hg : w.heap[g]? = some (.cells #[x, y, z] 61 (0, 0))) :
    (results fn tmps).run Tryz.prog w = .ok (.tuple #[.agg #[x, y, z], t]) w := by
  have h1 := run_loadVar_row w g 61 61 #[x, y, z] (0, 0) _ hg Tryz.underlying61 rfl size61
  rw [results_cell_tmp h, hp, hu]
  simp [asAddr, h1, Result.andThen]
theorem backP_no {evs : List Ev} {x : Int} {m : Mom} (h : readOf evs = none) : backP evs x m = (zeroMom, 250) := by unfold backP; rw [if_pos h]
theorem backP_past {evs : List Ev} {f : St} {x : Int} {m : Mom} (h : readOf evs = some f) (hx : x < 1 ∨ (evs.length : Int) < x) : backP evs x m = (zeroMom, 251) := by unfold backP; rw [if_neg (by rw [h]; simp), if_pos hx]
theorem backP_yes {evs : List Ev} {f : St} {x : Nat} {m : Mom} (h : readOf evs = some f) (hx : x + 1 ≤ evs.length) (he : theM evs (x + 1) = m) : backP evs ((x : Int) + 1) m = (theM evs x, 0) := by
  unfold backP
  rw [if_neg (by rw [h]; simp), if_neg (by omega), if_pos (by rw [← he]; rfl)]
  have : ((x : Int) + 1 - 1).toNat = x := by omega
  rw [this]
theorem backP_arg {evs : List Ev} {f : St} {x : Nat} {m : Mom} (h : readOf evs = some f) (hx : x + 1 ≤ evs.length) (he : ¬ theM evs (x + 1) = m) : backP evs ((x : Int) + 1) m = (zeroMom, 1) := by
  unfold backP
  rw [if_neg (by rw [h]; simp), if_neg (by omega), if_neg (fun e => he (by rw [← e]; rfl))]
theorem past_no {evs : List Ev} {x : Int} (h : readOf evs = none) : atP evs x = (zeroMom, 250) := by unfold atP; rw [if_pos h]
theorem past_out {evs : List Ev} {f : St} {x : Int} (h : readOf evs = some f) (hx : x < 0 ∨ (evs.length : Int) < x) : atP evs x = (zeroMom, 251) := by unfold atP; rw [if_neg (by rw [h]; simp), if_pos hx]
theorem past_yes {evs : List Ev} {f : St} {x : Nat} (h : readOf evs = some f) (hx : x ≤ evs.length) : atP evs (x : Int) = (theM evs x, 0) := by unfold atP; rw [if_neg (by rw [h]; simp), if_neg (by omega)]; rfl
theorem at_zero {w w' : World} {k : Int} (hk : Keeps w w') : AtPost w (zeroMom, k) (.returned (.tuple #[.agg #[.slice none 0 0, .slice none 0 0, .slice none 0 0], .int .i64 k])) w' := ⟨_, _, _, rfl, zeroMom_at _, hk⟩
theorem three_sets {W : World} {B : Nat} {x y z x' y' z' : Value} (h : W.heap[B]? = some (.cells #[x, y, z] 61 (0, 0))) :
    (((W.setCell ⟨B, 0, none⟩ x').setCell ⟨B, 1, none⟩ y').setCell ⟨B, 2, none⟩ z').heap[B]? = some (.cells #[x', y', z'] 61 (0, 0)) := by
  rw [heap_set_same (heap_set_same (heap_set_same h _) _) _]; rfl
theorem three_keeps {w W : World} {B : Nat} {x' y' z' : Value} (h : Keeps w W) (hB : w.heap.size ≤ B) :
    Keeps w (((W.setCell ⟨B, 0, none⟩ x').setCell ⟨B, 1, none⟩ y').setCell ⟨B, 2, none⟩ z') := Kept.one0 (Kept.one0 (Kept.one0 h hB _ _) hB _ _) hB _ _
set_option maxHeartbeats 4000000 in
set_option maxRecDepth 100000 in
theorem at_of (w : World) (a : Option Addr) (n c : Nat) (evs : List Ev) (h : EvIn w a n evs) (hnc : n ≤ c) (hcm : c ≤ 9223372036854775807) (x : Int) :
    Calls Tryz.prog 30 #[.slice a n c, .int .i64 x] w (AtPost w (atP evs x)) := by
  have HI := Lib.hid h
  have hfew := h.few
  have hk0 : EvIn (w.alloc (.cells #[.slice none 0 0, .slice none 0 0, .slice none 0 0] 61)) a n evs := h.keeps (Keeps.alloc _ _)
  have HZ := Lib.hid (heap_alloc_at w (.cells #[.slice none 0 0, .slice none 0 0, .slice none 0 0] 61))
  have HK0 := Lib.hid (Keeps.alloc w (.cells #[.slice none 0 0, .slice none 0 0, .slice none 0 0] 61))
  cases hro : readOf evs with
  | none =>
    rw [past_no hro]
    have Hr := Lib.hid (read_no (c := c) hk0 hro)
    clear h hro hk0
    go_enter Tryz.func30, Tryz.ntmps30
    go_wp2_with (go_at_call 47; refine Hr.out.mono ?_; rintro _ w1 ⟨rfl, hk⟩; have HB := Lib.hid (hk.at HZ.out (fun x => x)); have b0 := cell_of_block HB.out 0; have b1 := cell_of_block HB.out 1; have b2 := cell_of_block HB.out 2; have f0 := free_of_block HB.out 0; have f1 := free_of_block HB.out 1; have f2 := free_of_block HB.out 2; simp at b0 b1 b2; have HK := Lib.hid hk; clear hk)
    try rw [Exit.noGoto_ret]
    exact bodyPost_ret (results_mom_tmp rfl _ _ w.heap.size _ _ _ _ rfl rfl (three_sets HB.out)) rfl (at_zero (three_keeps (Keeps.trans HK0.out HK.out) (Nat.le_refl _)))
  | some f =>
    have HO := Lib.hid hro
    have Hr := Lib.hid (read_yes (c := c) hk0 hro)
    by_cases hx : x < 0 ∨ (n : Int) < x
    · rw [past_out hro (by rw [← HI.out.len]; exact hx)]
      clear hro hk0 h
      rcases hx with hx | hx
      · go_enter Tryz.func30, Tryz.ntmps30
        go_wp2_with (go_at_call 47; refine Hr.out.mono ?_; rintro _ w1 ⟨L, M, wv, mm, rf, rfl, hk⟩; have HB := Lib.hid (hk.kept.at HZ.out (fun x => x)); have b0 := cell_of_block HB.out 0; have b1 := cell_of_block HB.out 1; have b2 := cell_of_block HB.out 2; have f0 := free_of_block HB.out 0; have f1 := free_of_block HB.out 1; have f2 := free_of_block HB.out 2; simp at b0 b1 b2; have HK := Lib.hid hk.kept; clear hk)
        try rw [Exit.noGoto_ret]
        exact bodyPost_ret (results_mom_tmp rfl _ _ w.heap.size _ _ _ _ rfl rfl (three_sets HB.out)) rfl (at_zero (three_keeps (Keeps.trans HK0.out HK.out) (Nat.le_refl _)))
      · have hx0 : ¬ x < 0 := by omega
        go_enter Tryz.func30, Tryz.ntmps30
        go_wp2_with (go_at_call 47; refine Hr.out.mono ?_; rintro _ w1 ⟨L, M, wv, mm, rf, rfl, hk⟩; have HB := Lib.hid (hk.kept.at HZ.out (fun x => x)); have b0 := cell_of_block HB.out 0; have b1 := cell_of_block HB.out 1; have b2 := cell_of_block HB.out 2; have f0 := free_of_block HB.out 0; have f1 := free_of_block HB.out 1; have f2 := free_of_block HB.out 2; simp at b0 b1 b2; have HK := Lib.hid hk.kept; clear hk)
        try rw [Exit.noGoto_ret]
        exact bodyPost_ret (results_mom_tmp rfl _ _ w.heap.size _ _ _ _ rfl rfl (three_sets HB.out)) rfl (at_zero (three_keeps (Keeps.trans HK0.out HK.out) (Nat.le_refl _)))
    obtain ⟨k, rfl⟩ : ∃ k : Nat, x = k := ⟨x.toNat, by omega⟩
    have hkn : k ≤ n := by omega
    rw [past_yes hro (by rw [← HI.out.len]; exact hkn)]
    have k0 : ¬ (k : Int) < 0 := by omega
    have k1 : ¬ (n : Int) < k := by omega
    clear hro hk0 h hx
    go_enter Tryz.func30, Tryz.ntmps30
    go_wp2_with (first
      | (go_at_call 47; refine Hr.out.mono ?_; rintro _ w1 ⟨L, M, wv, mm, rf, rfl, hk⟩; have c0 := cell_of_block hk.hL 0; have c1 := cell_of_block hk.hL 1; have c2 := cell_of_block hk.hL 2; simp at c0 c1 c2; have HB := Lib.hid (hk.kept.at HZ.out (fun x => x)); have HRM := Lib.hid hk; clear hk)
      | (go_at_call 63; refine holdG ?_))
    refine Lib.hid ?_
    refine (state_is _ w1 a n c L M wv mm rf evs f (HI.out.keeps (Keeps.trans HK0.out HRM.out.kept)) HO.out HRM.out k hkn hnc hcm).mono ?_
    rintro _ w2 ⟨p, q, r, rfl, hmo, hk⟩
    obtain ⟨⟨ga, na, ca, rfl⟩, ⟨gb, nb, cb, rfl⟩, ⟨gc, nc, cc, rfl⟩⟩ := mom_slices (hmo w2 (Kept.refl _ _))
    have HB2 := Lib.hid (hk.at HB.out (fun x => x))
    have HMo := Lib.hid hmo
    have HK := Lib.hid hk
    have hBw : w.heap.size < w1.heap.size := heap_lt HB.out
    clear hmo hk c0 c1 c2
    have b0 := cell_of_block HB2.out 0
    have b1 := cell_of_block HB2.out 1
    have b2 := cell_of_block HB2.out 2
    have f0 := free_of_block HB2.out 0
    have f1 := free_of_block HB2.out 1
    have f2 := free_of_block HB2.out 2
    simp at b0 b1 b2
    go_wp2_with fail
    try rw [Exit.noGoto_ret]
    refine bodyPost_ret (results_mom_tmp rfl _ _ w.heap.size _ _ _ _ rfl rfl (three_sets HB2.out)) rfl ?_
    refine ⟨_, _, _, rfl, HMo.out _ ?_, three_keeps (Keeps.trans (Keeps.trans HK0.out HRM.out.kept) HK.out) (Nat.le_refl _)⟩
    exact (Kept.one1 (Kept.one1 ((Kept.refl (fun b => b = w.heap.size) w2).one1 0 _) 1 _) 2 _).mono (fun b _ e => by rw [e]; exact hBw)
set_option maxHeartbeats 4000000 in
set_option maxRecDepth 100000 in
theorem back_of (w : World) (a : Option Addr) (n c : Nat) (evs : List Ev) (h : EvIn w a n evs) (hnc : n ≤ c) (hcm : c ≤ 9223372036854775807) (x : Int) (v : Value) (m : Mom) (hm : MomAt w v m) :
    Calls Tryz.prog 32 #[.slice a n c, .int .i64 x, v] w (AtPost w (backP evs x m)) := by
  have hm0 := hm
  obtain ⟨_, _, _, rfl, _⟩ := hm0
  obtain ⟨⟨p1, n1, d1, rfl⟩, ⟨p2, n2, d2, rfl⟩, ⟨p3, n3, d3, rfl⟩⟩ := mom_slices hm
  have HI := Lib.hid h
  have HM := Lib.hid hm
  have hfew := h.few
  have hk1 : Keeps w ((w.alloc (.cells #[.slice p1 n1 d1, .slice p2 n2 d2, .slice p3 n3 d3] 61)).alloc (.cells #[.slice none 0 0, .slice none 0 0, .slice none 0 0] 61)) := ((Kept.refl _ w).alloc _).alloc _
  have hk0 : EvIn ((w.alloc (.cells #[.slice p1 n1 d1, .slice p2 n2 d2, .slice p3 n3 d3] 61)).alloc (.cells #[.slice none 0 0, .slice none 0 0, .slice none 0 0] 61)) a n evs := h.keeps hk1
  have hz : ((w.alloc (.cells #[.slice p1 n1 d1, .slice p2 n2 d2, .slice p3 n3 d3] 61)).alloc (.cells #[.slice none 0 0, .slice none 0 0, .slice none 0 0] 61)).heap[w.heap.size + 1]? = some (.cells #[.slice none 0 0, .slice none 0 0, .slice none 0 0] 61 (0, 0)) := by
    have h9 := heap_alloc_at (w.alloc (.cells #[.slice p1 n1 d1, .slice p2 n2 d2, .slice p3 n3 d3] 61)) (.cells #[.slice none 0 0, .slice none 0 0, .slice none 0 0] 61)
    rw [World.size_alloc] at h9
    exact h9
  have HZ := Lib.hid hz
  have HX := Lib.hid (heap_alloc_old (.cells #[.slice none 0 0, .slice none 0 0, .slice none 0 0] 61) (heap_alloc_at w (.cells #[.slice p1 n1 d1, .slice p2 n2 d2, .slice p3 n3 d3] 61)))
  have HK0 := Lib.hid hk1
  clear hk1 hz hm
  cases hro : readOf evs with
  | none =>
    rw [backP_no hro]
    have Hr := Lib.hid (read_no (c := c) hk0 hro)
    clear h hro hk0
    go_enter Tryz.func32, Tryz.ntmps32
    go_wp2_with (go_at_call 47; refine Hr.out.mono ?_; rintro _ w1 ⟨rfl, hk⟩; have HB := Lib.hid (hk.at HZ.out (fun x => x)); have b0 := cell_of_block HB.out 0; have b1 := cell_of_block HB.out 1; have b2 := cell_of_block HB.out 2; have f0 := free_of_block HB.out 0; have f1 := free_of_block HB.out 1; have f2 := free_of_block HB.out 2; simp at b0 b1 b2; have HK := Lib.hid hk; clear hk)
    try rw [Exit.noGoto_ret]
    exact bodyPost_ret (results_mom_tmp rfl _ _ (w.heap.size + 1) _ _ _ _ rfl rfl (three_sets HB.out)) rfl (at_zero (three_keeps (Keeps.trans HK0.out HK.out) (Nat.le_succ _)))
  | some f =>
    have HO := Lib.hid hro
    have Hr := Lib.hid (read_yes (c := c) hk0 hro)
    by_cases hx : x < 1 ∨ (n : Int) < x
    · rw [backP_past hro (by rw [← HI.out.len]; exact hx)]
      clear hro hk0 h
      rcases hx with hx | hx
      · go_enter Tryz.func32, Tryz.ntmps32
        go_wp2_with (go_at_call 47; refine Hr.out.mono ?_; rintro _ w1 ⟨L, M, wv, mm, rf, rfl, hk⟩; have HB := Lib.hid (hk.kept.at HZ.out (fun x => x)); have b0 := cell_of_block HB.out 0; have b1 := cell_of_block HB.out 1; have b2 := cell_of_block HB.out 2; have f0 := free_of_block HB.out 0; have f1 := free_of_block HB.out 1; have f2 := free_of_block HB.out 2; simp at b0 b1 b2; have HK := Lib.hid hk.kept; clear hk)
        try rw [Exit.noGoto_ret]
        exact bodyPost_ret (results_mom_tmp rfl _ _ (w.heap.size + 1) _ _ _ _ rfl rfl (three_sets HB.out)) rfl (at_zero (three_keeps (Keeps.trans HK0.out HK.out) (Nat.le_succ _)))
      · have hx0 : ¬ x < 1 := by omega
        go_enter Tryz.func32, Tryz.ntmps32
        go_wp2_with (go_at_call 47; refine Hr.out.mono ?_; rintro _ w1 ⟨L, M, wv, mm, rf, rfl, hk⟩; have HB := Lib.hid (hk.kept.at HZ.out (fun x => x)); have b0 := cell_of_block HB.out 0; have b1 := cell_of_block HB.out 1; have b2 := cell_of_block HB.out 2; have f0 := free_of_block HB.out 0; have f1 := free_of_block HB.out 1; have f2 := free_of_block HB.out 2; simp at b0 b1 b2; have HK := Lib.hid hk.kept; clear hk)
        try rw [Exit.noGoto_ret]
        exact bodyPost_ret (results_mom_tmp rfl _ _ (w.heap.size + 1) _ _ _ _ rfl rfl (three_sets HB.out)) rfl (at_zero (three_keeps (Keeps.trans HK0.out HK.out) (Nat.le_succ _)))
    obtain ⟨k, rfl⟩ : ∃ k : Nat, x = (k : Int) + 1 := ⟨(x - 1).toNat, by omega⟩
    have hkn : k + 1 ≤ n := by omega
    have k0 : ¬ (k : Int) + 1 < 1 := by omega
    have k1 : ¬ (n : Int) < (k : Int) + 1 := by omega
    have hle := theM_le hro (x := k + 1) (by rw [← HI.out.len]; exact hkn) (by rw [← HI.out.len]; exact hfew)
    have HLe := Lib.hid hle
    clear hk0 h hx hle
    by_cases hmm : theM evs (k + 1) = m
    · rw [backP_yes hro (by rw [← HI.out.len]; exact hkn) hmm]
      clear hro
      go_enter Tryz.func32, Tryz.ntmps32
      go_wp2_with (go_at_call 47; refine Hr.out.mono ?_; rintro _ w1 ⟨L, M, wv, mm, rf, rfl, hk⟩; have c0 := cell_of_block hk.hL 0; have c1 := cell_of_block hk.hL 1; have c2 := cell_of_block hk.hL 2; simp at c0 c1 c2; have HB := Lib.hid (hk.kept.at HZ.out (fun x => x)); have HXb := Lib.hid (hk.kept.at HX.out (fun x => x)); have HRM := Lib.hid hk; clear hk)
      have C0 := Lib.hid c0
      have C1 := Lib.hid c1
      have C2 := Lib.hid c2
      have e0 := cell_of_block HXb.out 0
      have e1 := cell_of_block HXb.out 1
      have e2 := cell_of_block HXb.out 2
      simp at e0 e1 e2
      have E0 := Lib.hid e0
      have E1 := Lib.hid e1
      have E2 := Lib.hid e2
      have HKw := Lib.hid (Keeps.trans HK0.out HRM.out.kept)
      have hs : ∀ (W : World), Keeps w1 W → Calls Tryz.prog 63 #[.agg #[.slice a n c, .map (some M), wv, .int .i64 ((k : Int) + 1)]] W fun e w' => ∃ p q r, e = .returned (.agg #[p, q, r]) ∧ (∀ W', Kept (fun b => b < W.heap.size) w' W' → MomAt W' (.agg #[p, q, r]) (theM evs (k + 1))) ∧ Keeps W w' := fun W hK => by
        have h9 := state_is _ W a n c L M wv mm rf evs f (HI.out.keeps (Keeps.trans HKw.out hK)) HO.out (HRM.out.keeps hK) (k + 1) hkn hnc hcm
        rw [show ((k + 1 : Nat) : Int) = (k : Int) + 1 from by omega] at h9
        exact h9
      have HS := Lib.hid hs
      have he : ∀ (W : World) (p q r : Value), MomAt W (.agg #[p, q, r]) (theM evs (k + 1)) → Keeps w W → Calls Tryz.prog 64 #[.agg #[p, q, r], .agg #[.slice p1 n1 d1, .slice p2 n2 d2, .slice p3 n3 d3]] W fun e w' => e = .returned (.bool true) ∧ Keeps W w' := fun W p q r h1 hK => by
        have h9 := same_of W _ _ _ _ h1 (HM.out.keeps hK) (Nat.le_trans HLe.out.opn (by decide)) (Nat.le_trans HLe.out.written (by decide)) (Nat.le_trans HLe.out.reads (by decide)) (fun x hx => Nat.le_trans (HLe.out.each x hx) (by decide))
        rw [decide_eq_true hmm] at h9
        exact h9
      have HE := Lib.hid he
      clear hs he hmm
      go_region_held3 (fun W' => W'.cell? ⟨L, 0, none⟩ = some (.slice a n c) ∧ W'.cell? ⟨L, 1, none⟩ = some (.map (some M)) ∧ W'.cell? ⟨L, 2, none⟩ = some wv ∧ W'.cell? ⟨w.heap.size, 0, none⟩ = some (.slice p1 n1 d1) ∧ W'.cell? ⟨w.heap.size, 1, none⟩ = some (.slice p2 n2 d2) ∧ W'.cell? ⟨w.heap.size, 2, none⟩ = some (.slice p3 n3 d3))
        (go_keep)
        (first
          | (go_at_call 63; refine (HS.out _ (Keeps.drew _)).mono ?_; rintro _ w2 ⟨p, q, r, rfl, hmo, hk2⟩; have hk3 := Keeps.trans (Keeps.drew w1) hk2; have c3 := cell_keeps hk3 C0.out; have c4 := cell_keeps hk3 C1.out; have c5 := cell_keeps hk3 C2.out; have e3 := cell_keeps hk3 E0.out; have e4 := cell_keeps hk3 E1.out; have e5 := cell_keeps hk3 E2.out; have HMo := Lib.hid (hmo w2 (Kept.refl _ _)); have HK2 := Lib.hid hk3; clear hmo hk2 hk3)
          | (go_at_call 64; refine (HE.out _ _ _ _ HMo.out (Keeps.trans HKw.out HK2.out)).mono ?_; rintro _ w3 ⟨rfl, hk4⟩; have c6 := cell_keeps hk4 c3; have c7 := cell_keeps hk4 c4; have c8 := cell_keeps hk4 c5; have e6 := cell_keeps hk4 e3; have e7 := cell_keeps hk4 e4; have e8 := cell_keeps hk4 e5; have HK3 := Lib.hid (Keeps.trans HK2.out hk4); clear hk4))
      have HB3 := Lib.hid (HK3.out.at HB.out (fun x => x))
      clear c3 c4 c5 e3 e4 e5 e6 e7 e8 e0 e1 e2 c0 c1 c2
      go_wp2_with (go_at_call 63; refine holdG ?_)
      refine Lib.hid ?_
      refine (state_is _ w3 a n c L M wv mm rf evs f (HI.out.keeps (Keeps.trans HKw.out HK3.out)) HO.out (HRM.out.keeps HK3.out) k (by omega) hnc hcm).mono ?_
      rintro _ w4 ⟨p', q', r', rfl, hmo, hk⟩
      obtain ⟨⟨ga, na, ca, rfl⟩, ⟨gb, nb, cb, rfl⟩, ⟨gc, nc, cc, rfl⟩⟩ := mom_slices (hmo w4 (Kept.refl _ _))
      have HB4 := Lib.hid (hk.at HB3.out (fun x => x))
      have HMo4 := Lib.hid hmo
      have HK4 := Lib.hid hk
      have hBw : w.heap.size + 1 < w3.heap.size := heap_lt HB3.out
      clear hmo hk c6 c7 c8
      have b0 := cell_of_block HB4.out 0
      have b1 := cell_of_block HB4.out 1
      have b2 := cell_of_block HB4.out 2
      have f0 := free_of_block HB4.out 0
      have f1 := free_of_block HB4.out 1
      have f2 := free_of_block HB4.out 2
      simp at b0 b1 b2
      go_wp2_with fail
      try rw [Exit.noGoto_ret]
      refine bodyPost_ret (results_mom_tmp rfl _ _ (w.heap.size + 1) _ _ _ _ rfl rfl (three_sets HB4.out)) rfl ?_
      refine ⟨_, _, _, rfl, HMo4.out _ ?_, three_keeps (Keeps.trans (Keeps.trans HKw.out HK3.out) HK4.out) (Nat.le_succ _)⟩
      exact (Kept.one1 (Kept.one1 ((Kept.refl (fun b => b = w.heap.size + 1) w4).one1 0 _) 1 _) 2 _).mono (fun b _ e => by rw [e]; exact hBw)
    · rw [backP_arg hro (by rw [← HI.out.len]; exact hkn) hmm]
      clear hro
      go_enter Tryz.func32, Tryz.ntmps32
      go_wp2_with (go_at_call 47; refine Hr.out.mono ?_; rintro _ w1 ⟨L, M, wv, mm, rf, rfl, hk⟩; have c0 := cell_of_block hk.hL 0; have c1 := cell_of_block hk.hL 1; have c2 := cell_of_block hk.hL 2; simp at c0 c1 c2; have HB := Lib.hid (hk.kept.at HZ.out (fun x => x)); have HXb := Lib.hid (hk.kept.at HX.out (fun x => x)); have HRM := Lib.hid hk; clear hk)
      have C0 := Lib.hid c0
      have C1 := Lib.hid c1
      have C2 := Lib.hid c2
      have e0 := cell_of_block HXb.out 0
      have e1 := cell_of_block HXb.out 1
      have e2 := cell_of_block HXb.out 2
      simp at e0 e1 e2
      have E0 := Lib.hid e0
      have E1 := Lib.hid e1
      have E2 := Lib.hid e2
      have HKw := Lib.hid (Keeps.trans HK0.out HRM.out.kept)
      have hs : ∀ (W : World), Keeps w1 W → Calls Tryz.prog 63 #[.agg #[.slice a n c, .map (some M), wv, .int .i64 ((k : Int) + 1)]] W fun e w' => ∃ p q r, e = .returned (.agg #[p, q, r]) ∧ (∀ W', Kept (fun b => b < W.heap.size) w' W' → MomAt W' (.agg #[p, q, r]) (theM evs (k + 1))) ∧ Keeps W w' := fun W hK => by
        have h9 := state_is _ W a n c L M wv mm rf evs f (HI.out.keeps (Keeps.trans HKw.out hK)) HO.out (HRM.out.keeps hK) (k + 1) hkn hnc hcm
        rw [show ((k + 1 : Nat) : Int) = (k : Int) + 1 from by omega] at h9
        exact h9
      have HS := Lib.hid hs
      have he : ∀ (W : World) (p q r : Value), MomAt W (.agg #[p, q, r]) (theM evs (k + 1)) → Keeps w W → Calls Tryz.prog 64 #[.agg #[p, q, r], .agg #[.slice p1 n1 d1, .slice p2 n2 d2, .slice p3 n3 d3]] W fun e w' => e = .returned (.bool false) ∧ Keeps W w' := fun W p q r h1 hK => by
        have h9 := same_of W _ _ _ _ h1 (HM.out.keeps hK) (Nat.le_trans HLe.out.opn (by decide)) (Nat.le_trans HLe.out.written (by decide)) (Nat.le_trans HLe.out.reads (by decide)) (fun x hx => Nat.le_trans (HLe.out.each x hx) (by decide))
        rw [decide_eq_false hmm] at h9
        exact h9
      have HE := Lib.hid he
      clear hs he hmm
      go_region_held3 (fun W' => W'.cell? ⟨L, 0, none⟩ = some (.slice a n c) ∧ W'.cell? ⟨L, 1, none⟩ = some (.map (some M)) ∧ W'.cell? ⟨L, 2, none⟩ = some wv ∧ W'.cell? ⟨w.heap.size, 0, none⟩ = some (.slice p1 n1 d1) ∧ W'.cell? ⟨w.heap.size, 1, none⟩ = some (.slice p2 n2 d2) ∧ W'.cell? ⟨w.heap.size, 2, none⟩ = some (.slice p3 n3 d3))
        (go_keep)
        (first
          | (go_at_call 63; refine (HS.out _ (Keeps.drew _)).mono ?_; rintro _ w2 ⟨p, q, r, rfl, hmo, hk2⟩; have hk3 := Keeps.trans (Keeps.drew w1) hk2; have c3 := cell_keeps hk3 C0.out; have c4 := cell_keeps hk3 C1.out; have c5 := cell_keeps hk3 C2.out; have e3 := cell_keeps hk3 E0.out; have e4 := cell_keeps hk3 E1.out; have e5 := cell_keeps hk3 E2.out; have HMo := Lib.hid (hmo w2 (Kept.refl _ _)); have HK2 := Lib.hid hk3; clear hmo hk2 hk3)
          | (go_at_call 64; refine (HE.out _ _ _ _ HMo.out (Keeps.trans HKw.out HK2.out)).mono ?_; rintro _ w3 ⟨rfl, hk4⟩; have c6 := cell_keeps hk4 c3; have c7 := cell_keeps hk4 c4; have c8 := cell_keeps hk4 c5; have e6 := cell_keeps hk4 e3; have e7 := cell_keeps hk4 e4; have e8 := cell_keeps hk4 e5; have HK3 := Lib.hid (Keeps.trans HK2.out hk4); clear hk4))
      have HB3 := Lib.hid (HK3.out.at HB.out (fun x => x))
      clear c3 c4 c5 e3 e4 e5 e6 e7 e8 e0 e1 e2 c0 c1 c2
      have b0 := cell_of_block HB3.out 0
      have b1 := cell_of_block HB3.out 1
      have b2 := cell_of_block HB3.out 2
      have f0 := free_of_block HB3.out 0
      have f1 := free_of_block HB3.out 1
      have f2 := free_of_block HB3.out 2
      simp at b0 b1 b2
      go_wp2_with fail
      try rw [Exit.noGoto_ret]
      exact bodyPost_ret (results_mom_tmp rfl _ _ (w.heap.size + 1) _ _ _ _ rfl rfl (three_sets HB3.out)) rfl (at_zero (three_keeps (Keeps.trans HKw.out HK3.out) (Nat.le_succ _)))
end Go.Proofs.YtbhiaeciiphelaaGreatDoor
namespace Go.Proofs.YtbhiaeciiphelaaGreatDoor
open Go.RowKit
theorem field65 (x y z u : Value) (W : World) : (Instr.field 65 (.agg #[x, y, z, u]) 0).run Tryz.prog W = .ok (.agg #[x, y, z]) W := by
  simp [Instr.field, Tryz.sizeOf61, Tryz.isAgg61, asAgg, part, Result.andThen]
set_option maxHeartbeats 4000000 in
set_option maxRecDepth 100000 in
theorem refBack_of (w : World) (a : Option Addr) (n c : Nat) (evs : List Ev) (h : EvIn w a n evs) (x : Int) (v : Value) (m : Mom) (hm : MomAt w v m) :
    Calls Tryz.prog 33 #[.slice a n c, .int .i64 x, v] w (ThenPost w (backP evs x m)) := by
  have hm0 := hm
  obtain ⟨_, _, _, rfl, _⟩ := hm0
  obtain ⟨⟨p1, n1, d1, rfl⟩, ⟨p2, n2, d2, rfl⟩, ⟨p3, n3, d3, rfl⟩⟩ := mom_slices hm
  have HI := Lib.hid h
  have HM := Lib.hid hm
  have hfew := h.few
  have hk1 : Keeps w ((w.alloc (.cells #[.slice p1 n1 d1, .slice p2 n2 d2, .slice p3 n3 d3] 61)).alloc (.cells #[.slice none 0 0, .slice none 0 0, .slice none 0 0, .int .i64 0] 65)) := ((Kept.refl _ w).alloc _).alloc _
  have hk0 : EvIn ((w.alloc (.cells #[.slice p1 n1 d1, .slice p2 n2 d2, .slice p3 n3 d3] 61)).alloc (.cells #[.slice none 0 0, .slice none 0 0, .slice none 0 0, .int .i64 0] 65)) a n evs := h.keeps hk1
  have HT := Lib.hid (right_is (c := c) hk0)
  have hz : ((w.alloc (.cells #[.slice p1 n1 d1, .slice p2 n2 d2, .slice p3 n3 d3] 61)).alloc (.cells #[.slice none 0 0, .slice none 0 0, .slice none 0 0, .int .i64 0] 65)).heap[w.heap.size + 1]? = some (.cells #[.slice none 0 0, .slice none 0 0, .slice none 0 0, .int .i64 0] 65 (0, 0)) := by
    have h9 := heap_alloc_at (w.alloc (.cells #[.slice p1 n1 d1, .slice p2 n2 d2, .slice p3 n3 d3] 61)) (.cells #[.slice none 0 0, .slice none 0 0, .slice none 0 0, .int .i64 0] 65)
    rw [World.size_alloc] at h9
    exact h9
  have HZ := Lib.hid hz
  have HX := Lib.hid (heap_alloc_old (.cells #[.slice none 0 0, .slice none 0 0, .slice none 0 0, .int .i64 0] 65) (heap_alloc_at w (.cells #[.slice p1 n1 d1, .slice p2 n2 d2, .slice p3 n3 d3] 61)))
  have HK0 := Lib.hid hk1
  clear hk1 hz hm hk0
  cases hro : readOf evs with
  | none =>
    rw [backP_no hro]
    rw [hro] at HT
    clear h hro
    go_enter Tryz.func33, Tryz.ntmps33
    go_wp2_with (go_at_call 24; refine HT.out.mono ?_; rintro _ w1 ⟨rfl, hk⟩; have HB := Lib.hid (hk.at HZ.out (fun x => x)); have b0 := cell_of_block HB.out 0; have b1 := cell_of_block HB.out 1; have b2 := cell_of_block HB.out 2; have b3 := cell_of_block HB.out 3; have f0 := free_of_block HB.out 0; have f1 := free_of_block HB.out 1; have f2 := free_of_block HB.out 2; have f3 := free_of_block HB.out 3; simp at b0 b1 b2 b3; have HK := Lib.hid hk; clear hk)
    try rw [Exit.noGoto_ret]
    exact bodyPost_ret (results_then rfl _ _ (w.heap.size + 1) _ _ _ _ rfl (four_sets HB.out)) rfl (then_zero (four_keeps (Keeps.trans HK0.out HK.out) (Nat.le_succ _)))
  | some f =>
    have HO := Lib.hid hro
    rw [hro] at HT
    by_cases hx : x < 1 ∨ (n : Int) < x
    · rw [backP_past hro (by rw [← HI.out.len]; exact hx)]
      clear hro h
      rcases hx with hx | hx
      · go_enter Tryz.func33, Tryz.ntmps33
        go_wp2_with (go_at_call 24; refine HT.out.mono ?_; rintro _ w1 ⟨rfl, hk⟩; have HB := Lib.hid (hk.at HZ.out (fun x => x)); have b0 := cell_of_block HB.out 0; have b1 := cell_of_block HB.out 1; have b2 := cell_of_block HB.out 2; have b3 := cell_of_block HB.out 3; have f0 := free_of_block HB.out 0; have f1 := free_of_block HB.out 1; have f2 := free_of_block HB.out 2; have f3 := free_of_block HB.out 3; simp at b0 b1 b2 b3; have HK := Lib.hid hk; clear hk)
        try rw [Exit.noGoto_ret]
        exact bodyPost_ret (results_then rfl _ _ (w.heap.size + 1) _ _ _ _ rfl (four_sets HB.out)) rfl (then_zero (four_keeps (Keeps.trans HK0.out HK.out) (Nat.le_succ _)))
      · have hx0 : ¬ x < 1 := by omega
        go_enter Tryz.func33, Tryz.ntmps33
        go_wp2_with (go_at_call 24; refine HT.out.mono ?_; rintro _ w1 ⟨rfl, hk⟩; have HB := Lib.hid (hk.at HZ.out (fun x => x)); have b0 := cell_of_block HB.out 0; have b1 := cell_of_block HB.out 1; have b2 := cell_of_block HB.out 2; have b3 := cell_of_block HB.out 3; have f0 := free_of_block HB.out 0; have f1 := free_of_block HB.out 1; have f2 := free_of_block HB.out 2; have f3 := free_of_block HB.out 3; simp at b0 b1 b2 b3; have HK := Lib.hid hk; clear hk)
        try rw [Exit.noGoto_ret]
        exact bodyPost_ret (results_then rfl _ _ (w.heap.size + 1) _ _ _ _ rfl (four_sets HB.out)) rfl (then_zero (four_keeps (Keeps.trans HK0.out HK.out) (Nat.le_succ _)))
    obtain ⟨k, rfl⟩ : ∃ k : Nat, x = (k : Int) + 1 := ⟨(x - 1).toNat, by omega⟩
    have hkn : k + 1 ≤ n := by omega
    have k0 : ¬ (k : Int) + 1 < 1 := by omega
    have k1 : ¬ (n : Int) < (k : Int) + 1 := by omega
    have hle := theM_le hro (x := k + 1) (by rw [← HI.out.len]; exact hkn) (by rw [← HI.out.len]; exact hfew)
    have HLe := Lib.hid hle
    have ha1 := atP_yes hro (x := k + 1) (by rw [← HI.out.len]; exact hkn)
    have ha0 := atP_yes hro (x := k) (by rw [← HI.out.len]; omega)
    rw [show ((k + 1 : Nat) : Int) = (k : Int) + 1 from by omega] at ha1
    have HA1 := Lib.hid ha1
    have HA0 := Lib.hid ha0
    clear h hx hle ha0 ha1
    by_cases hmm : theM evs (k + 1) = m
    · rw [backP_yes hro (by rw [← HI.out.len]; exact hkn) hmm]
      clear hro
      have hfield := field65
      go_enter Tryz.func33, Tryz.ntmps33
      go_wp2_with (go_at_call 24; refine HT.out.mono ?_; rintro _ w1 ⟨rfl, hk⟩; have HB := Lib.hid (hk.at HZ.out (fun x => x)); have HXb := Lib.hid (hk.at HX.out (fun x => x)); have HK1 := Lib.hid hk; clear hk)
      have e0 := cell_of_block HXb.out 0
      have e1 := cell_of_block HXb.out 1
      have e2 := cell_of_block HXb.out 2
      simp at e0 e1 e2
      have E0 := Lib.hid e0
      have E1 := Lib.hid e1
      have E2 := Lib.hid e2
      have HKw := Lib.hid (Keeps.trans HK0.out HK1.out)
      have hs : ∀ (W : World), Keeps w1 W → Calls Tryz.prog 31 #[.slice a n c, .int .i64 ((k : Int) + 1)] W fun e w' => ∃ p q r, e = .returned (.agg #[p, q, r, .int .i64 0]) ∧ MomAt w' (.agg #[p, q, r]) (theM evs (k + 1)) ∧ Keeps W w' := fun W hK =>
        (refAt_of W a n c evs (HI.out.keeps (Keeps.trans HKw.out hK)) ((k : Int) + 1)).mono (by
          rintro e w' hpost
          rw [HA1.out] at hpost
          obtain ⟨p, q, r, he, hmo, hk⟩ := hpost
          exact ⟨p, q, r, he, hmo w' (Kept.refl _ _), hk⟩)
      have HS := Lib.hid hs
      have he : ∀ (W : World) (p q r : Value), MomAt W (.agg #[p, q, r]) (theM evs (k + 1)) → Keeps w W → Calls Tryz.prog 34 #[.agg #[p, q, r], .agg #[.slice p1 n1 d1, .slice p2 n2 d2, .slice p3 n3 d3]] W fun e w' => e = .returned (.bool true) ∧ Keeps W w' := fun W p q r h1 hK => by
        have h9 := sameMoment_of W _ _ _ _ h1 (HM.out.keeps hK) (Nat.le_trans HLe.out.opn (by decide)) (Nat.le_trans HLe.out.written (by decide)) (Nat.le_trans HLe.out.reads (by decide)) (fun x hx => Nat.le_trans (HLe.out.each x hx) (by decide))
        rw [decide_eq_true hmm] at h9
        exact h9
      have HE := Lib.hid he
      clear hs he hmm
      go_region_held3 (fun W' => W'.cell? ⟨w.heap.size, 0, none⟩ = some (.slice p1 n1 d1) ∧ W'.cell? ⟨w.heap.size, 1, none⟩ = some (.slice p2 n2 d2) ∧ W'.cell? ⟨w.heap.size, 2, none⟩ = some (.slice p3 n3 d3))
        (go_keep)
        (first
          | (go_at_call 31; refine (HS.out _ (Keeps.drew _)).mono ?_; rintro _ w2 ⟨p, q, r, rfl, hmo, hk2⟩; have hk3 := Keeps.trans (Keeps.drew w1) hk2; have e3 := cell_keeps hk3 E0.out; have e4 := cell_keeps hk3 E1.out; have e5 := cell_keeps hk3 E2.out; have HMo := Lib.hid hmo; have HK2 := Lib.hid hk3; clear hmo hk2 hk3)
          | (go_at_call 34; refine (HE.out _ _ _ _ HMo.out (Keeps.trans HKw.out HK2.out)).mono ?_; rintro _ w3 ⟨rfl, hk4⟩; have e6 := cell_keeps hk4 e3; have e7 := cell_keeps hk4 e4; have e8 := cell_keeps hk4 e5; have HK3 := Lib.hid (Keeps.trans HK2.out hk4); clear hk4))
      have HB3 := Lib.hid (HK3.out.at HB.out (fun x => x))
      clear e3 e4 e5 e6 e7 e8 e0 e1 e2
      go_wp2_with (go_at_call 31; refine holdG ?_)
      refine Lib.hid ?_
      refine (refAt_of w3 a n c evs (HI.out.keeps (Keeps.trans HKw.out HK3.out)) k).mono ?_
      rintro _ w4 hpost
      rw [HA0.out] at hpost
      obtain ⟨p', q', r', rfl, hmo, hk⟩ := hpost
      obtain ⟨⟨ga, na, ca, rfl⟩, ⟨gb, nb, cb, rfl⟩, ⟨gc, nc, cc, rfl⟩⟩ := mom_slices (hmo w4 (Kept.refl _ _))
      have HB4 := Lib.hid (hk.at HB3.out (fun x => x))
      have HMo4 := Lib.hid hmo
      have HK4 := Lib.hid hk
      have hBw : w.heap.size + 1 < w3.heap.size := heap_lt HB3.out
      clear hmo hk
      have b0 := cell_of_block HB4.out 0
      have b1 := cell_of_block HB4.out 1
      have b2 := cell_of_block HB4.out 2
      have b3 := cell_of_block HB4.out 3
      have f0 := free_of_block HB4.out 0
      have f1 := free_of_block HB4.out 1
      have f2 := free_of_block HB4.out 2
      have f3 := free_of_block HB4.out 3
      simp at b0 b1 b2 b3
      go_wp2_with fail
      try rw [Exit.noGoto_ret]
      refine bodyPost_ret (results_then rfl _ _ (w.heap.size + 1) _ _ _ _ rfl (four_sets HB4.out)) rfl ?_
      refine ⟨_, _, _, rfl, fun W' hk => HMo4.out _ ?_, four_keeps (Keeps.trans (Keeps.trans HKw.out HK3.out) HK4.out) (Nat.le_succ _)⟩
      exact Kept.trans ((Kept.one1 (Kept.one1 (Kept.one1 ((Kept.refl (fun b => b = w.heap.size + 1) w4).one1 0 _) 1 _) 2 _) 3 _).mono (fun b _ e => by rw [e]; exact hBw)) hk (fun b _ hb => by have := (Keeps.trans HKw.out HK3.out).size; omega)
    · rw [backP_arg hro (by rw [← HI.out.len]; exact hkn) hmm]
      clear hro
      have hfield := field65
      go_enter Tryz.func33, Tryz.ntmps33
      go_wp2_with (go_at_call 24; refine HT.out.mono ?_; rintro _ w1 ⟨rfl, hk⟩; have HB := Lib.hid (hk.at HZ.out (fun x => x)); have HXb := Lib.hid (hk.at HX.out (fun x => x)); have HK1 := Lib.hid hk; clear hk)
      have e0 := cell_of_block HXb.out 0
      have e1 := cell_of_block HXb.out 1
      have e2 := cell_of_block HXb.out 2
      simp at e0 e1 e2
      have E0 := Lib.hid e0
      have E1 := Lib.hid e1
      have E2 := Lib.hid e2
      have HKw := Lib.hid (Keeps.trans HK0.out HK1.out)
      have hs : ∀ (W : World), Keeps w1 W → Calls Tryz.prog 31 #[.slice a n c, .int .i64 ((k : Int) + 1)] W fun e w' => ∃ p q r, e = .returned (.agg #[p, q, r, .int .i64 0]) ∧ MomAt w' (.agg #[p, q, r]) (theM evs (k + 1)) ∧ Keeps W w' := fun W hK =>
        (refAt_of W a n c evs (HI.out.keeps (Keeps.trans HKw.out hK)) ((k : Int) + 1)).mono (by
          rintro e w' hpost
          rw [HA1.out] at hpost
          obtain ⟨p, q, r, he, hmo, hk⟩ := hpost
          exact ⟨p, q, r, he, hmo w' (Kept.refl _ _), hk⟩)
      have HS := Lib.hid hs
      have he : ∀ (W : World) (p q r : Value), MomAt W (.agg #[p, q, r]) (theM evs (k + 1)) → Keeps w W → Calls Tryz.prog 34 #[.agg #[p, q, r], .agg #[.slice p1 n1 d1, .slice p2 n2 d2, .slice p3 n3 d3]] W fun e w' => e = .returned (.bool false) ∧ Keeps W w' := fun W p q r h1 hK => by
        have h9 := sameMoment_of W _ _ _ _ h1 (HM.out.keeps hK) (Nat.le_trans HLe.out.opn (by decide)) (Nat.le_trans HLe.out.written (by decide)) (Nat.le_trans HLe.out.reads (by decide)) (fun x hx => Nat.le_trans (HLe.out.each x hx) (by decide))
        rw [decide_eq_false hmm] at h9
        exact h9
      have HE := Lib.hid he
      clear hs he hmm
      go_region_held3 (fun W' => W'.cell? ⟨w.heap.size, 0, none⟩ = some (.slice p1 n1 d1) ∧ W'.cell? ⟨w.heap.size, 1, none⟩ = some (.slice p2 n2 d2) ∧ W'.cell? ⟨w.heap.size, 2, none⟩ = some (.slice p3 n3 d3))
        (go_keep)
        (first
          | (go_at_call 31; refine (HS.out _ (Keeps.drew _)).mono ?_; rintro _ w2 ⟨p, q, r, rfl, hmo, hk2⟩; have hk3 := Keeps.trans (Keeps.drew w1) hk2; have e3 := cell_keeps hk3 E0.out; have e4 := cell_keeps hk3 E1.out; have e5 := cell_keeps hk3 E2.out; have HMo := Lib.hid hmo; have HK2 := Lib.hid hk3; clear hmo hk2 hk3)
          | (go_at_call 34; refine (HE.out _ _ _ _ HMo.out (Keeps.trans HKw.out HK2.out)).mono ?_; rintro _ w3 ⟨rfl, hk4⟩; have e6 := cell_keeps hk4 e3; have e7 := cell_keeps hk4 e4; have e8 := cell_keeps hk4 e5; have HK3 := Lib.hid (Keeps.trans HK2.out hk4); clear hk4))
      have HB3 := Lib.hid (HK3.out.at HB.out (fun x => x))
      clear e3 e4 e5 e6 e7 e8 e0 e1 e2
      have b0 := cell_of_block HB3.out 0
      have b1 := cell_of_block HB3.out 1
      have b2 := cell_of_block HB3.out 2
      have b3 := cell_of_block HB3.out 3
      have f0 := free_of_block HB3.out 0
      have f1 := free_of_block HB3.out 1
      have f2 := free_of_block HB3.out 2
      have f3 := free_of_block HB3.out 3
      simp at b0 b1 b2 b3
      go_wp2_with fail
      try rw [Exit.noGoto_ret]
      exact bodyPost_ret (results_then rfl _ _ (w.heap.size + 1) _ _ _ _ rfl (four_sets HB3.out)) rfl (then_zero (four_keeps (Keeps.trans HKw.out HK3.out) (Nat.le_succ _)))
end Go.Proofs.YtbhiaeciiphelaaGreatDoor
