/-
  DERIVED. Rows of numbers, rows of rows, moments in memory; contracts of the functions that compare them. Condition: each theorem's own on memory.
-/
import Derived.Test.YtbhiaeciiphelaaGreatDoorEvX
namespace Go.Proofs.YtbhiaeciiphelaaGreatDoor
open Go.RowKit
/-- Numbers lie in a row. -/
def IntsAt (w : World) (v : Value) (l : List Int) : Prop := ∃ p c, v = .slice p l.length c ∧ ∀ (j : Nat) (x : Int), l[j]? = some x → ∃ g o, p = some ⟨g, o, none⟩ ∧ w.cell? ⟨g, o + j, none⟩ = some (.int .i64 x)
/-- Rows of numbers lie in a row. -/
def RowsAt (w : World) (v : Value) (ll : List (List Int)) : Prop := ∃ p c, v = .slice p ll.length c ∧ ∀ (j : Nat) (l : List Int), ll[j]? = some l → ∃ g o u, p = some ⟨g, o, none⟩ ∧ w.cell? ⟨g, o + j, none⟩ = some u ∧ IntsAt w u l
theorem cell_keeps {w w' : World} (hk : Keeps w w') {a : Addr} {v : Value} (h : w.cell? a = some v) : w'.cell? a = some v := by
  rw [World.cell?_of_block (w' := w') (w := w) (hk.block a.block (World.block_lt_of_cell? w _ h) (fun x => x))]
  exact h
theorem IntsAt.keeps {w w' : World} {v : Value} {l : List Int} (h : IntsAt w v l) (hk : Keeps w w') : IntsAt w' v l := by
  obtain ⟨p, c, rfl, h⟩ := h
  refine ⟨p, c, rfl, fun j x hj => ?_⟩
  obtain ⟨g, o, h1, h2⟩ := h j x hj
  exact ⟨g, o, h1, cell_keeps hk h2⟩
theorem RowsAt.keeps {w w' : World} {v : Value} {l : List (List Int)} (h : RowsAt w v l) (hk : Keeps w w') : RowsAt w' v l := by
  obtain ⟨p, c, rfl, h⟩ := h
  refine ⟨p, c, rfl, fun j x hj => ?_⟩
  obtain ⟨g, o, u, h1, h2, h3⟩ := h j x hj
  exact ⟨g, o, u, h1, cell_keeps hk h2, h3.keeps hk⟩
/-- What there is at a moment. -/
structure Mom where
  opn : List Int
  written : List Int
  reads : List (List Int)
  deriving DecidableEq
def MomAt (w : World) (v : Value) (m : Mom) : Prop := ∃ a b c, v = .agg #[a, b, c] ∧ IntsAt w a m.opn ∧ IntsAt w b m.written ∧ RowsAt w c m.reads
theorem MomAt.keeps {w w' : World} {v : Value} {m : Mom} (h : MomAt w v m) (hk : Keeps w w') : MomAt w' v m := by
  obtain ⟨a, b, c, rfl, h1, h2, h3⟩ := h
  exact ⟨a, b, c, rfl, h1.keeps hk, h2.keeps hk, h3.keeps hk⟩
theorem lists_ne {α : Type} {l l' : List α} {j : Nat} {x y : α} (h : l[j]? = some x) (h' : l'[j]? = some y) (hxy : x ≠ y) : l ≠ l' := fun e => hxy (by rw [e, h'] at h; exact (Option.some.inj h).symm)
theorem lists_eq {α : Type} {l l' : List α} (hl : l.length = l'.length) (h : ∀ (j : Nat) (x y : α), l[j]? = some x → l'[j]? = some y → x = y) : l = l' := by
  apply List.ext_getElem hl
  intro i h1 h2
  exact h i _ _ (List.getElem?_eq_getElem h1) (List.getElem?_eq_getElem h2)
theorem bool_ret {b b' : Bool} {w w' : World} (h : b' = b) (hk : Keeps w w') : Ending.returned (.bool b) = .returned (.bool b') ∧ Keeps w w' := ⟨by rw [h], hk⟩
theorem bool_retq {b b' : Bool} {w w' : World} (h : b' = b) (hk : ∃ k, w' = w.drewN k) : Ending.returned (.bool b) = .returned (.bool b') ∧ ∃ k, w' = w.drewN k := ⟨by rw [h], hk⟩
set_option maxHeartbeats 4000000 in
set_option maxRecDepth 100000 in
/-- Whether two rows of numbers are the same (the reference's own function). -/
theorem intsSame_q (w : World) (u v : Value) (l l' : List Int) (h : IntsAt w u l) (h' : IntsAt w v l') (hlen : l.length ≤ 1000000) :
    Calls Tryz.prog 20 #[u, v] w fun e w' => e = .returned (.bool (decide (l = l'))) ∧ ∃ k, w' = w.drewN k := by
  obtain ⟨p, c, rfl, h⟩ := h
  obtain ⟨q, d, rfl, h'⟩ := h'
  by_cases hll : l.length = l'.length
  · obtain ⟨n, hn⟩ : ∃ n, n = l.length := ⟨_, rfl⟩
    rw [← hll, ← hn]
    rw [← hn] at hlen
    have Hn := Lib.hid hn
    have HL := Lib.hid hll
    have H1 := Lib.hid h
    have H2 := Lib.hid h'
    clear h h' hn hll
    go_enter Tryz.func20, Tryz.ntmps20
    go_wp2
    go_loopw [5] (fun q wr => ∃ j m : Nat, j ≤ n ∧ q = .int .i64 j ∧ wr = w.drewN m ∧ ∀ (i : Nat) (x y : Int), i < j → l[i]? = some x → l'[i]? = some y → x = y) (fun q _ => n - (intOf q).toNat)
    case atStart => exact ⟨0, 0, Nat.zero_le _, rfl, rfl, fun i x y hi => absurd hi (Nat.not_lt_zero _)⟩
    case round =>
      obtain ⟨j, m, hj, rfl, rfl, hall⟩ := hrel
      have HA := Lib.hid hall
      clear hall
      by_cases hjn : j < n
      · obtain ⟨x, hx⟩ : ∃ x, l[j]? = some x := ⟨l[j]'(by rw [← Hn.out]; omega), List.getElem?_eq_getElem _⟩
        obtain ⟨y, hy⟩ : ∃ y, l'[j]? = some y := ⟨l'[j]'(by rw [← HL.out, ← Hn.out]; omega), List.getElem?_eq_getElem _⟩
        obtain ⟨g, o, rfl, c1⟩ := H1.out j x hx
        obtain ⟨g', o', rfl, c2⟩ := H2.out j y hy
        have k1 : (j : Int) < n := by omega
        have k2 : (0 : Int) ≤ j := by omega
        have HX := Lib.hid hx
        have HY := Lib.hid hy
        clear hx hy
        by_cases hxy : x = y
        · subst hxy
          go_wp2_with fail
          go_quiet (fail)
          go_wp2
          go_roundw
          case rel =>
            refine ⟨j + 1, _, by omega, by go_num, rfl, fun i x' y' hi h1 h2 => ?_⟩
            by_cases e : i < j
            · exact HA.out i x' y' e h1 h2
            · obtain rfl : i = j := by omega
              rw [HX.out] at h1; rw [HY.out] at h2
              exact (Option.some.inj h1).symm.trans (Option.some.inj h2)
          case measure => simp [intOf] <;> omega
        · go_wp2_with fail
          go_quiet (fail)
          go_wp2
          go_ret
          exact bool_retq (decide_eq_false (lists_ne HX.out HY.out hxy)) ⟨_, World.drewN_drewN _ _ _⟩
      · obtain rfl : j = n := by omega
        go_wp2
        go_ret
        exact bool_retq (decide_eq_true (lists_eq HL.out fun i x y h1 h2 => HA.out i x y (by rw [Hn.out]; exact (List.getElem?_eq_some_iff.1 h1).1) h1 h2)) ⟨_, rfl⟩
  · have hne : l ≠ l' := fun e => hll (by rw [e])
    rw [decide_eq_false hne]
    generalize l.length = n at *
    generalize l'.length = n' at *
    have k1 : ¬ (n : Int) = n' := by omega
    clear h h' hne
    go_enter Tryz.func20, Tryz.ntmps20
    go_wp2
    go_ret
    exact ⟨rfl, 0, rfl⟩
theorem intsSame_of (w : World) (u v : Value) (l l' : List Int) (h : IntsAt w u l) (h' : IntsAt w v l') (hlen : l.length ≤ 1000000) :
    Calls Tryz.prog 20 #[u, v] w fun e w' => e = .returned (.bool (decide (l = l'))) ∧ Keeps w w' :=
  (intsSame_q w u v l l' h h' hlen).mono (fun _ _ h => ⟨h.1, by obtain ⟨k, h2⟩ := h.2; rw [h2]; exact Keeps.drewN _ _⟩)
set_option maxHeartbeats 4000000 in
set_option maxRecDepth 100000 in
/-- .. by slices.Equal. -/
theorem intsEqual_of (w : World) (u v : Value) (l l' : List Int) (h : IntsAt w u l) (h' : IntsAt w v l') (hlen : l.length ≤ 1000000) :
    Calls Tryz.prog 93 #[u, v] w fun e w' => e = .returned (.bool (decide (l = l'))) ∧ Keeps w w' := by
  obtain ⟨p, c, rfl, h⟩ := h
  obtain ⟨q, d, rfl, h'⟩ := h'
  by_cases hll : l.length = l'.length
  · obtain ⟨n, hn⟩ : ∃ n, n = l.length := ⟨_, rfl⟩
    rw [← hll, ← hn]
    rw [← hn] at hlen
    have Hn := Lib.hid hn
    have HL := Lib.hid hll
    have H1 := Lib.hid h
    have H2 := Lib.hid h'
    clear h h' hn hll
    go_enter Tryz.func93, Tryz.ntmps93
    go_wp2
    go_loopw [13] (fun q wr => ∃ j m : Nat, j ≤ n ∧ q = .int .i64 j ∧ wr = w.drewN m ∧ ∀ (i : Nat) (x y : Int), i < j → l[i]? = some x → l'[i]? = some y → x = y) (fun q _ => n - (intOf q).toNat)
    case atStart => exact ⟨0, 0, Nat.zero_le _, rfl, rfl, fun i x y hi => absurd hi (Nat.not_lt_zero _)⟩
    case round =>
      obtain ⟨j, m, hj, rfl, rfl, hall⟩ := hrel
      have HA := Lib.hid hall
      clear hall
      by_cases hjn : j < n
      · obtain ⟨x, hx⟩ : ∃ x, l[j]? = some x := ⟨l[j]'(by rw [← Hn.out]; omega), List.getElem?_eq_getElem _⟩
        obtain ⟨y, hy⟩ : ∃ y, l'[j]? = some y := ⟨l'[j]'(by rw [← HL.out, ← Hn.out]; omega), List.getElem?_eq_getElem _⟩
        obtain ⟨g, o, rfl, c1⟩ := H1.out j x hx
        obtain ⟨g', o', rfl, c2⟩ := H2.out j y hy
        have k1 : (j : Int) < n := by omega
        have k2 : (0 : Int) ≤ j := by omega
        have HX := Lib.hid hx
        have HY := Lib.hid hy
        clear hx hy
        by_cases hxy : x = y
        · subst hxy
          go_wp2_with fail
          go_quiet (fail)
          go_wp2
          go_roundw
          case rel =>
            refine ⟨j + 1, _, by omega, by go_num, rfl, fun i x' y' hi h1 h2 => ?_⟩
            by_cases e : i < j
            · exact HA.out i x' y' e h1 h2
            · obtain rfl : i = j := by omega
              rw [HX.out] at h1; rw [HY.out] at h2
              exact (Option.some.inj h1).symm.trans (Option.some.inj h2)
          case measure => simp [intOf] <;> omega
        · go_wp2_with fail
          go_quiet (fail)
          go_wp2
          go_ret
          exact bool_ret (decide_eq_false (lists_ne HX.out HY.out hxy)) (Kept.drewN (Keeps.drewN _ _) _)
      · obtain rfl : j = n := by omega
        go_wp2
        go_ret
        exact bool_ret (decide_eq_true (lists_eq HL.out fun i x y h1 h2 => HA.out i x y (by rw [Hn.out]; exact (List.getElem?_eq_some_iff.1 h1).1) h1 h2)) (Keeps.drewN _ _)
  · have hne : l ≠ l' := fun e => hll (by rw [e])
    rw [decide_eq_false hne]
    generalize l.length = n at *
    generalize l'.length = n' at *
    have k1 : ¬ (n : Int) = n' := by omega
    clear h h' hne
    go_enter Tryz.func93, Tryz.ntmps93
    go_wp2
    go_ret
    exact ⟨rfl, Keeps.refl _⟩
set_option maxHeartbeats 4000000 in
set_option maxRecDepth 100000 in
/-- Whether two rows of rows are the same: slices.EqualFunc with slices.Equal. -/
theorem rowsEqual_of (w : World) (u v : Value) (l l' : List (List Int)) (h : RowsAt w u l) (h' : RowsAt w v l') (hlen : l.length ≤ 1000000) (hin : ∀ x ∈ l, x.length ≤ 1000000) :
    Calls Tryz.prog 94 #[u, v, .func (.func 93) #[] #[]] w fun e w' => e = .returned (.bool (decide (l = l'))) ∧ Keeps w w' := by
  obtain ⟨p, c, rfl, h⟩ := h
  obtain ⟨q, d, rfl, h'⟩ := h'
  by_cases hll : l.length = l'.length
  · obtain ⟨n, hn⟩ : ∃ n, n = l.length := ⟨_, rfl⟩
    rw [← hll, ← hn]
    rw [← hn] at hlen
    have Hn := Lib.hid hn
    have HL := Lib.hid hll
    have H1 := Lib.hid h
    have H2 := Lib.hid h'
    have HI := Lib.hid hin
    clear h h' hn hll hin
    go_enter Tryz.func94, Tryz.ntmps94
    go_wp2
    go_loopw [17] (fun q wr => ∃ j : Nat, j ≤ n ∧ q = .int .i64 j ∧ Keeps w wr ∧ ∀ (i : Nat) (x y : List Int), i < j → l[i]? = some x → l'[i]? = some y → x = y) (fun q _ => n - (intOf q).toNat)
    case atStart => exact ⟨0, Nat.zero_le _, rfl, Keeps.refl _, fun i x y hi => absurd hi (Nat.not_lt_zero _)⟩
    case round =>
      obtain ⟨j, hj, rfl, hk, hall⟩ := hrel
      have HA := Lib.hid hall
      have HK := Lib.hid hk
      clear hall hk
      by_cases hjn : j < n
      · obtain ⟨x, hx⟩ : ∃ x, l[j]? = some x := ⟨l[j]'(by rw [← Hn.out]; omega), List.getElem?_eq_getElem _⟩
        obtain ⟨y, hy⟩ : ∃ y, l'[j]? = some y := ⟨l'[j]'(by rw [← HL.out, ← Hn.out]; omega), List.getElem?_eq_getElem _⟩
        obtain ⟨g, o, u, rfl, c1, hu⟩ := H1.out j x hx
        obtain ⟨g', o', v, rfl, c2, hv⟩ := H2.out j y hy
        have c1 := cell_keeps HK.out c1
        have c2 := cell_keeps HK.out c2
        have hc := intsEqual_of wr u v x y (hu.keeps HK.out) (hv.keeps HK.out) (HI.out x (List.mem_of_getElem? hx))
        have HC := Lib.hid hc
        obtain ⟨pu, cu, rfl, _⟩ := hu
        obtain ⟨pv, cv, rfl, _⟩ := hv
        have k1 : (j : Int) < n := by omega
        have k2 : (0 : Int) ≤ j := by omega
        have HX := Lib.hid hx
        have HY := Lib.hid hy
        clear hx hy hc
        go_wp2_with fail
        refine HC.out.mono ?_
        rintro _ w1 ⟨rfl, hk1⟩
        have HK1 := Lib.hid (Keeps.trans HK.out hk1)
        clear hk1
        by_cases hxy : x = y
        · have hd : decide (x = y) = true := decide_eq_true hxy
          rw [hd]
          go_wp2
          go_roundw
          case rel =>
            refine ⟨j + 1, by omega, by go_num, HK1.out, fun i x' y' hi h1 h2 => ?_⟩
            by_cases e : i < j
            · exact HA.out i x' y' e h1 h2
            · obtain rfl : i = j := by omega
              rw [HX.out] at h1; rw [HY.out] at h2
              exact (Option.some.inj h1).symm.trans (hxy.trans (Option.some.inj h2))
          case measure => simp [intOf] <;> omega
        · have hd : decide (x = y) = false := decide_eq_false hxy
          rw [hd]
          go_wp2
          go_ret
          exact bool_ret (decide_eq_false (lists_ne HX.out HY.out hxy)) HK1.out
      · obtain rfl : j = n := by omega
        go_wp2
        go_ret
        exact bool_ret (decide_eq_true (lists_eq HL.out fun i x y h1 h2 => HA.out i x y (by rw [Hn.out]; exact (List.getElem?_eq_some_iff.1 h1).1) h1 h2)) HK.out
  · have hne : l ≠ l' := fun e => hll (by rw [e])
    rw [decide_eq_false hne]
    generalize l.length = n at *
    generalize l'.length = n' at *
    have k1 : ¬ (n : Int) = n' := by omega
    clear h h' hne hin
    go_enter Tryz.func94, Tryz.ntmps94
    go_wp2
    go_ret
    exact ⟨rfl, Keeps.refl _⟩
theorem two_boxes (w : World) (x y : Array Value) (t : TypeId) : ((w.alloc (.cells x t)).alloc (.cells y t)).heap[w.heap.size]? = some (.cells x t (0, 0)) ∧ ((w.alloc (.cells x t)).alloc (.cells y t)).heap[w.heap.size + 1]? = some (.cells y t (0, 0)) := by
  have s1 : (w.alloc (.cells x t)).heap.size = w.heap.size + 1 := World.size_alloc _ _
  exact ⟨heap_alloc_old _ (heap_alloc_at w _), by rw [← s1]; exact heap_alloc_at _ _⟩
set_option maxHeartbeats 4000000 in
set_option maxRecDepth 100000 in
/-- Whether two moments are the same. -/
theorem same_of (w : World) (u v : Value) (m m' : Mom) (h : MomAt w u m) (h' : MomAt w v m') (h1 : m.opn.length ≤ 1000000) (h2 : m.written.length ≤ 1000000) (h3 : m.reads.length ≤ 1000000) (h4 : ∀ x ∈ m.reads, x.length ≤ 1000000) :
    Calls Tryz.prog 64 #[u, v] w fun e w' => e = .returned (.bool (decide (m = m'))) ∧ Keeps w w' := by
  obtain ⟨a, b, c, rfl, ha, hb, hc⟩ := h
  obtain ⟨a', b', c', rfl, ha', hb', hc'⟩ := h'
  have HA := Lib.hid (fun (W : World) (hK : Keeps w W) => intsEqual_of W a a' _ _ (ha.keeps hK) (ha'.keeps hK) h1)
  have HB := Lib.hid (fun (W : World) (hK : Keeps w W) => intsEqual_of W b b' _ _ (hb.keeps hK) (hb'.keeps hK) h2)
  have HC := Lib.hid (fun (W : World) (hK : Keeps w W) => rowsEqual_of W c c' _ _ (hc.keeps hK) (hc'.keeps hK) h3 h4)
  obtain ⟨o, wr, rd⟩ := m
  obtain ⟨o', wr', rd'⟩ := m'
  obtain ⟨pa, ca, rfl, _⟩ := ha
  obtain ⟨pb, cb, rfl, _⟩ := hb
  obtain ⟨pc, cc, rfl, _⟩ := hc
  obtain ⟨pa', ca', rfl, _⟩ := ha'
  obtain ⟨pb', cb', rfl, _⟩ := hb'
  obtain ⟨pc', cc', rfl, _⟩ := hc'
  simp only at HA HB HC h1 h2 h3 ⊢
  generalize o.length = n1 at *
  generalize wr.length = n2 at *
  generalize rd.length = n3 at *
  generalize o'.length = n1' at *
  generalize wr'.length = n2' at *
  generalize rd'.length = n3' at *
  clear h1 h2 h3 h4
  go_enter Tryz.func64, Tryz.ntmps64
  go_wp2_with fail
  refine (HA.out _ (((Kept.refl _ w).alloc _).alloc _)).mono ?_
  rintro _ w1 ⟨rfl, hk⟩
  obtain ⟨x1, x2⟩ := two_boxes w #[.slice pa n1 ca, .slice pb n2 cb, .slice pc n3 cc] #[.slice pa' n1' ca', .slice pb' n2' cb', .slice pc' n3' cc'] 61
  have x1 := hk.at x1 (fun x => x)
  have x2 := hk.at x2 (fun x => x)
  have HK1 := Lib.hid (Keeps.trans (((Kept.refl _ w).alloc _).alloc _) hk)
  have HX1 := Lib.hid x1
  have HX2 := Lib.hid x2
  have d1 := cell_of_block x1 1
  have d2 := cell_of_block x2 1
  simp at d1 d2
  clear hk x1 x2
  by_cases e1 : o = o'
  · rw [decide_eq_true e1]
    go_wp2_with fail
    refine (HB.out _ HK1.out).mono ?_
    rintro _ w2 ⟨rfl, hk⟩
    have x1 := hk.at HX1.out (fun x => x)
    have x2 := hk.at HX2.out (fun x => x)
    have HK2 := Lib.hid (Keeps.trans HK1.out hk)
    have d3 := cell_of_block x1 2
    have d4 := cell_of_block x2 2
    simp at d3 d4
    clear hk x1 x2
    by_cases e2 : wr = wr'
    · rw [decide_eq_true e2]
      go_wp2_with fail
      refine (HC.out _ HK2.out).mono ?_
      rintro _ w3 ⟨rfl, hk⟩
      have HK3 := Lib.hid (Keeps.trans HK2.out hk)
      clear hk
      by_cases e3 : rd = rd'
      · rw [decide_eq_true e3]
        go_wp2
        go_ret
        exact bool_ret (decide_eq_true (by rw [e1, e2, e3])) HK3.out
      · rw [decide_eq_false e3]
        go_wp2
        go_ret
        exact bool_ret (decide_eq_false (fun e => e3 (Mom.mk.inj e).2.2)) HK3.out
    · rw [decide_eq_false e2]
      go_wp2
      go_ret
      exact bool_ret (decide_eq_false (fun e => e2 (Mom.mk.inj e).2.1)) HK2.out
  · rw [decide_eq_false e1]
    go_wp2
    go_ret
    exact bool_ret (decide_eq_false (fun e => e1 (Mom.mk.inj e).1)) HK1.out
set_option maxHeartbeats 4000000 in
set_option maxRecDepth 100000 in
/-- .. by the reference. -/
theorem sameMoment_of (w : World) (u v : Value) (m m' : Mom) (h : MomAt w u m) (h' : MomAt w v m') (h1 : m.opn.length ≤ 1000000) (h2 : m.written.length ≤ 1000000) (h3 : m.reads.length ≤ 1000000) (h4 : ∀ x ∈ m.reads, x.length ≤ 1000000) :
    Calls Tryz.prog 34 #[u, v] w fun e w' => e = .returned (.bool (decide (m = m'))) ∧ Keeps w w' := by
  obtain ⟨a, b, c, rfl, ha, hb, hc⟩ := h
  obtain ⟨a', b', c', rfl, ha', hb', hc'⟩ := h'
  have HA := Lib.hid (fun (W : World) (hK : Keeps w W) => intsSame_of W a a' _ _ (ha.keeps hK) (ha'.keeps hK) h1)
  have HB := Lib.hid (fun (W : World) (hK : Keeps w W) => intsSame_of W b b' _ _ (hb.keeps hK) (hb'.keeps hK) h2)
  have HR1 := Lib.hid (fun (W : World) (hK : Keeps w W) => hc.keeps hK)
  have HR2 := Lib.hid (fun (W : World) (hK : Keeps w W) => hc'.keeps hK)
  have H4 := Lib.hid h4
  obtain ⟨o, wr, rd⟩ := m
  obtain ⟨o', wr', rd'⟩ := m'
  obtain ⟨pa, ca, rfl, _⟩ := ha
  obtain ⟨pb, cb, rfl, _⟩ := hb
  obtain ⟨pc, cc, rfl, _⟩ := hc
  obtain ⟨pa', ca', rfl, _⟩ := ha'
  obtain ⟨pb', cb', rfl, _⟩ := hb'
  obtain ⟨pc', cc', rfl, _⟩ := hc'
  simp only at HA HB HR1 HR2 H4 h1 h2 h3 ⊢
  generalize o.length = n1 at *
  generalize wr.length = n2 at *
  obtain ⟨n3, hn3⟩ : ∃ n, n = rd.length := ⟨_, rfl⟩
  rw [← hn3] at HR1 h3 ⊢
  have HN3 := Lib.hid hn3
  generalize o'.length = n1' at *
  generalize wr'.length = n2' at *
  obtain ⟨n3', hn3'⟩ : ∃ n, n = rd'.length := ⟨_, rfl⟩
  rw [← hn3'] at HR2 ⊢
  have HN3' := Lib.hid hn3'
  clear h1 h2 h4 hn3 hn3'
  go_enter Tryz.func34, Tryz.ntmps34
  go_wp2_with fail
  refine (HA.out _ (((Kept.refl _ w).alloc _).alloc _)).mono ?_
  rintro _ w1 ⟨rfl, hk⟩
  obtain ⟨x1, x2⟩ := two_boxes w #[.slice pa n1 ca, .slice pb n2 cb, .slice pc n3 cc] #[.slice pa' n1' ca', .slice pb' n2' cb', .slice pc' n3' cc'] 61
  have x1 := hk.at x1 (fun x => x)
  have x2 := hk.at x2 (fun x => x)
  have HK1 := Lib.hid (Keeps.trans (((Kept.refl _ w).alloc _).alloc _) hk)
  have HX1 := Lib.hid x1
  have HX2 := Lib.hid x2
  have d1 := cell_of_block x1 1
  have d2 := cell_of_block x2 1
  simp at d1 d2
  clear hk x1 x2
  by_cases e1 : o = o'
  · rw [decide_eq_true e1]
    go_wp2_with fail
    refine (HB.out _ HK1.out).mono ?_
    rintro _ w2 ⟨rfl, hk⟩
    have x1 := hk.at HX1.out (fun x => x)
    have x2 := hk.at HX2.out (fun x => x)
    have HK2 := Lib.hid (Keeps.trans HK1.out hk)
    have d3 := cell_of_block x1 2
    have d4 := cell_of_block x2 2
    simp at d3 d4
    have HY1 := Lib.hid x1
    have HY2 := Lib.hid x2
    clear hk x1 x2
    by_cases e2 : wr = wr'
    · rw [decide_eq_true e2]
      by_cases hll : n3 = n3'
      · subst hll
        have hr1 := HR1.out _ HK2.out
        have hr2 := HR2.out _ HK2.out
        obtain ⟨p1, c1, hv1, hr1⟩ := hr1
        obtain ⟨p2, c2, hv2, hr2⟩ := hr2
        injection hv1 with hv1 _ hv1c
        injection hv2 with hv2 _ hv2c
        subst hv1 hv1c hv2 hv2c
        have HRa := Lib.hid hr1
        have HRb := Lib.hid hr2
        have HLL := Lib.hid (HN3.out.symm.trans HN3'.out)
        clear hr1 hr2
        go_wp2_with fail
        go_loopw [5] (fun q wr => ∃ j : Nat, j ≤ n3 ∧ q = .int .i64 j ∧ Keeps w2 wr ∧ ∀ (i : Nat) (x y : List Int), i < j → rd[i]? = some x → rd'[i]? = some y → x = y) (fun q _ => n3 - (intOf q).toNat)
        case atStart => exact ⟨0, Nat.zero_le _, rfl, Keeps.refl _, fun i x y hi => absurd hi (Nat.not_lt_zero _)⟩
        case round =>
          obtain ⟨j, hj, rfl, hkr, hall⟩ := hrel
          have HAl := Lib.hid hall
          have HKr := Lib.hid hkr
          have z1 := cell_of_block (hkr.at HY1.out (fun x => x)) 2
          have z2 := cell_of_block (hkr.at HY2.out (fun x => x)) 2
          simp at z1 z2
          clear hall hkr
          by_cases hjn : j < n3
          · obtain ⟨x, hx⟩ : ∃ x, rd[j]? = some x := ⟨rd[j]'(by rw [← HN3.out]; omega), List.getElem?_eq_getElem _⟩
            obtain ⟨y, hy⟩ : ∃ y, rd'[j]? = some y := ⟨rd'[j]'(by rw [← HN3'.out]; omega), List.getElem?_eq_getElem _⟩
            obtain ⟨g, o1, u, rfl, c1, hu⟩ := HRa.out j x hx
            obtain ⟨g', o2, v, rfl, c2, hv⟩ := HRb.out j y hy
            have HC := Lib.hid (fun (W : World) (hK : Keeps w2 W) => intsSame_q W u v x y (hu.keeps hK) (hv.keeps hK) (H4.out x (List.mem_of_getElem? hx)))
            obtain ⟨pu, cu, rfl, _⟩ := hu
            obtain ⟨pv, cv, rfl, _⟩ := hv
            have c1 := cell_keeps HKr.out c1
            have c2 := cell_keeps HKr.out c2
            have k1 : (j : Int) < n3 := by omega
            have k2 : (0 : Int) ≤ j := by omega
            have HX := Lib.hid hx
            have HY := Lib.hid hy
            clear hx hy
            go_wp2_with fail
            go_quiet ((go_at_call 20; refine Calls.quiet_of (HC.out _ (Kept.drewN HKr.out _))))
            by_cases hxy : x = y
            · have hd : decide (x = y) = true := decide_eq_true hxy
              rw [hd]
              go_wp2
              go_roundw
              case rel =>
                refine ⟨j + 1, by omega, by go_num, Kept.drewN HKr.out _, fun i x' y' hi h1 h2 => ?_⟩
                by_cases e : i < j
                · exact HAl.out i x' y' e h1 h2
                · obtain rfl : i = j := by omega
                  rw [HX.out] at h1; rw [HY.out] at h2
                  exact (Option.some.inj h1).symm.trans (hxy.trans (Option.some.inj h2))
              case measure => simp [intOf] <;> omega
            · have hd : decide (x = y) = false := decide_eq_false hxy
              rw [hd]
              go_wp2
              go_ret
              exact bool_ret (decide_eq_false (fun e => lists_ne HX.out HY.out hxy (Mom.mk.inj e).2.2)) (Keeps.trans HK2.out (Kept.drewN HKr.out _))
          · obtain rfl : j = n3 := by omega
            go_wp2
            go_ret
            exact bool_ret (decide_eq_true (by rw [e1, e2, lists_eq HLL.out fun i x y h1 h2 => HAl.out i x y (by rw [HN3.out]; exact (List.getElem?_eq_some_iff.1 h1).1) h1 h2])) (Keeps.trans HK2.out HKr.out)
      · have k1 : ¬ (n3 : Int) = n3' := by omega
        go_wp2
        go_ret
        exact bool_ret (decide_eq_false (fun e => hll (by rw [HN3.out, HN3'.out, (Mom.mk.inj e).2.2]))) HK2.out
    · rw [decide_eq_false e2]
      go_wp2
      go_ret
      exact bool_ret (decide_eq_false (fun e => e2 (Mom.mk.inj e).2.1)) HK2.out
  · rw [decide_eq_false e1]
    go_wp2
    go_ret
    exact bool_ret (decide_eq_false (fun e => e1 (Mom.mk.inj e).1)) HK1.out
end Go.Proofs.YtbhiaeciiphelaaGreatDoor
