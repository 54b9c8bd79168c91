/-
  DERIVED. Contracts of Next and Last, of package debug and of the reference. Condition: the events lie in a row; there are at most sixty thousand.
-/
import Derived.Test.YtbhiaeciiphelaaGreatDoorEvX
namespace Go.Proofs.YtbhiaeciiphelaaGreatDoor
open Go.RowKit
/-- A row of events in memory. -/
structure EvIn (w : World) (a : Option Addr) (n : Nat) (evs : List Ev) : Prop where
  ev : EvsAt w a evs
  len : n = evs.length
  few : n ≤ 60000
theorem EvIn.keeps {w w' : World} {a : Option Addr} {n : Nat} {evs : List Ev} (h : EvIn w a n evs) (hk : Keeps w w') : EvIn w' a n evs := ⟨h.ev.keeps hk, h.len, h.few⟩
section
variable {w : World} {a : Option Addr} {n c : Nat} {evs : List Ev}
theorem read_no (h : EvIn w a n evs) (hr : readOf evs = none) : Calls Tryz.prog 47 #[.slice a n c] w fun x w' => x = .returned (.pointer none) ∧ Keeps w w' :=
  (read_of w a n c evs h.ev h.len (Nat.le_trans h.few (by decide))).mono (fun x w' hp => by
    obtain ⟨h1, h2⟩ := hp
    rw [hr] at h2
    exact ⟨h2, h1⟩)
theorem read_yes (h : EvIn w a n evs) {s : St} (hr : readOf evs = some s) : Calls Tryz.prog 47 #[.slice a n c] w fun x w' => ∃ L M wv m rf, x = .returned (.pointer (some ⟨L, 0, none⟩)) ∧ RMem w w' (.slice a n c) L M wv m rf s.sps s.within :=
  (read_of w a n c evs h.ev h.len (Nat.le_trans h.few (by decide))).mono (fun x w' hp => by
    obtain ⟨h1, h2⟩ := hp
    rw [hr] at h2
    exact h2)
theorem right_is (h : EvIn w a n evs) : Calls Tryz.prog 24 #[.slice a n c] w fun x w' => x = .returned (.bool (readOf evs).isSome) ∧ Keeps w w' :=
  (right_of w a n c evs h.ev h.len h.few).mono (fun x w' hp => by rw [← right_read]; exact hp)
end
/-- The next event from a place on that has an address. -/
def nextAt (evs : List Ev) (y : Int) (i : Nat) : Option Nat := ((evs.drop i).findIdx? fun e => e.addr == y).map (· + i)
theorem nextAt_past {evs : List Ev} {y : Int} {i : Nat} (h : evs.length ≤ i) : nextAt evs y i = none := by
  unfold nextAt
  rw [List.drop_eq_nil_of_le h]; rfl
theorem nextAt_here {evs : List Ev} {y : Int} {i : Nat} {e : Ev} (he : evs[i]? = some e) (h : e.addr = y) : nextAt evs y i = some i := by
  obtain ⟨hi, e1⟩ := List.getElem?_eq_some_iff.1 he
  unfold nextAt
  rw [List.drop_eq_getElem_cons hi, List.findIdx?_cons, e1]
  simp [h]
theorem nextAt_step {evs : List Ev} {y : Int} {i : Nat} {e : Ev} (he : evs[i]? = some e) (h : ¬ e.addr = y) : nextAt evs y i = nextAt evs y (i + 1) := by
  obtain ⟨hi, e1⟩ := List.getElem?_eq_some_iff.1 he
  unfold nextAt
  rw [List.drop_eq_getElem_cons hi, List.findIdx?_cons, e1]
  simp [h, Function.comp_def, Nat.add_assoc, Nat.add_comm 1 i]
def lastAt (evs : List Ev) (y : Int) : Nat → Option Nat
  | 0 => none
  | k + 1 => match evs[k]? with
    | some e => if e.addr = y then some k else lastAt evs y k
    | none => lastAt evs y k
theorem lastAt_here {evs : List Ev} {y : Int} {k : Nat} {e : Ev} (he : evs[k]? = some e) (h : e.addr = y) : lastAt evs y (k + 1) = some k := by simp [lastAt, he, h]
theorem lastAt_step {evs : List Ev} {y : Int} {k : Nat} {e : Ev} (he : evs[k]? = some e) (h : ¬ e.addr = y) : lastAt evs y (k + 1) = lastAt evs y k := by simp [lastAt, he, h]
/-- What Next reports. -/
def outNext (evs : List Ev) (x y : Int) : Option Nat := if (readOf evs).isSome then nextAt evs y x.toNat else none
def outLast (evs : List Ev) (x y : Int) : Option Nat := if (readOf evs).isSome then lastAt evs y (min x.toNat evs.length) else none
def pairOf (r : Option Nat) : Value := .tuple #[.int .i64 (r.getD 0 : Nat), .bool r.isSome]

theorem pair_next {evs : List Ev} {s : St} {x y : Int} {r : Option Nat} (h : readOf evs = some s) (hr : nextAt evs y x.toNat = r) : pairOf (outNext evs x y) = .tuple #[.int .i64 (r.getD 0 : Nat), .bool r.isSome] := by
  unfold outNext; rw [h, ← hr]; rfl
theorem pair_last {evs : List Ev} {s : St} {x y : Int} {r : Option Nat} (h : readOf evs = some s) (hr : lastAt evs y (min x.toNat evs.length) = r) : pairOf (outLast evs x y) = .tuple #[.int .i64 (r.getD 0 : Nat), .bool r.isSome] := by
  unfold outLast; rw [h, ← hr]; rfl
theorem pair_next_no {evs : List Ev} {x y : Int} (h : readOf evs = none) : pairOf (outNext evs x y) = .tuple #[.int .i64 0, .bool false] := by unfold outNext; rw [h]; rfl
theorem pair_last_no {evs : List Ev} {x y : Int} (h : readOf evs = none) : pairOf (outLast evs x y) = .tuple #[.int .i64 0, .bool false] := by unfold outLast; rw [h]; rfl
theorem last_start {n : Nat} {x : Int} {evs : List Ev} (h : n = evs.length) (hx : ¬ x < 0) : (min x.toNat evs.length : Nat) = (min x (n : Int)).toNat := by omega
set_option maxHeartbeats 4000000 in
set_option maxRecDepth 100000 in
theorem next_of (w : World) (a : Option Addr) (n c : Nat) (evs : List Ev) (h : EvIn w a n evs) (x y : Int) :
    Calls Tryz.prog 11 #[.slice a n c, .int .i64 x, .int .i64 y] w fun e w' => e = .returned (pairOf (outNext evs x y)) ∧ Keeps w w' := by
  have HI := Lib.hid h
  have hfew := h.few
  cases hro : readOf evs with
  | none =>
    have HO := Lib.hid hro
    have Hr := Lib.hid (read_no (c := c) h hro)
    clear h hro
    go_enter Tryz.func11, Tryz.ntmps11
    go_wp2_with (go_at_call 47; refine Hr.out.mono ?_; rintro _ w1 ⟨rfl, hk⟩; have HK := Lib.hid hk; clear hk)
    go_ret2
    exact ⟨by rw [pair_next_no HO.out]; rfl, HK.out⟩
  | some s =>
    have HO := Lib.hid hro
    have Hr := Lib.hid (read_yes (c := c) h hro)
    clear h hro
    by_cases hx : x < 0
    · have hx0 : x.toNat = 0 := by omega
      go_enter Tryz.func11, Tryz.ntmps11
      go_wp2_with (go_at_call 47; refine Hr.out.mono ?_; rintro _ w1 ⟨L, M, wv, m, rf, rfl, hm⟩; have HK := Lib.hid hm.kept; clear hm)
      go_loop [8] (fun q => ∃ i : Nat, q = .int .i64 i ∧ nextAt evs y x.toNat = nextAt evs y i) (fun q => n - (intOf q).toNat)
      case atStart => exact ⟨0, rfl, by rw [hx0]⟩
      case round =>
        obtain ⟨i, rfl, hnx⟩ := hrel
        have HX := Lib.hid hnx
        clear hnx
        by_cases hin : i < n
        · obtain ⟨e, he⟩ : ∃ e, evs[i]? = some e := ⟨evs[i]'(by rw [← HI.out.len]; omega), List.getElem?_eq_getElem _⟩
          obtain ⟨eb, eo, rfl, hlt, _, _, c2, _⟩ := (HI.out.ev.keeps HK.out).cells he
          have HE := Lib.hid he
          clear he
          have k1 : (i : Int) < n := by omega
          have k2 : (0 : Int) ≤ i := by omega
          by_cases hay : e.addr = y
          · go_wp2
            go_ret2
            exact ⟨by rw [pair_next HO.out (HX.out.trans (nextAt_here HE.out hay))]; rfl, HK.out⟩
          · go_wp2
            go_round
            case rel => exact ⟨i + 1, by go_num, HX.out.trans (nextAt_step HE.out hay)⟩
            case measure => simp [intOf] <;> omega
        · go_wp2
          go_ret2
          exact ⟨by rw [pair_next HO.out (HX.out.trans (nextAt_past (by have := HI.out.len; omega)))]; rfl, HK.out⟩
    · obtain ⟨x, rfl⟩ := Int.eq_ofNat_of_zero_le (show (0 : Int) ≤ x by omega)
      go_enter Tryz.func11, Tryz.ntmps11
      go_wp2_with (go_at_call 47; refine Hr.out.mono ?_; rintro _ w1 ⟨L, M, wv, m, rf, rfl, hm⟩; have HK := Lib.hid hm.kept; clear hm)
      go_loop [8] (fun q => ∃ i : Nat, q = .int .i64 i ∧ nextAt evs y (x : Int).toNat = nextAt evs y i) (fun q => n - (intOf q).toNat)
      case atStart => exact ⟨x, rfl, by simp⟩
      case round =>
        obtain ⟨i, rfl, hnx⟩ := hrel
        have HX := Lib.hid hnx
        clear hnx
        by_cases hin : i < n
        · obtain ⟨e, he⟩ : ∃ e, evs[i]? = some e := ⟨evs[i]'(by rw [← HI.out.len]; omega), List.getElem?_eq_getElem _⟩
          obtain ⟨eb, eo, rfl, hlt, _, _, c2, _⟩ := (HI.out.ev.keeps HK.out).cells he
          have HE := Lib.hid he
          clear he
          have k1 : (i : Int) < n := by omega
          have k2 : (0 : Int) ≤ i := by omega
          by_cases hay : e.addr = y
          · go_wp2
            go_ret2
            exact ⟨by rw [pair_next HO.out (HX.out.trans (nextAt_here HE.out hay))]; rfl, HK.out⟩
          · go_wp2
            go_round
            case rel => exact ⟨i + 1, by go_num, HX.out.trans (nextAt_step HE.out hay)⟩
            case measure => simp [intOf] <;> omega
        · go_wp2
          go_ret2
          exact ⟨by rw [pair_next HO.out (HX.out.trans (nextAt_past (by have := HI.out.len; omega)))]; rfl, HK.out⟩
set_option maxHeartbeats 4000000 in
set_option maxRecDepth 100000 in
theorem refNext_of (w : World) (a : Option Addr) (n c : Nat) (evs : List Ev) (h : EvIn w a n evs) (x y : Int) :
    Calls Tryz.prog 12 #[.slice a n c, .int .i64 x, .int .i64 y] w fun e w' => e = .returned (pairOf (outNext evs x y)) ∧ Keeps w w' := by
  have HI := Lib.hid h
  have hfew := h.few
  cases hro : readOf evs with
  | none =>
    have HO := Lib.hid hro
    have hr := right_is (c := c) h
    rw [hro] at hr
    have Hr := Lib.hid hr
    clear hr h hro
    go_enter Tryz.func12, Tryz.ntmps12
    go_wp2_with (go_at_call 24; refine Hr.out.mono ?_; rintro _ w1 ⟨rfl, hk⟩; have HK := Lib.hid hk; clear hk)
    go_ret2
    exact ⟨by rw [pair_next_no HO.out]; rfl, HK.out⟩
  | some s =>
    have HO := Lib.hid hro
    have hr := right_is (c := c) h
    rw [hro] at hr
    have Hr := Lib.hid hr
    clear hr
    clear h hro
    by_cases hx : x ≤ 0
    · have hx0 : x.toNat = 0 := by omega
      have hx1 : ¬ 0 < x := by omega
      go_enter Tryz.func12, Tryz.ntmps12
      go_wp2_with (go_at_call 24; refine Hr.out.mono ?_; rintro _ w1 ⟨rfl, hk⟩; have HK := Lib.hid hk; clear hk)
      go_loop [8] (fun q => ∃ i : Nat, q = .int .i64 i ∧ nextAt evs y x.toNat = nextAt evs y i) (fun q => n - (intOf q).toNat)
      case atStart => exact ⟨0, rfl, by rw [hx0]⟩
      case round =>
        obtain ⟨i, rfl, hnx⟩ := hrel
        have HX := Lib.hid hnx
        clear hnx
        by_cases hin : i < n
        · obtain ⟨e, he⟩ : ∃ e, evs[i]? = some e := ⟨evs[i]'(by rw [← HI.out.len]; omega), List.getElem?_eq_getElem _⟩
          obtain ⟨eb, eo, rfl, hlt, _, _, c2, _⟩ := (HI.out.ev.keeps HK.out).cells he
          have HE := Lib.hid he
          clear he
          have k1 : (i : Int) < n := by omega
          have k2 : (0 : Int) ≤ i := by omega
          by_cases hay : e.addr = y
          · go_wp2
            go_ret2
            exact ⟨by rw [pair_next HO.out (HX.out.trans (nextAt_here HE.out hay))]; rfl, HK.out⟩
          · go_wp2
            go_round
            case rel => exact ⟨i + 1, by go_num, HX.out.trans (nextAt_step HE.out hay)⟩
            case measure => simp [intOf] <;> omega
        · go_wp2
          go_ret2
          exact ⟨by rw [pair_next HO.out (HX.out.trans (nextAt_past (by have := HI.out.len; omega)))]; rfl, HK.out⟩
    · obtain ⟨x, rfl⟩ := Int.eq_ofNat_of_zero_le (show (0 : Int) ≤ x by omega)
      have hx1 : (0 : Int) < x := by omega
      go_enter Tryz.func12, Tryz.ntmps12
      go_wp2_with (go_at_call 24; refine Hr.out.mono ?_; rintro _ w1 ⟨rfl, hk⟩; have HK := Lib.hid hk; clear hk)
      go_loop [8] (fun q => ∃ i : Nat, q = .int .i64 i ∧ nextAt evs y (x : Int).toNat = nextAt evs y i) (fun q => n - (intOf q).toNat)
      case atStart => exact ⟨x, rfl, by simp⟩
      case round =>
        obtain ⟨i, rfl, hnx⟩ := hrel
        have HX := Lib.hid hnx
        clear hnx
        by_cases hin : i < n
        · obtain ⟨e, he⟩ : ∃ e, evs[i]? = some e := ⟨evs[i]'(by rw [← HI.out.len]; omega), List.getElem?_eq_getElem _⟩
          obtain ⟨eb, eo, rfl, hlt, _, _, c2, _⟩ := (HI.out.ev.keeps HK.out).cells he
          have HE := Lib.hid he
          clear he
          have k1 : (i : Int) < n := by omega
          have k2 : (0 : Int) ≤ i := by omega
          by_cases hay : e.addr = y
          · go_wp2
            go_ret2
            exact ⟨by rw [pair_next HO.out (HX.out.trans (nextAt_here HE.out hay))]; rfl, HK.out⟩
          · go_wp2
            go_round
            case rel => exact ⟨i + 1, by go_num, HX.out.trans (nextAt_step HE.out hay)⟩
            case measure => simp [intOf] <;> omega
        · go_wp2
          go_ret2
          exact ⟨by rw [pair_next HO.out (HX.out.trans (nextAt_past (by have := HI.out.len; omega)))]; rfl, HK.out⟩
set_option maxHeartbeats 4000000 in
set_option maxRecDepth 100000 in
theorem last_of (w : World) (a : Option Addr) (n c : Nat) (evs : List Ev) (h : EvIn w a n evs) (x y : Int) :
    Calls Tryz.prog 13 #[.slice a n c, .int .i64 x, .int .i64 y] w fun e w' => e = .returned (pairOf (outLast evs x y)) ∧ Keeps w w' := by
  have HI := Lib.hid h
  have hfew := h.few
  cases hro : readOf evs with
  | none =>
    have HO := Lib.hid hro
    have Hr := Lib.hid (read_no (c := c) h hro)
    clear h hro
    go_enter Tryz.func13, Tryz.ntmps13
    go_wp2_with (go_at_call 47; refine Hr.out.mono ?_; rintro _ w1 ⟨rfl, hk⟩; have HK := Lib.hid hk; clear hk)
    go_ret2
    exact ⟨by rw [pair_last_no HO.out]; rfl, HK.out⟩
  | some s =>
    have HO := Lib.hid hro
    have Hr := Lib.hid (read_yes (c := c) h hro)
    clear h hro
    by_cases hx : x < 0
    · have hx0 : min x.toNat evs.length = 0 := by omega
      go_enter Tryz.func13, Tryz.ntmps13
      go_wp2_with (go_at_call 47; refine Hr.out.mono ?_; rintro _ w1 ⟨L, M, wv, m, rf, rfl, hm⟩; have HK := Lib.hid hm.kept; clear hm)
      go_loop [8] (fun q => ∃ i : Nat, i ≤ n ∧ q = .int .i64 ((i : Int) - 1) ∧ lastAt evs y (min x.toNat evs.length) = lastAt evs y i) (fun q => (intOf q + 1).toNat)
      case atStart => exact ⟨0, by omega, by simp, by rw [hx0]⟩
      case round =>
        obtain ⟨i, hin, rfl, hnx⟩ := hrel
        have HX := Lib.hid hnx
        clear hnx
        cases i with
        | zero =>
          go_wp2
          go_ret2
          exact ⟨by rw [pair_last HO.out HX.out]; rfl, HK.out⟩
        | succ i =>
          have hsub : ((i + 1 : Nat) : Int) - 1 = i := by omega
          rw [hsub]
          obtain ⟨e, he⟩ : ∃ e, evs[i]? = some e := ⟨evs[i]'(by rw [← HI.out.len]; omega), List.getElem?_eq_getElem _⟩
          obtain ⟨eb, eo, rfl, hlt, _, _, c2, _⟩ := (HI.out.ev.keeps HK.out).cells he
          have HE := Lib.hid he
          clear he hsub
          have k1 : (i : Int) < n := by omega
          have k2 : (0 : Int) ≤ i := by omega
          by_cases hay : e.addr = y
          · go_wp2
            go_ret2
            exact ⟨by rw [pair_last HO.out (HX.out.trans (lastAt_here HE.out hay))]; rfl, HK.out⟩
          · go_wp2
            go_round
            case rel => exact ⟨i, by omega, by go_num, HX.out.trans (lastAt_step HE.out hay)⟩
            case measure => simp [intOf] <;> omega
    · obtain ⟨x, rfl⟩ := Int.eq_ofNat_of_zero_le (show (0 : Int) ≤ x by omega)
      by_cases hxn : x ≤ n
      · have hx0 : min (x : Int).toNat evs.length = x := by have := HI.out.len; simp; omega
        have hx1 : (x : Int) ≤ n := by omega
        have hx2 : ¬ (n : Int) < x := by omega
        go_enter Tryz.func13, Tryz.ntmps13
        go_wp2_with (go_at_call 47; refine Hr.out.mono ?_; rintro _ w1 ⟨L, M, wv, m, rf, rfl, hm⟩; have HK := Lib.hid hm.kept; clear hm)
        go_loop [8] (fun q => ∃ i : Nat, i ≤ n ∧ q = .int .i64 ((i : Int) - 1) ∧ lastAt evs y (min (x : Int).toNat evs.length) = lastAt evs y i) (fun q => (intOf q + 1).toNat)
        case atStart => exact ⟨x, by omega, by simp, by rw [hx0]⟩
        case round =>
          obtain ⟨i, hin, rfl, hnx⟩ := hrel
          have HX := Lib.hid hnx
          clear hnx
          cases i with
          | zero =>
            go_wp2
            go_ret2
            exact ⟨by rw [pair_last HO.out HX.out]; rfl, HK.out⟩
          | succ i =>
            have hsub : ((i + 1 : Nat) : Int) - 1 = i := by omega
            rw [hsub]
            obtain ⟨e, he⟩ : ∃ e, evs[i]? = some e := ⟨evs[i]'(by rw [← HI.out.len]; omega), List.getElem?_eq_getElem _⟩
            obtain ⟨eb, eo, rfl, hlt, _, _, c2, _⟩ := (HI.out.ev.keeps HK.out).cells he
            have HE := Lib.hid he
            clear he hsub
            have k1 : (i : Int) < n := by omega
            have k2 : (0 : Int) ≤ i := by omega
            by_cases hay : e.addr = y
            · go_wp2
              go_ret2
              exact ⟨by rw [pair_last HO.out (HX.out.trans (lastAt_here HE.out hay))]; rfl, HK.out⟩
            · go_wp2
              go_round
              case rel => exact ⟨i, by omega, by go_num, HX.out.trans (lastAt_step HE.out hay)⟩
              case measure => simp [intOf] <;> omega
      · have hx0 : min (x : Int).toNat evs.length = n := by have := HI.out.len; simp; omega
        have hx1 : (n : Int) ≤ x := by omega
        have hx2 : ¬ (x : Int) < n := by omega
        go_enter Tryz.func13, Tryz.ntmps13
        go_wp2_with (go_at_call 47; refine Hr.out.mono ?_; rintro _ w1 ⟨L, M, wv, m, rf, rfl, hm⟩; have HK := Lib.hid hm.kept; clear hm)
        go_loop [8] (fun q => ∃ i : Nat, i ≤ n ∧ q = .int .i64 ((i : Int) - 1) ∧ lastAt evs y (min (x : Int).toNat evs.length) = lastAt evs y i) (fun q => (intOf q + 1).toNat)
        case atStart => exact ⟨n, by omega, by simp, by rw [hx0]⟩
        case round =>
          obtain ⟨i, hin, rfl, hnx⟩ := hrel
          have HX := Lib.hid hnx
          clear hnx
          cases i with
          | zero =>
            go_wp2
            go_ret2
            exact ⟨by rw [pair_last HO.out HX.out]; rfl, HK.out⟩
          | succ i =>
            have hsub : ((i + 1 : Nat) : Int) - 1 = i := by omega
            rw [hsub]
            obtain ⟨e, he⟩ : ∃ e, evs[i]? = some e := ⟨evs[i]'(by rw [← HI.out.len]; omega), List.getElem?_eq_getElem _⟩
            obtain ⟨eb, eo, rfl, hlt, _, _, c2, _⟩ := (HI.out.ev.keeps HK.out).cells he
            have HE := Lib.hid he
            clear he hsub
            have k1 : (i : Int) < n := by omega
            have k2 : (0 : Int) ≤ i := by omega
            by_cases hay : e.addr = y
            · go_wp2
              go_ret2
              exact ⟨by rw [pair_last HO.out (HX.out.trans (lastAt_here HE.out hay))]; rfl, HK.out⟩
            · go_wp2
              go_round
              case rel => exact ⟨i, by omega, by go_num, HX.out.trans (lastAt_step HE.out hay)⟩
              case measure => simp [intOf] <;> omega
set_option maxHeartbeats 4000000 in
set_option maxRecDepth 100000 in
theorem refLast_of (w : World) (a : Option Addr) (n c : Nat) (evs : List Ev) (h : EvIn w a n evs) (x y : Int) :
    Calls Tryz.prog 14 #[.slice a n c, .int .i64 x, .int .i64 y] w fun e w' => e = .returned (pairOf (outLast evs x y)) ∧ Keeps w w' := by
  have HI := Lib.hid h
  have hfew := h.few
  cases hro : readOf evs with
  | none =>
    have HO := Lib.hid hro
    have hr := right_is (c := c) h
    rw [hro] at hr
    have Hr := Lib.hid hr
    clear hr h hro
    go_enter Tryz.func14, Tryz.ntmps14
    go_wp2_with (go_at_call 24; refine Hr.out.mono ?_; rintro _ w1 ⟨rfl, hk⟩; have HK := Lib.hid hk; clear hk)
    go_ret2
    exact ⟨by rw [pair_last_no HO.out]; rfl, HK.out⟩
  | some s =>
    have HO := Lib.hid hro
    have hr := right_is (c := c) h
    rw [hro] at hr
    have Hr := Lib.hid hr
    clear hr
    clear h hro
    by_cases hx : x < 0
    · have hx0 : min x.toNat evs.length = 0 := by omega
      go_enter Tryz.func14, Tryz.ntmps14
      go_wp2_with (go_at_call 24; refine Hr.out.mono ?_; rintro _ w1 ⟨rfl, hk⟩; have HK := Lib.hid hk; clear hk)
      go_loop [8] (fun q => ∃ i : Nat, i ≤ n ∧ q = .int .i64 ((i : Int) - 1) ∧ lastAt evs y (min x.toNat evs.length) = lastAt evs y i) (fun q => (intOf q + 1).toNat)
      case atStart => exact ⟨0, by omega, by simp, by rw [hx0]⟩
      case round =>
        obtain ⟨i, hin, rfl, hnx⟩ := hrel
        have HX := Lib.hid hnx
        clear hnx
        cases i with
        | zero =>
          go_wp2
          go_ret2
          exact ⟨by rw [pair_last HO.out HX.out]; rfl, HK.out⟩
        | succ i =>
          have hsub : ((i + 1 : Nat) : Int) - 1 = i := by omega
          rw [hsub]
          obtain ⟨e, he⟩ : ∃ e, evs[i]? = some e := ⟨evs[i]'(by rw [← HI.out.len]; omega), List.getElem?_eq_getElem _⟩
          obtain ⟨eb, eo, rfl, hlt, _, _, c2, _⟩ := (HI.out.ev.keeps HK.out).cells he
          have HE := Lib.hid he
          clear he hsub
          have k1 : (i : Int) < n := by omega
          have k2 : (0 : Int) ≤ i := by omega
          by_cases hay : e.addr = y
          · go_wp2
            go_ret2
            exact ⟨by rw [pair_last HO.out (HX.out.trans (lastAt_here HE.out hay))]; rfl, HK.out⟩
          · go_wp2
            go_round
            case rel => exact ⟨i, by omega, by go_num, HX.out.trans (lastAt_step HE.out hay)⟩
            case measure => simp [intOf] <;> omega
    · obtain ⟨x, rfl⟩ := Int.eq_ofNat_of_zero_le (show (0 : Int) ≤ x by omega)
      by_cases hxn : x ≤ n
      · have hx0 : min (x : Int).toNat evs.length = x := by have := HI.out.len; simp; omega
        have hx1 : (x : Int) ≤ n := by omega
        have hx2 : ¬ (n : Int) < x := by omega
        go_enter Tryz.func14, Tryz.ntmps14
        go_wp2_with (go_at_call 24; refine Hr.out.mono ?_; rintro _ w1 ⟨rfl, hk⟩; have HK := Lib.hid hk; clear hk)
        go_loop [8] (fun q => ∃ i : Nat, i ≤ n ∧ q = .int .i64 ((i : Int) - 1) ∧ lastAt evs y (min (x : Int).toNat evs.length) = lastAt evs y i) (fun q => (intOf q + 1).toNat)
        case atStart => exact ⟨x, by omega, by simp, by rw [hx0]⟩
        case round =>
          obtain ⟨i, hin, rfl, hnx⟩ := hrel
          have HX := Lib.hid hnx
          clear hnx
          cases i with
          | zero =>
            go_wp2
            go_ret2
            exact ⟨by rw [pair_last HO.out HX.out]; rfl, HK.out⟩
          | succ i =>
            have hsub : ((i + 1 : Nat) : Int) - 1 = i := by omega
            rw [hsub]
            obtain ⟨e, he⟩ : ∃ e, evs[i]? = some e := ⟨evs[i]'(by rw [← HI.out.len]; omega), List.getElem?_eq_getElem _⟩
            obtain ⟨eb, eo, rfl, hlt, _, _, c2, _⟩ := (HI.out.ev.keeps HK.out).cells he
            have HE := Lib.hid he
            clear he hsub
            have k1 : (i : Int) < n := by omega
            have k2 : (0 : Int) ≤ i := by omega
            by_cases hay : e.addr = y
            · go_wp2
              go_ret2
              exact ⟨by rw [pair_last HO.out (HX.out.trans (lastAt_here HE.out hay))]; rfl, HK.out⟩
            · go_wp2
              go_round
              case rel => exact ⟨i, by omega, by go_num, HX.out.trans (lastAt_step HE.out hay)⟩
              case measure => simp [intOf] <;> omega
      · have hx0 : min (x : Int).toNat evs.length = n := by have := HI.out.len; simp; omega
        have hx1 : (n : Int) ≤ x := by omega
        have hx2 : ¬ (x : Int) < n := by omega
        go_enter Tryz.func14, Tryz.ntmps14
        go_wp2_with (go_at_call 24; refine Hr.out.mono ?_; rintro _ w1 ⟨rfl, hk⟩; have HK := Lib.hid hk; clear hk)
        go_loop [8] (fun q => ∃ i : Nat, i ≤ n ∧ q = .int .i64 ((i : Int) - 1) ∧ lastAt evs y (min (x : Int).toNat evs.length) = lastAt evs y i) (fun q => (intOf q + 1).toNat)
        case atStart => exact ⟨n, by omega, by simp, by rw [hx0]⟩
        case round =>
          obtain ⟨i, hin, rfl, hnx⟩ := hrel
          have HX := Lib.hid hnx
          clear hnx
          cases i with
          | zero =>
            go_wp2
            go_ret2
            exact ⟨by rw [pair_last HO.out HX.out]; rfl, HK.out⟩
          | succ i =>
            have hsub : ((i + 1 : Nat) : Int) - 1 = i := by omega
            rw [hsub]
            obtain ⟨e, he⟩ : ∃ e, evs[i]? = some e := ⟨evs[i]'(by rw [← HI.out.len]; omega), List.getElem?_eq_getElem _⟩
            obtain ⟨eb, eo, rfl, hlt, _, _, c2, _⟩ := (HI.out.ev.keeps HK.out).cells he
            have HE := Lib.hid he
            clear he hsub
            have k1 : (i : Int) < n := by omega
            have k2 : (0 : Int) ≤ i := by omega
            by_cases hay : e.addr = y
            · go_wp2
              go_ret2
              exact ⟨by rw [pair_last HO.out (HX.out.trans (lastAt_here HE.out hay))]; rfl, HK.out⟩
            · go_wp2
              go_round
              case rel => exact ⟨i, by omega, by go_num, HX.out.trans (lastAt_step HE.out hay)⟩
              case measure => simp [intOf] <;> omega
end Go.Proofs.YtbhiaeciiphelaaGreatDoor
