/-
  DERIVED. Contract of the reference's Right: what it returns. Condition: the events lie in a row; there are at most sixty thousand.
-/
import Derived.Test.YtbhiaeciiphelaaGreatDoorEvM
import Derived.Deep.OwnRows
import Derived.RangeFuncNested
import Derived.RangeFuncBound
import Derived.RangeFuncCalls
import Derived.RangeFuncLeaves
import Derived.Shelf.Abstract
import Derived.Shelf.RegionOpen
import Derived.OwnWalkIn
import Derived.TacticsInMore
import Derived.LoopNIn
import Derived.LoopIn
namespace Go.Proofs.YtbhiaeciiphelaaGreatDoor
open Go.RowKit
theorem right_stop {evs : List Ev} {i : Nat} {e : Ev} {r : Rt} (hr : Rt.start.run (evs.take i) = some r) (he : evs[i]? = some e) (hs : r.step e = none) : rightOf evs = false := by
  have h1 := (Rt.run_take _ _ _ _ _ hr he).trans hs
  have h2 := Rt.run_append Rt.start (evs.take (i + 1)) (evs.drop (i + 1))
  rw [List.take_append_drop, h1] at h2
  unfold rightOf
  rw [h2]
  rfl
theorem rt_out {r : Rt} {e : Ev} (h : e.addr < 0 ∨ 30000 ≤ e.addr) : r.step e = none := by unfold Rt.step; rw [if_pos h]
theorem rt_made {r : Rt} {e : Ev} (h : ¬ (e.addr < 0 ∨ 30000 ≤ e.addr)) (k : e.kind = 1) (hm : r.made.contains e.addr = true ∨ e.zero = false) : r.step e = none := by unfold Rt.step; rw [if_neg h, if_pos k, if_pos hm]
theorem rt_make {r : Rt} {e : Ev} (h : ¬ (e.addr < 0 ∨ 30000 ≤ e.addr)) (k : e.kind = 1) (hm : r.made.contains e.addr = false) (hz : e.zero = true) : r.step e = some ⟨e.addr :: r.made, e.addr :: r.opn, r.n + 1⟩ := by
  unfold Rt.step; rw [if_neg h, if_pos k, if_neg (by simp only [hm, hz]; simp)]
theorem rt_noread {r : Rt} {e : Ev} (h : ¬ (e.addr < 0 ∨ 30000 ≤ e.addr)) (k : e.kind = 2) (hm : r.opn = [] ∨ 0 < e.argn) : r.step e = none := by unfold Rt.step; rw [if_neg h, if_neg (by omega), if_pos k, if_pos hm]
theorem rt_read {r : Rt} {e : Ev} (h : ¬ (e.addr < 0 ∨ 30000 ≤ e.addr)) (k : e.kind = 2) (hm : r.opn ≠ []) (ha : e.argn = 0) : r.step e = some { r with n := r.n + 1 } := by
  unfold Rt.step; rw [if_neg h, if_neg (by omega), if_pos k, if_neg (by simp [hm, ha])]
theorem rt_empty {r : Rt} {e : Ev} (h : ¬ (e.addr < 0 ∨ 30000 ≤ e.addr)) (k : e.kind = 3) (hm : r.opn = []) : r.step e = none := by
  unfold Rt.step; rw [if_neg h, if_neg (by omega), if_neg (by omega), if_pos k, hm]
theorem rt_nowrite {r : Rt} {e : Ev} {a : Int} {l : List Int} (h : ¬ (e.addr < 0 ∨ 30000 ≤ e.addr)) (k : e.kind = 3) (hm : r.opn = a :: l) (hx : a ≠ e.addr ∨ e.site ≠ 0 ∨ 0 < e.argn) : r.step e = none := by
  unfold Rt.step; rw [if_neg h, if_neg (by omega), if_neg (by omega), if_pos k, hm]; simp only; rw [if_pos hx]
theorem rt_write {r : Rt} {e : Ev} {a : Int} {l : List Int} (h : ¬ (e.addr < 0 ∨ 30000 ≤ e.addr)) (k : e.kind = 3) (hm : r.opn = a :: l) (hx : ¬ (a ≠ e.addr ∨ e.site ≠ 0 ∨ 0 < e.argn)) : r.step e = some { r with opn := l } := by
  unfold Rt.step; rw [if_neg h, if_neg (by omega), if_neg (by omega), if_pos k, hm]; simp only; rw [if_neg hx]
theorem rt_other {r : Rt} {e : Ev} (h : ¬ (e.addr < 0 ∨ 30000 ≤ e.addr)) (k1 : ¬ e.kind = 1) (k2 : ¬ e.kind = 2) (k3 : ¬ e.kind = 3) : r.step e = none := by
  unfold Rt.step; rw [if_neg h, if_neg k1, if_neg k2, if_neg k3]
theorem right_no {evs : List Ev} {w w' : World} (h : rightOf evs = false) (hk : Keeps w w') : Ending.returned (.bool false) = .returned (.bool (rightOf evs)) ∧ Keeps w w' := ⟨by rw [h], hk⟩
theorem info4 : (Tryz.prog.info? 4).map (fun i => (i.zero, i.size, i.bytes)) = some (some (.bool false), 1, 1) := by kernel_rfl
set_option maxHeartbeats 4000000 in
set_option maxRecDepth 100000 in
theorem right_of (w : World) (a : Option Addr) (n c : Nat) (evs : List Ev) (hev : EvsAt w a evs) (hn : n = evs.length) (hlen : n ≤ 60000) :
    Calls Tryz.prog 24 #[.slice a n c] w fun x w' => x = .returned (.bool (rightOf evs)) ∧ Keeps w w' := by
  have HE := Lib.hid hev
  have HN := Lib.hid hn
  have hz0 : ∀ (k m : Int) (s : ByteArray) (a : Option Addr) (n c : Nat) (w : World), Calls Tryz.prog 57 #[.agg #[.int .i64 k, .int .i64 m, .string s, .slice a n c]] w fun e w' => e = .returned (.bool (nothing k m s n)) ∧ Keeps w w' :=
    fun k m s a n c w => (zero_of k m s a n c w).mono (fun e w' h => ⟨h.1, by obtain ⟨o, h2⟩ := h.2; rw [h2]; exact Keeps.alloc _ _⟩)
  have Hf := Lib.hid hz0
  obtain ⟨big, hbig⟩ : ∃ big, big = madeCells #[.bool false] 30000 := ⟨_, rfl⟩
  have hmk : ∀ w : World, (Instr.makeSlice 49 (.int .i64 30000) (.int .i64 30000)).run Tryz.prog w = .ok (.slice (some ⟨w.heap.size, 0, none⟩) 30000 30000) (w.alloc (.cells big 4)) := by
    intro w
    rw [hbig]
    exact run_make_row' 49 4 (.bool false) 1 (by kernel_rfl) info4 rfl .i64 .i64 30000 (by decide) (by decide) w
  have Hbig := Lib.hid hbig
  obtain ⟨i3, hi3, hz3, hs3, hb3⟩ := info_parts info3
  clear hev hn hbig hz0
  have k0 : ¬ (60000 : Int) < n := by omega
  go_enter Tryz.func24, Tryz.ntmps24
  go_wp2
  clear hmk k0
  go_loopw [4, 5, 6] (fun ov nv q wr => ∃ (i : Nat) (r : Rt), i ≤ n ∧ q = .int .i64 i ∧ nv = .int .i64 r.n ∧ Rt.start.run (evs.take i) = some r ∧ r.opn.length ≤ i ∧ r.n ≤ i ∧ RtMem w wr w.heap.size ov r) (fun _ _ q _ => n - (intOf q).toNat)
  case atStart =>
    refine ⟨0, Rt.start, Nat.zero_le _, rfl, rfl, rfl, Nat.le_refl _, Nat.le_refl _, Keeps.alloc _ _, Nat.le_refl _, ⟨_, heap_alloc_at _ _, by rw [Hbig.out]; exact size_madeCells _ _, fun a ha => ?_⟩, World.ownsRow_nil _ _ _ _⟩
    rw [Hbig.out]
    simp [madeCells, Rt.start, ha, Nat.mod_one]
  case round =>
    obtain ⟨i, r, hi, rfl, rfl, hrun, hro, hrn, hmem⟩ := hrel
    have HM := Lib.hid hmem
    have HR := Lib.hid hrun
    clear hmem hrun
    by_cases hin : i < n
    · obtain ⟨e, he⟩ : ∃ e, evs[i]? = some e := ⟨evs[i]'(by rw [← HN.out]; omega), List.getElem?_eq_getElem _⟩
      obtain ⟨eb, eo, rfl, hlt, c0, c1, c2, c3, c4, c5, c6, c7⟩ := (HE.out.keeps HM.out.kept).cells he
      have HI := Lib.hid he
      clear he
      have k1 : (i : Int) < n := by omega
      have k2 : (0 : Int) ≤ i := by omega
      by_cases ha : e.addr < 0 ∨ 30000 ≤ e.addr
      · have hs := right_stop HR.out HI.out (rt_out ha)
        have HS := Lib.hid hs
        clear hs
        rcases ha with ha | ha
        · go_wp2
          go_ret
          exact right_no HS.out (Keeps.trans HM.out.kept (Keeps.alloc _ _))
        · have h0 : ¬ e.addr < 0 := by omega
          go_wp2
          go_ret
          exact right_no HS.out (Keeps.trans HM.out.kept (Keeps.alloc _ _))
      · have h0 : ¬ e.addr < 0 := by omega
        have h1 : ¬ 30000 ≤ e.addr := by omega
        have HA := Lib.hid ha
        clear ha
        have m0 := HM.out.cell (a := e.addr) (by omega) (by omega)
        have m1 := HM.out.free e.addr.toNat
        have m2 : w.heap.size < wr.heap.size := by obtain ⟨cur, h, _⟩ := HM.out.made; exact heap_lt h
        by_cases q1 : e.kind = 1
        · rw [q1] at c0
          cases hc : r.made.contains e.addr with
          | true =>
            rw [hc] at m0
            have HS := Lib.hid (right_stop HR.out HI.out (rt_made HA.out q1 (.inl hc)))
            go_wp2
            go_ret
            exact right_no HS.out (Keeps.trans HM.out.kept (Keeps.alloc _ _))
          | false =>
            rw [hc] at m0
            cases hz : e.zero with
            | false =>
              have HS := Lib.hid (right_stop HR.out HI.out (rt_made HA.out q1 (.inr hz)))
              unfold Ev.zero at hz
              go_wp2_with (go_at_call 57; refine (Hf.out _ _ _ _ _ _ _).mono ?_; rintro _ w3 ⟨rfl, hK3⟩; have HK3 := Lib.hid hK3; clear hK3)
              go_ret
              exact right_no HS.out (Keeps.trans (Keeps.trans HM.out.kept (Keeps.alloc _ _)) HK3.out)
            | true =>
              have HS := Lib.hid ((Rt.run_take _ _ _ _ _ HR.out HI.out).trans (rt_make HA.out q1 hc hz))
              unfold Ev.zero at hz
              go_wp2_with (first
                | (go_at_call 57; refine (Hf.out _ _ _ _ _ _ _).mono ?_; rintro _ w3 ⟨rfl, hK3⟩; have hM3 := HM.out.keeps (Keeps.trans (Keeps.alloc _ _) hK3); have d2 := cell_of_block (hK3.at (heap_alloc_at _ _) (fun x => x)) 2; simp at d2; have d3 := hM3.free e.addr.toNat; have d4 := hM3.cell (a := e.addr) (by omega) (by omega); have HMk := Lib.hid (hM3.mark (a := e.addr) (by omega) (by omega)); clear hM3 hK3)
                | (at_builtin; (refine wpList_append_own_at _ rfl (.tmp 49) (.tmp 52) 35 rfl w.heap.size 3 i3 (.int .i64 0) 1 8 under35 hi3 hz3 hs3 hb3 rfl (by decide) u4 r.opn.length (ints r.opn.reverse) rfl (HMk.out.opn.alloc _) ⟨_, 0, none⟩ 1 1 [.int .i64 e.addr] rfl rfl (by intro j u hj; have h9 := cell_one_new (w3.setCell ⟨w.heap.size, e.addr.toNat, none⟩ (.bool true)) (.int .i64 e.addr) 3 j u hj; simpa [World.setCell] using h9) (by simp [Value.oneCell']) (by unfold maxLen; omega) (by omega) (by have h9 := HMk.out.kept.size; rw [World.size_alloc]; exact Nat.le_succ_of_le h9) ?_; intro v5 w5 hown5 hgrow5 hnil5 hat5; have hM5 := HMk.out.push (((Kept.refl _ _).alloc _).grown hgrow5 (fun b hb _ => hb)) hown5 (r.n + 1); have HM5 := Lib.hid hM5; clear hM5 hown5 hgrow5 hnil5 hat5)))
              go_roundw
              case rel => exact ⟨i + 1, _, by omega, by go_num, by go_num, HS.out, by simp; omega, by simp; omega, HM5.out⟩
              case measure => simp [intOf]; omega
        · by_cases q2 : e.kind = 2
          · rw [q2] at c0
            cases ho : r.opn with
            | nil =>
              obtain ⟨p, cp, hov⟩ := HM.out.empty ho
              subst hov
              have HS := Lib.hid (right_stop HR.out HI.out (rt_noread HA.out q2 (.inl ho)))
              go_wp2
              go_ret
              exact right_no HS.out (Keeps.trans HM.out.kept (Keeps.alloc _ _))
            | cons a l =>
              obtain ⟨g, cap, hov, _, _, _, _⟩ := HM.out.pop ho
              subst hov
              by_cases hn0 : e.argn = 0
              · rw [hn0] at c3
                have HS := Lib.hid ((Rt.run_take _ _ _ _ _ HR.out HI.out).trans (rt_read HA.out q2 (by rw [ho]; simp) hn0))
                go_wp2
                go_roundw
                case rel => exact ⟨i + 1, _, by omega, by go_num, by go_num, HS.out, by simp; omega, by simp; omega, (HM.out.keeps (Keeps.alloc _ _)).count _⟩
                case measure => simp [intOf]; omega
              · have hn1 : (0 : Int) < e.argn := by omega
                have HS := Lib.hid (right_stop HR.out HI.out (rt_noread HA.out q2 (.inr (by omega))))
                go_wp2
                go_ret
                exact right_no HS.out (Keeps.trans HM.out.kept (Keeps.alloc _ _))
          · by_cases q3 : e.kind = 3
            · rw [q3] at c0
              cases ho : r.opn with
              | nil =>
                obtain ⟨p, cp, hov⟩ := HM.out.empty ho
                subst hov
                have HS := Lib.hid (right_stop HR.out HI.out (rt_empty HA.out q3 ho))
                go_wp2_with fail
                go_quiet (fail)
                go_wp2
                go_ret
                exact right_no HS.out (Keeps.trans HM.out.kept (Kept.drewN (Keeps.alloc _ _) _))
              | cons a l =>
                obtain ⟨g, cap, hov, hlc, hcm, hcell, hpop⟩ := HM.out.pop ho
                subst hov
                have hlm := heap_lt (show wr.heap[g]? = some _ from (row_block HM.out.opn rfl).choose_spec)
                have HPop := Lib.hid hpop
                have hln : (l.length : Int) < cap := by omega
                have hl0 : (0 : Int) ≤ l.length := by omega
                have hwl : IntKind.i64.wrap (l.length : Int) = l.length := by rw [IntKind.wrap_i64]; rw [ho] at hro; simp at hro; omega
                have hl1 : (l.length : Int) < l.length + 1 := by omega
                have hlz : ¬ ((l.length : Int) + 1 = 0) := by omega
                have hcm2 : cap ≤ 9223372036854775807 := hcm
                clear hpop hcm
                by_cases ha : a = e.addr
                · subst ha
                  by_cases hs0 : e.site = 0
                  · rw [hs0] at c1
                    by_cases hn0 : e.argn = 0
                    · rw [hn0] at c3
                      have HS := Lib.hid ((Rt.run_take _ _ _ _ _ HR.out HI.out).trans (rt_write HA.out q3 ho (by simp [hs0, hn0])))
                      go_wp2_with fail
                      go_quiet (fail)
                      go_wp2
                      go_roundw
                      case rel => exact ⟨i + 1, { r with opn := l }, by omega, by go_num, rfl, HS.out, by rw [ho] at hro; simp at hro; show l.length ≤ i + 1; omega, by show r.n ≤ i + 1; omega, HPop.out.keeps (Kept.drewN (Keeps.alloc _ _) _)⟩
                      case measure => simp [intOf]; omega
                    · have hn1 : (0 : Int) < e.argn := by omega
                      have HS := Lib.hid (right_stop HR.out HI.out (rt_nowrite HA.out q3 ho (.inr (.inr (by omega)))))
                      go_wp2_with fail
                      go_quiet (fail)
                      go_wp2
                      go_ret
                      exact right_no HS.out (Keeps.trans HM.out.kept (Kept.drewN (Keeps.alloc _ _) _))
                  · have HS := Lib.hid (right_stop HR.out HI.out (rt_nowrite HA.out q3 ho (.inr (.inl hs0))))
                    go_wp2_with fail
                    go_quiet (fail)
                    go_wp2
                    go_ret
                    exact right_no HS.out (Keeps.trans HM.out.kept (Kept.drewN (Keeps.alloc _ _) _))
                · have HS := Lib.hid (right_stop HR.out HI.out (rt_nowrite HA.out q3 ho (.inl ha)))
                  go_wp2_with fail
                  go_quiet (fail)
                  go_wp2
                  go_ret
                  exact right_no HS.out (Keeps.trans HM.out.kept (Kept.drewN (Keeps.alloc _ _) _))
            · have HS := Lib.hid (right_stop HR.out HI.out (rt_other HA.out q1 q2 q3))
              go_wp2
              go_ret
              exact right_no HS.out (Keeps.trans HM.out.kept (Keeps.alloc _ _))
    · obtain rfl : i = n := by omega
      have hrun := HR.out
      rw [HN.out, List.take_length] at hrun
      have hro2 : rightOf evs = decide (r.opn = [] ∧ r.n ≤ 30000) := by unfold rightOf; rw [hrun]
      have HRo := Lib.hid hro2
      clear hrun hro2
      cases ho : r.opn with
      | nil =>
        obtain ⟨p, cp, hov⟩ := HM.out.empty ho
        subst hov
        by_cases hnn : r.n ≤ 30000
        · have k1 : (r.n : Int) ≤ 30000 := by omega
          go_wp2
          go_ret
          exact ⟨by rw [HRo.out]; simp [ho, hnn], HM.out.kept⟩
        · have k1 : ¬ (r.n : Int) ≤ 30000 := by omega
          go_wp2
          go_ret
          exact ⟨by rw [HRo.out]; simp [ho, hnn], HM.out.kept⟩
      | cons a l =>
        obtain ⟨g, cap, hov, h7, h8, h9, h10⟩ := HM.out.pop ho
        subst hov
        clear h7 h8 h9 h10
        go_wp2
        go_ret
        exact ⟨by rw [HRo.out]; simp [ho], HM.out.kept⟩
end Go.Proofs.YtbhiaeciiphelaaGreatDoor
namespace Go.Proofs.YtbhiaeciiphelaaGreatDoor
open Go.RowKit
structure EvIn (w : World) (a : Option Addr) (n : Nat) (evs : List Ev) : Prop where
  ev : EvsAt w a evs
  len : n = evs.length
  few : n ≤ 60000
theorem EvIn.keeps {w w' : World} {a : Option Addr} {n : Nat} {evs : List Ev} (h : EvIn w a n evs) (hk : Keeps w w') : EvIn w' a n evs := ⟨h.ev.keeps hk, h.len, h.few⟩
section
variable {w : World} {a : Option Addr} {n c : Nat} {evs : List Ev}
theorem read_no (h : EvIn w a n evs) (hr : readOf evs = none) : Calls Tryz.prog 47 #[.slice a n c] w fun x w' => x = .returned (.pointer none) ∧ Keeps w w' :=
  (read_of w a n c evs h.ev h.len (Nat.le_trans h.few (by decide))).mono (fun x w' hp => by
    obtain ⟨h1, h2⟩ := hp
    rw [hr] at h2
    exact ⟨h2, h1⟩)
theorem read_yes (h : EvIn w a n evs) {s : St} (hr : readOf evs = some s) : Calls Tryz.prog 47 #[.slice a n c] w fun x w' => ∃ L M wv m rf, x = .returned (.pointer (some ⟨L, 0, none⟩)) ∧ RMem w w' (.slice a n c) L M wv m rf s.sps s.within :=
  (read_of w a n c evs h.ev h.len (Nat.le_trans h.few (by decide))).mono (fun x w' hp => by
    obtain ⟨h1, h2⟩ := hp
    rw [hr] at h2
    exact h2)
theorem right_is (h : EvIn w a n evs) : Calls Tryz.prog 24 #[.slice a n c] w fun x w' => x = .returned (.bool (readOf evs).isSome) ∧ Keeps w w' :=
  (right_of w a n c evs h.ev h.len h.few).mono (fun x w' hp => by rw [← right_read]; exact hp)
end
end Go.Proofs.YtbhiaeciiphelaaGreatDoor
namespace Go.Proofs.YtbhiaeciiphelaaGreatDoor
open Go.RowKit
section
variable {evs : List Ev} {s : St}
theorem read_nd (h : readOf evs = some s) : (s.sps.map (·.addr)).Nodup := (read_span h 0).2.nd
theorem span_yes (h : readOf evs = some s) {k : Nat} {p : Sp} {y : Int} (hp : s.sps[k]? = some p) (ha : p.addr = y) : spanOf y evs = ⟨p.frm, p.to, true⟩ := (read_span h y).1.1 p (List.mem_of_getElem? hp) ha
theorem span_no (h : readOf evs = some s) {y : Int} (ha : s.sps.any (fun p => p.addr == y) = false) : spanOf y evs = ⟨0, 0, false⟩ :=
  (read_span h y).1.2 fun p hp hpa => by
    have : s.sps.any (fun p => p.addr == y) = true := List.any_eq_true.2 ⟨p, hp, by simp [hpa]⟩
    rw [ha] at this; cases this
end
set_option maxHeartbeats 2000000 in
theorem found_no (w : World) (a : Option Addr) (n c : Nat) (evs : List Ev) (h : EvIn w a n evs) (y : Int) (hro : readOf evs = none) :
    Calls Tryz.prog 48 #[.slice a n c, .int .i64 y] w fun e w' => e = .returned (.tuple #[.pointer none, .pointer none, .int .i64 250]) ∧ Keeps w w' := by
  have Hr := Lib.hid (read_no (c := c) h hro)
  clear h hro
  go_enter Tryz.func48, Tryz.ntmps48
  go_wp2_with (go_at_call 47; refine Hr.out.mono ?_; rintro _ w1 ⟨rfl, hk⟩; have HK := Lib.hid hk; clear hk)
  go_ret3
  exact ⟨rfl, HK.out⟩
set_option maxHeartbeats 2000000 in
theorem found_none (w : World) (a : Option Addr) (n c : Nat) (evs : List Ev) (h : EvIn w a n evs) (y : Int) (s : St) (hro : readOf evs = some s) (hany : s.sps.any (fun p => p.addr == y) = false) :
    Calls Tryz.prog 48 #[.slice a n c, .int .i64 y] w fun e w' => e = .returned (.tuple #[.pointer none, .pointer none, .int .i64 3]) ∧ Keeps w w' := by
  have Hr := Lib.hid (read_yes (c := c) h hro)
  have HN := Lib.hid (read_nd hro)
  have HA := Lib.hid hany
  clear h hro hany
  go_enter Tryz.func48, Tryz.ntmps48
  go_wp2_with (go_at_call 47; refine Hr.out.mono ?_; rintro _ w1 ⟨L, M, wv, m, rf, rfl, hm⟩; have e1 : w1.cell? ⟨L, 1, none⟩ = some (.map (some M)) := (by rw [cell_of_block hm.hL]; rfl); have hlk := hm.map.look (by rw [hm.addrs]; exact HN.out) y; rw [look_none hm.addrs HA.out] at hlk; have HM := Lib.hid hm; clear hm)
  go_ret3
  exact ⟨rfl, HM.out.kept⟩
set_option maxHeartbeats 2000000 in
set_option maxRecDepth 100000 in
theorem found_yes (w : World) (a : Option Addr) (n c : Nat) (evs : List Ev) (h : EvIn w a n evs) (y : Int) (s : St) (hro : readOf evs = some s) (hany : s.sps.any (fun p => p.addr == y) = true) :
    Calls Tryz.prog 48 #[.slice a n c, .int .i64 y] w fun e w' => ∃ (L M : Nat) (wv : Value) (m : List (Int × Nat)) (rf : Nat → Value) (k : Nat) (p : Sp) (b : Nat), e = .returned (.tuple #[.pointer (some ⟨L, 0, none⟩), .pointer (some ⟨b, 0, none⟩), .int .i64 0]) ∧ RMem w w' (.slice a n c) L M wv m rf s.sps s.within ∧
      s.sps[k]? = some p ∧ p.addr = y ∧ m[k]? = some (y, b) := by
  have Hr := Lib.hid (read_yes (c := c) h hro)
  have HN := Lib.hid (read_nd hro)
  have HA := Lib.hid hany
  clear h hro hany
  go_enter Tryz.func48, Tryz.ntmps48
  go_wp2_with fail
  refine Hr.out.mono ?_
  rintro _ w1 ⟨L, M, wv, m, rf, rfl, hm⟩
  have e1 : w1.cell? ⟨L, 1, none⟩ = some (.map (some M)) := by rw [cell_of_block hm.hL]; rfl
  obtain ⟨k, p, b, hp, hpa, hx, hlo⟩ := look_some hm.addrs HA.out
  have hlk : ∀ nq, (Instr.lookup 127 (.map (some M)) (.int .i64 y) false).run Tryz.prog (w1.drewN nq) = .ok (.pointer (lookP m y)) (w1.drewN nq) := fun nq => (hm.map.same (w' := w1.drewN nq) rfl).look (by rw [hm.addrs]; exact HN.out) y
  have hlk1 : (Instr.lookup 127 (.map (some M)) (.int .i64 y) false).run Tryz.prog w1 = .ok (.pointer (lookP m y)) w1 := hm.map.look (by rw [hm.addrs]; exact HN.out) y
  rw [hlo] at hlk hlk1
  have HM := Lib.hid hm
  have HP := Lib.hid hp
  have HX := Lib.hid hx
  have HPa := Lib.hid hpa
  clear hm hlo hp hx hpa
  go_wp2_with fail
  go_quiet (fail)
  go_wp2
  go_ret3
  exact ⟨L, M, wv, m, rf, k, p, b, rfl, HM.out.keeps (Keeps.drewN _ _), HP.out, HPa.out, HX.out⟩
def outSpan (evs : List Ev) (y : Int) : Nat × Nat × Int := if (readOf evs).isSome then (if (spanOf y evs).is then ((spanOf y evs).frm, (spanOf y evs).to, 0) else (0, 0, 3)) else (0, 0, 250)
theorem outSpan_no {evs : List Ev} {y : Int} (h : readOf evs = none) : outSpan evs y = (0, 0, 250) := by unfold outSpan; rw [h]; rfl
theorem outSpan_none {evs : List Ev} {y : Int} {s : St} (h : readOf evs = some s) (ha : s.sps.any (fun p => p.addr == y) = false) : outSpan evs y = (0, 0, 3) := by unfold outSpan; rw [h, span_no h ha]; rfl
theorem outSpan_yes {evs : List Ev} {y : Int} {s : St} (h : readOf evs = some s) {k : Nat} {p : Sp} (hp : s.sps[k]? = some p) (ha : p.addr = y) : outSpan evs y = (p.frm, p.to, 0) := by unfold outSpan; rw [h, span_yes h hp ha]; rfl
def Spn.e (x : Spn) : Int := if x.is then 0 else 3
def SpnAt (W : World) (B : Nat) (x : Spn) : Prop := W.heap[B]? = some (.cells #[.int .i64 x.frm, .int .i64 x.to, .int .i64 x.e] 31 (0, 0))
theorem Kept.set1 {B : Nat} {W W' : World} (h : Kept (fun b => b = B) W W') (o : Nat) (v : Value) : Kept (fun b => b = B) W (W'.setCell ⟨B, o, none⟩ v) := h.setCell (p := ⟨B, o, none⟩) (fun _ => rfl) v
theorem Kept.set0 {B : Nat} {W W' : World} (h : Keeps W W') (hB : W.heap.size ≤ B) (o : Nat) (v : Value) : Keeps W (W'.setCell ⟨B, o, none⟩ v) := h.setCell (p := ⟨B, o, none⟩) (fun h => absurd h (Nat.not_lt.2 hB)) v
theorem SpnAt.made {W : World} {B : Nat} {x : Spn} (h : SpnAt W B x) (i : Nat) : SpnAt ((W.setCell ⟨B, 0, none⟩ (.int .i64 i)).setCell ⟨B, 2, none⟩ (.int .i64 0)) B ⟨i, x.to, true⟩ := by
  unfold SpnAt at h ⊢
  rw [heap_set_same (heap_set_same h _)]; rfl
theorem SpnAt.wrote {W : World} {B : Nat} {x : Spn} (h : SpnAt W B x) (i : Nat) : SpnAt (W.setCell ⟨B, 1, none⟩ (.int .i64 i)) B ⟨x.frm, i, x.is⟩ := by
  unfold SpnAt at h ⊢
  rw [heap_set_same h]; rfl
theorem size31 : (Tryz.prog.info? 31).map (fun x => x.size) = some 3 := by kernel_rfl
theorem results_span {fn : Func} {p : Tmp} (h : fn.results = #[.cell p 31]) (tmps : Array Value) (w : World) (g : Nat) (x y z : Value) (hp : tmps.getD p undef = .pointer (some ⟨g, 0, none⟩)) (hg : w.heap[g]? = some (.cells #[x, y, z] 31 (0, 0))) :
    (results fn tmps).run Tryz.prog w = .ok (.agg #[x, y, z]) w := by
  exact results_cell_row h tmps w g 31 _ _ _ hp hg Tryz.underlying31 rfl size31
set_option maxHeartbeats 4000000 in
set_option maxRecDepth 100000 in
theorem refspan_of (w : World) (a : Option Addr) (n c : Nat) (evs : List Ev) (h : EvIn w a n evs) (y : Int) :
    Calls Tryz.prog 49 #[.slice a n c, .int .i64 y] w fun e w' => e = .returned (.agg #[.int .i64 (spanOf y evs).frm, .int .i64 (spanOf y evs).to, .int .i64 (spanOf y evs).e]) ∧ Keeps w w' := by
  have HI := Lib.hid h
  have hfew := h.few
  clear h
  go_enter Tryz.func49, Tryz.ntmps49
  go_wp2
  go_loopw [6] (fun q wr => ∃ i : Nat, i ≤ n ∧ q = .int .i64 i ∧ Keeps w wr ∧ wr.heap[w.heap.size]? = some (.cells #[.int .i64 0, .int .i64 0, .int .i64 0] 31 (0, 0)) ∧ SpnAt wr (w.heap.size + 1) ((Spn.mk 0 0 false).run y 0 (evs.take i))) (fun q _ => n - (intOf q).toNat)
  case atStart =>
    have hsz : (w.alloc (.cells #[.int .i64 0, .int .i64 0, .int .i64 0] 31)).heap.size = w.heap.size + 1 := World.size_alloc _ _
    refine ⟨0, Nat.zero_le _, rfl, ((Kept.refl _ w).alloc _).alloc _, heap_alloc_old _ (heap_alloc_at w _), ?_⟩
    unfold SpnAt
    rw [← hsz]; exact heap_alloc_at _ _
  case round =>
    obtain ⟨i, hi, rfl, hk, hA, hB⟩ := hrel
    have HK := Lib.hid hk
    have HA := Lib.hid hA
    have HB := Lib.hid hB
    unfold SpnAt at hB
    have f0 := free_of_block hB 0
    have f1 := free_of_block hB 1
    have f2 := free_of_block hB 2
    have b0 := cell_of_block hB 0
    have b1 := cell_of_block hB 1
    have b2 := cell_of_block hB 2
    simp at b0 b1 b2
    clear hk hA hB
    by_cases hin : i < n
    · obtain ⟨e, he⟩ : ∃ e, evs[i]? = some e := ⟨evs[i]'(by rw [← HI.out.len]; omega), List.getElem?_eq_getElem _⟩
      obtain ⟨eb, eo, rfl, hlt, _⟩ := HI.out.ev.cells he
      obtain ⟨eb', eo', heq, _, c0, _, c2, _⟩ := (HI.out.ev.keeps HK.out).cells he
      injection heq with heq
      injection heq with heq1 heq2
      subst heq1 heq2
      have hne : ¬ eb = w.heap.size + 1 := by omega
      have hne2 : ¬ w.heap.size + 1 = eb := by omega
      have HS := Lib.hid (Spn.run_take y (Spn.mk 0 0 false) evs i e he)
      clear he
      have k1 : (i : Int) < n := by omega
      have k2 : (0 : Int) ≤ i := by omega
      have HK2 := Lib.hid (fun (W : World) (h : Kept (fun b => b = w.heap.size + 1) wr W) => (⟨Kept.trans HK.out h (fun x hx e => by omega), h.at HA.out (by omega)⟩ : Keeps w W ∧ W.heap[w.heap.size]? = some (.cells #[.int .i64 0, .int .i64 0, .int .i64 0] 31 (0, 0))))
      by_cases hay : e.addr = y
      · by_cases q1 : e.kind = 1
        · rw [q1] at c0
          have HX := Lib.hid (HB.out.made i)
          go_wp2
          go_roundw
          case rel => exact ⟨i + 1, by omega, by go_num, (HK2.out _ (((Kept.refl _ _).set1 0 _).set1 2 _)).1, (HK2.out _ (((Kept.refl _ _).set1 0 _).set1 2 _)).2, by rw [HS.out, Spn.step, if_pos hay, if_pos q1]; exact HX.out⟩
          case measure => simp [intOf] <;> omega
        · by_cases q3 : e.kind = 3
          · rw [q3] at c0
            have HX := Lib.hid (HB.out.wrote i)
            go_wp2
            go_roundw
            case rel => exact ⟨i + 1, by omega, by go_num, (HK2.out _ ((Kept.refl _ _).set1 1 _)).1, (HK2.out _ ((Kept.refl _ _).set1 1 _)).2, by rw [HS.out, Spn.step, if_pos hay, if_neg q1, if_pos q3]; exact HX.out⟩
            case measure => simp [intOf] <;> omega
          · go_wp2
            go_roundw
            case rel => exact ⟨i + 1, by omega, by go_num, HK.out, HA.out, by rw [HS.out, Spn.step, if_pos hay, if_neg q1, if_neg q3]; exact HB.out⟩
            case measure => simp [intOf] <;> omega
      · go_wp2
        go_roundw
        case rel => exact ⟨i + 1, by omega, by go_num, HK.out, HA.out, by rw [HS.out, Spn.step, if_neg hay]; exact HB.out⟩
        case measure => simp [intOf] <;> omega
    · obtain rfl : i = n := by omega
      have g0 := free_of_block HA.out 0
      have g1 := free_of_block HA.out 1
      have g2 := free_of_block HA.out 2
      have a0 := cell_of_block HA.out 0
      have a1 := cell_of_block HA.out 1
      have a2 := cell_of_block HA.out 2
      simp at a0 a1 a2
      have HR := Lib.hid (show spanOf y evs = (Spn.mk 0 0 false).run y 0 (evs.take i) by rw [HI.out.len, List.take_length]; rfl)
      go_wp2
      refine bodyPost_ret (results_span rfl _ _ w.heap.size (.int .i64 (spanOf y evs).frm) (.int .i64 (spanOf y evs).to) (.int .i64 (spanOf y evs).e) rfl ?_) rfl ?_
      · rw [HR.out, heap_set_same (heap_set_same (heap_set_same HA.out _) _) _]; rfl
      exact ⟨rfl, ((HK.out.set0 (Nat.le_refl _) _ _).set0 (Nat.le_refl _) _ _).set0 (Nat.le_refl _) _ _⟩
theorem outSpan_ref {evs : List Ev} {y : Int} {s : St} (h : readOf evs = some s) : outSpan evs y = ((spanOf y evs).frm, (spanOf y evs).to, (spanOf y evs).e) := by
  cases hany : s.sps.any (fun p => p.addr == y) with
  | false => rw [outSpan_none h hany, span_no h hany]; rfl
  | true =>
    obtain ⟨p, hp, hpa⟩ := List.any_eq_true.1 hany
    obtain ⟨k, hk⟩ := List.mem_iff_getElem?.1 hp
    rw [outSpan_yes h hk (by simpa using hpa), span_yes h hk (by simpa using hpa)]; rfl
set_option maxHeartbeats 4000000 in
set_option maxRecDepth 100000 in
theorem refSpan_of (w : World) (a : Option Addr) (n c : Nat) (evs : List Ev) (h : EvIn w a n evs) (y : Int) :
    Calls Tryz.prog 16 #[.slice a n c, .int .i64 y] w fun e w' => e = .returned (.agg #[.int .i64 (outSpan evs y).1, .int .i64 (outSpan evs y).2.1, .int .i64 (outSpan evs y).2.2]) ∧ Keeps w w' := by
  have hI1 : EvIn (w.alloc (.cells #[.int .i64 0, .int .i64 0, .int .i64 0] 31)) a n evs := h.keeps (Keeps.alloc _ _)
  have hr := right_is (c := c) hI1
  have HI := Lib.hid h
  cases hro : readOf evs with
  | none =>
    rw [hro] at hr
    have Hr := Lib.hid hr
    rw [outSpan_no hro]
    clear hr h hro hI1
    go_enter Tryz.func16, Tryz.ntmps16
    go_wp2_with fail
    refine Hr.out.mono ?_
    rintro _ w1 ⟨rfl, hk⟩
    have hA := hk.at (heap_alloc_at _ _) (fun x => x)
    have g0 := free_of_block hA 0
    have g1 := free_of_block hA 1
    have g2 := free_of_block hA 2
    have a0 := cell_of_block hA 0
    have a1 := cell_of_block hA 1
    have a2 := cell_of_block hA 2
    simp at a0 a1 a2
    have HA := Lib.hid hA
    have HK := Lib.hid (Keeps.trans (Keeps.alloc _ _) hk)
    clear hA hk
    go_wp2
    refine bodyPost_ret (results_span rfl _ _ w.heap.size (.int .i64 0) (.int .i64 0) (.int .i64 250) rfl ?_) rfl ?_
    · rw [heap_set_same (heap_set_same (heap_set_same HA.out _) _) _]; rfl
    exact ⟨rfl, ((HK.out.set0 (Nat.le_refl _) _ _).set0 (Nat.le_refl _) _ _).set0 (Nat.le_refl _) _ _⟩
  | some s =>
    rw [hro] at hr
    have Hr := Lib.hid hr
    have HH := Lib.hid h
    rw [outSpan_ref hro]
    clear hr h hro hI1
    go_enter Tryz.func16, Tryz.ntmps16
    go_wp2_with fail
    refine Hr.out.mono ?_
    rintro _ w1 ⟨rfl, hk⟩
    have HA1 := Lib.hid (hk.at (heap_alloc_at _ _) (fun x => x))
    have HK1 := Lib.hid (Keeps.trans (Keeps.alloc _ _) hk)
    clear hk
    go_wp2_with fail
    refine (refspan_of _ _ _ _ _ (HH.out.keeps HK1.out) y).mono ?_
    rintro _ w2 ⟨rfl, hk⟩
    have hA := hk.at HA1.out (fun x => x)
    have g0 := free_of_block hA 0
    have g1 := free_of_block hA 1
    have g2 := free_of_block hA 2
    have a0 := cell_of_block hA 0
    have a1 := cell_of_block hA 1
    have a2 := cell_of_block hA 2
    simp at a0 a1 a2
    have HA := Lib.hid hA
    have HK := Lib.hid (Keeps.trans HK1.out hk)
    clear hA hk
    go_wp2
    refine bodyPost_ret (results_span rfl _ _ w.heap.size (.int .i64 (spanOf y evs).frm) (.int .i64 (spanOf y evs).to) (.int .i64 (spanOf y evs).e) rfl ?_) rfl ?_
    · rw [heap_set_same (heap_set_same (heap_set_same HA.out _) _) _]; rfl
    exact ⟨rfl, ((HK.out.set0 (Nat.le_refl _) _ _).set0 (Nat.le_refl _) _ _).set0 (Nat.le_refl _) _ _⟩
end Go.Proofs.YtbhiaeciiphelaaGreatDoor
namespace Go.Proofs.YtbhiaeciiphelaaGreatDoor
open Go.RowKit Go.Shelf
def Obj.firm : Obj → Bool
  | .cells _ _ _ => false
  | _ => true
structure KeepNC (X : Nat → Prop) (W W' : World) : Prop where
  size : W.heap.size ≤ W'.heap.size
  same : ∀ b o, ¬ X b → W.heap[b]? = some o → Obj.firm o = true → W'.heap[b]? = some o
theorem KeepNC.refl (X : Nat → Prop) (W : World) : KeepNC X W W := ⟨Nat.le_refl _, fun _ _ _ h _ => h⟩
theorem KeepNC.trans {X : Nat → Prop} {A B C : World} (h : KeepNC X A B) (k : KeepNC X B C) : KeepNC X A C :=
  ⟨Nat.le_trans h.size k.size, fun b o hx hb ho => k.same b o hx (h.same b o hx hb ho) ho⟩
theorem KeepNC.mono {X Y : Nat → Prop} {A B : World} (h : KeepNC X A B) (hXY : ∀ b, X b → Y b) : KeepNC Y A B := ⟨h.size, fun b o hy => h.same b o (fun hx => hy (hXY b hx))⟩
theorem KeepNC.drewN {X : Nat → Prop} {A B : World} (h : KeepNC X A B) (n : Nat) : KeepNC X A (B.drewN n) := ⟨h.size, h.same⟩
theorem KeepNC.drew {X : Nat → Prop} {A B : World} (h : KeepNC X A B) : KeepNC X A B.drew := ⟨h.size, h.same⟩
theorem KeepNC.alloc {X : Nat → Prop} {A B : World} (h : KeepNC X A B) (o : Obj) : KeepNC X A (B.alloc o) :=
  ⟨Nat.le_trans h.size (by simp), fun b o' hx hb ho => by have := h.same b o' hx hb ho; rw [Below.heap_alloc _ _ _ (lt_of_block this)]; exact this⟩
theorem KeepNC.setCell {X : Nat → Prop} {A B : World} (h : KeepNC X A B) (p : Addr) (v : Value) (hp : ∀ o, B.heap[p.block]? = some o → Obj.firm o = false) : KeepNC X A (B.setCell p v) := by
  refine ⟨Nat.le_trans h.size (by simp [World.setCell]), fun b o hx hb ho => ?_⟩
  have h1 := h.same b o hx hb ho
  rw [Below.heap_setCell _ _ _ _ (fun e => by subst e; have := hp _ h1; rw [ho] at this; cases this)]; exact h1
theorem KeepNC.grown {X : Nat → Prop} {A B C : World} (h : KeepNC X A B) {row : Option Nat} (hg : B.grownBy C row) (hr : ∀ k, row = some k → ∀ o, B.heap[k]? = some o → Obj.firm o = false) : KeepNC X A C := by
  refine ⟨Nat.le_trans h.size hg.size, fun b o hx hb ho => ?_⟩
  have h1 := h.same b o hx hb ho
  rw [hg.block b (lt_of_block h1) (fun e => by have := hr b e.symm _ h1; rw [ho] at this; cases this)]
  exact h1
theorem KeepNC.kept {X S : Nat → Prop} {A B C : World} (h : KeepNC X A B) (hk : Kept S B C) (hS : ∀ b, S b → ∀ o, B.heap[b]? = some o → Obj.firm o = false) : KeepNC X A C := by
  refine ⟨Nat.le_trans h.size hk.size, fun b o hx hb ho => ?_⟩
  have h1 := h.same b o hx hb ho
  rw [hk.block b (lt_of_block h1) (fun e => by have := hS b e _ h1; rw [ho] at this; cases this)]
  exact h1
def Yields (l : Nat) (args : Array Value) (W : World) (R : Ending → World → Prop) : Prop := YieldAt Fence.wide 0 Tryz.prog l args W R
theorem roundIn_any {m : Nat} (m' : Nat) {l : Nat} {f : FuncId} {tmps : Array Value} {assign body : Code} {w : World} {R : Ending → World → Prop}
    (h : RoundIn Fence.wide m Tryz.prog l f tmps assign body w R) : RoundIn Fence.wide m' Tryz.prog l f tmps assign body w R := ⟨trivial, fun c cs _ => h.2 c cs (room_wide _)⟩
def goesOn (l : Nat) (rec : Loop) (X : Nat → Prop) (J : World → Prop) (W : World) : Exit → Act → World → Prop
  | .normal, _, W' => W'.heap[l]? = some (.loop rec) ∧ W'.heap[rec.defers]? = some (.deferred (some [])) ∧ KeepNC X W W' ∧ J W'
  | _, _, _ => False
end Go.Proofs.YtbhiaeciiphelaaGreatDoor
