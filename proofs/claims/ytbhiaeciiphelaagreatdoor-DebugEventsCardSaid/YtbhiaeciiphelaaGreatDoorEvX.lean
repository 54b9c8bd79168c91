/-
  DERIVED. Contract of the reference's Right: what it returns. Condition: the events lie in a row; there are at most sixty thousand.
-/
import Derived.Test.YtbhiaeciiphelaaGreatDoorEvM
import Derived.Deep.OwnRows
import Derived.RangeFuncNested
import Derived.RangeFuncBound
import Derived.RangeFuncCalls
import Derived.RangeFuncLeaves
import Derived.Shelf.Abstract
import Derived.Shelf.RegionOpen
import Derived.OwnWalkIn
import Derived.TacticsInMore
import Derived.LoopNIn
import Derived.LoopIn
namespace Go.Proofs.YtbhiaeciiphelaaGreatDoor
open Go.RowKit
theorem right_stop {evs : List Ev} {i : Nat} {e : Ev} {r : Rt} (hr : Rt.start.run (evs.take i) = some r) (he : evs[i]? = some e) (hs : r.step e = none) : rightOf evs = false := by
  have h1 := (Rt.run_take _ _ _ _ _ hr he).trans hs
  have h2 := Rt.run_append Rt.start (evs.take (i + 1)) (evs.drop (i + 1))
  rw [List.take_append_drop, h1] at h2
  unfold rightOf
  rw [h2]
  rfl
theorem rt_out {r : Rt} {e : Ev} (h : e.addr < 0 ∨ 30000 ≤ e.addr) : r.step e = none := by unfold Rt.step; rw [if_pos h]
theorem rt_made {r : Rt} {e : Ev} (h : ¬ (e.addr < 0 ∨ 30000 ≤ e.addr)) (k : e.kind = 1) (hm : r.made.contains e.addr = true ∨ e.zero = false) : r.step e = none := by unfold Rt.step; rw [if_neg h, if_pos k, if_pos hm]
theorem rt_make {r : Rt} {e : Ev} (h : ¬ (e.addr < 0 ∨ 30000 ≤ e.addr)) (k : e.kind = 1) (hm : r.made.contains e.addr = false) (hz : e.zero = true) : r.step e = some ⟨e.addr :: r.made, e.addr :: r.opn, r.n + 1⟩ := by
  unfold Rt.step; rw [if_neg h, if_pos k, if_neg (by simp only [hm, hz]; simp)]
theorem rt_noread {r : Rt} {e : Ev} (h : ¬ (e.addr < 0 ∨ 30000 ≤ e.addr)) (k : e.kind = 2) (hm : r.opn = [] ∨ 0 < e.argn) : r.step e = none := by unfold Rt.step; rw [if_neg h, if_neg (by omega), if_pos k, if_pos hm]
theorem rt_read {r : Rt} {e : Ev} (h : ¬ (e.addr < 0 ∨ 30000 ≤ e.addr)) (k : e.kind = 2) (hm : r.opn ≠ []) (ha : e.argn = 0) : r.step e = some { r with n := r.n + 1 } := by
  unfold Rt.step; rw [if_neg h, if_neg (by omega), if_pos k, if_neg (by simp [hm, ha])]
theorem rt_empty {r : Rt} {e : Ev} (h : ¬ (e.addr < 0 ∨ 30000 ≤ e.addr)) (k : e.kind = 3) (hm : r.opn = []) : r.step e = none := by
  unfold Rt.step; rw [if_neg h, if_neg (by omega), if_neg (by omega), if_pos k, hm]
theorem rt_nowrite {r : Rt} {e : Ev} {a : Int} {l : List Int} (h : ¬ (e.addr < 0 ∨ 30000 ≤ e.addr)) (k : e.kind = 3) (hm : r.opn = a :: l) (hx : a ≠ e.addr ∨ e.site ≠ 0 ∨ 0 < e.argn) : r.step e = none := by
  unfold Rt.step; rw [if_neg h, if_neg (by omega), if_neg (by omega), if_pos k, hm]; simp only; rw [if_pos hx]
theorem rt_write {r : Rt} {e : Ev} {a : Int} {l : List Int} (h : ¬ (e.addr < 0 ∨ 30000 ≤ e.addr)) (k : e.kind = 3) (hm : r.opn = a :: l) (hx : ¬ (a ≠ e.addr ∨ e.site ≠ 0 ∨ 0 < e.argn)) : r.step e = some { r with opn := l } := by
  unfold Rt.step; rw [if_neg h, if_neg (by omega), if_neg (by omega), if_pos k, hm]; simp only; rw [if_neg hx]
theorem rt_other {r : Rt} {e : Ev} (h : ¬ (e.addr < 0 ∨ 30000 ≤ e.addr)) (k1 : ¬ e.kind = 1) (k2 : ¬ e.kind = 2) (k3 : ¬ e.kind = 3) : r.step e = none := by
  unfold Rt.step; rw [if_neg h, if_neg k1, if_neg k2, if_neg k3]
theorem right_no {evs : List Ev} {w w' : World} (h : rightOf evs = false) (hk : Keeps w w') : Ending.returned (.bool false) = .returned (.bool (rightOf evs)) ∧ Keeps w w' := ⟨by rw [h], hk⟩
theorem info4 : (Tryz.prog.info? 4).map (fun i => (i.zero, i.size, i.bytes)) = some (some (.bool false), 1, 1) := by kernel_rfl
set_option maxHeartbeats 4000000 in
set_option maxRecDepth 100000 in
theorem right_of (w : World) (a : Option Addr) (n c : Nat) (evs : List Ev) (hev : EvsAt w a evs) (hn : n = evs.length) (hlen : n ≤ 60000) :
    Calls Tryz.prog 24 #[.slice a n c] w fun x w' => x = .returned (.bool (rightOf evs)) ∧ Keeps w w' := by
  have HE := Lib.hid hev
  have HN := Lib.hid hn
  have hz0 : ∀ (k m : Int) (s : ByteArray) (a : Option Addr) (n c : Nat) (w : World), Calls Tryz.prog 57 #[.agg #[.int .i64 k, .int .i64 m, .string s, .slice a n c]] w fun e w' => e = .returned (.bool (nothing k m s n)) ∧ Keeps w w' :=
    fun k m s a n c w => (zero_of k m s a n c w).mono (fun e w' h => ⟨h.1, by obtain ⟨o, h2⟩ := h.2; rw [h2]; exact Keeps.alloc _ _⟩)
  have Hf := Lib.hid hz0
  obtain ⟨big, hbig⟩ : ∃ big, big = madeCells #[.bool false] 30000 := ⟨_, rfl⟩
  have hmk : ∀ w : World, (Instr.makeSlice 49 (.int .i64 30000) (.int .i64 30000)).run Tryz.prog w = .ok (.slice (some ⟨w.heap.size, 0, none⟩) 30000 30000) (w.alloc (.cells big 4)) := by
    intro w
    rw [hbig]
    exact run_make_row' 49 4 (.bool false) 1 (by kernel_rfl) info4 rfl .i64 .i64 30000 (by decide) (by decide) w
  have Hbig := Lib.hid hbig
  obtain ⟨i3, hi3, hz3, hs3, hb3⟩ := info_parts info3
  clear hev hn hbig hz0
  have k0 : ¬ (60000 : Int) < n := by omega
  go_enter Tryz.func24, Tryz.ntmps24
  go_wp2
  clear hmk k0
  go_loopw [4, 5, 6] (fun ov nv q wr => ∃ (i : Nat) (r : Rt), i ≤ n ∧ q = .int .i64 i ∧ nv = .int .i64 r.n ∧ Rt.start.run (evs.take i) = some r ∧ r.opn.length ≤ i ∧ r.n ≤ i ∧ RtMem w wr w.heap.size ov r) (fun _ _ q _ => n - (intOf q).toNat)
  case atStart =>
    refine ⟨0, Rt.start, Nat.zero_le _, rfl, rfl, rfl, Nat.le_refl _, Nat.le_refl _, Keeps.alloc _ _, Nat.le_refl _, ⟨_, heap_alloc_at _ _, by rw [Hbig.out]; exact size_madeCells _ _, fun a ha => ?_⟩, World.ownsRow_nil _ _ _ _⟩
    rw [Hbig.out]
    simp [madeCells, Rt.start, ha, Nat.mod_one]
  case round =>
    obtain ⟨i, r, hi, rfl, rfl, hrun, hro, hrn, hmem⟩ := hrel
    have HM := Lib.hid hmem
    have HR := Lib.hid hrun
    clear hmem hrun
    by_cases hin : i < n
    · obtain ⟨e, he⟩ : ∃ e, evs[i]? = some e := ⟨evs[i]'(by rw [← HN.out]; omega), List.getElem?_eq_getElem _⟩
      obtain ⟨eb, eo, rfl, hlt, c0, c1, c2, c3, c4, c5, c6, c7⟩ := (HE.out.keeps HM.out.kept).cells he
      have HI := Lib.hid he
      clear he
      have k1 : (i : Int) < n := by omega
      have k2 : (0 : Int) ≤ i := by omega
      by_cases ha : e.addr < 0 ∨ 30000 ≤ e.addr
      · have hs := right_stop HR.out HI.out (rt_out ha)
        have HS := Lib.hid hs
        clear hs
        rcases ha with ha | ha
        · go_wp2
          go_ret
          exact right_no HS.out (Keeps.trans HM.out.kept (Keeps.alloc _ _))
        · have h0 : ¬ e.addr < 0 := by omega
          go_wp2
          go_ret
          exact right_no HS.out (Keeps.trans HM.out.kept (Keeps.alloc _ _))
      · have h0 : ¬ e.addr < 0 := by omega
        have h1 : ¬ 30000 ≤ e.addr := by omega
        have HA := Lib.hid ha
        clear ha
        have m0 := HM.out.cell (a := e.addr) (by omega) (by omega)
        have m1 := HM.out.free e.addr.toNat
        have m2 : w.heap.size < wr.heap.size := by obtain ⟨cur, h, _⟩ := HM.out.made; exact heap_lt h
        by_cases q1 : e.kind = 1
        · rw [q1] at c0
          cases hc : r.made.contains e.addr with
          | true =>
            rw [hc] at m0
            have HS := Lib.hid (right_stop HR.out HI.out (rt_made HA.out q1 (.inl hc)))
            go_wp2
            go_ret
            exact right_no HS.out (Keeps.trans HM.out.kept (Keeps.alloc _ _))
          | false =>
            rw [hc] at m0
            cases hz : e.zero with
            | false =>
              have HS := Lib.hid (right_stop HR.out HI.out (rt_made HA.out q1 (.inr hz)))
              unfold Ev.zero at hz
              go_wp2_with (go_at_call 57; refine (Hf.out _ _ _ _ _ _ _).mono ?_; rintro _ w3 ⟨rfl, hK3⟩; have HK3 := Lib.hid hK3; clear hK3)
              go_ret
              exact right_no HS.out (Keeps.trans (Keeps.trans HM.out.kept (Keeps.alloc _ _)) HK3.out)
            | true =>
              have HS := Lib.hid ((Rt.run_take _ _ _ _ _ HR.out HI.out).trans (rt_make HA.out q1 hc hz))
              unfold Ev.zero at hz
              go_wp2_with (first
                | (go_at_call 57; refine (Hf.out _ _ _ _ _ _ _).mono ?_; rintro _ w3 ⟨rfl, hK3⟩; have hM3 := HM.out.keeps (Keeps.trans (Keeps.alloc _ _) hK3); have d2 := cell_of_block (hK3.at (heap_alloc_at _ _) (fun x => x)) 2; simp at d2; have d3 := hM3.free e.addr.toNat; have d4 := hM3.cell (a := e.addr) (by omega) (by omega); have HMk := Lib.hid (hM3.mark (a := e.addr) (by omega) (by omega)); clear hM3 hK3)
                | (at_builtin; (refine wpList_append_own_at _ rfl (.tmp 49) (.tmp 52) 35 rfl w.heap.size 3 i3 (.int .i64 0) 1 8 under35 hi3 hz3 hs3 hb3 rfl (by decide) u4 r.opn.length (ints r.opn.reverse) rfl (HMk.out.opn.alloc _) ⟨_, 0, none⟩ 1 1 [.int .i64 e.addr] rfl rfl (by intro j u hj; have h9 := cell_one_new (w3.setCell ⟨w.heap.size, e.addr.toNat, none⟩ (.bool true)) (.int .i64 e.addr) 3 j u hj; simpa [World.setCell] using h9) (by simp [Value.oneCell']) (by unfold maxLen; omega) (by omega) (by have h9 := HMk.out.kept.size; rw [World.size_alloc]; exact Nat.le_succ_of_le h9) ?_; intro v5 w5 hown5 hgrow5 hnil5 hat5; have hM5 := HMk.out.push (((Kept.refl _ _).alloc _).grown hgrow5 (fun b hb _ => hb)) hown5 (r.n + 1); have HM5 := Lib.hid hM5; clear hM5 hown5 hgrow5 hnil5 hat5)))
              go_roundw
              case rel => exact ⟨i + 1, _, by omega, by go_num, by go_num, HS.out, by simp; omega, by simp; omega, HM5.out⟩
              case measure => simp [intOf]; omega
        · by_cases q2 : e.kind = 2
          · rw [q2] at c0
            cases ho : r.opn with
            | nil =>
              obtain ⟨p, cp, hov⟩ := HM.out.empty ho
              subst hov
              have HS := Lib.hid (right_stop HR.out HI.out (rt_noread HA.out q2 (.inl ho)))
              go_wp2
              go_ret
              exact right_no HS.out (Keeps.trans HM.out.kept (Keeps.alloc _ _))
            | cons a l =>
              obtain ⟨g, cap, hov, _, _, _, _⟩ := HM.out.pop ho
              subst hov
              by_cases hn0 : e.argn = 0
              · rw [hn0] at c3
                have HS := Lib.hid ((Rt.run_take _ _ _ _ _ HR.out HI.out).trans (rt_read HA.out q2 (by rw [ho]; simp) hn0))
                go_wp2
                go_roundw
                case rel => exact ⟨i + 1, _, by omega, by go_num, by go_num, HS.out, by simp; omega, by simp; omega, (HM.out.keeps (Keeps.alloc _ _)).count _⟩
                case measure => simp [intOf]; omega
              · have hn1 : (0 : Int) < e.argn := by omega
                have HS := Lib.hid (right_stop HR.out HI.out (rt_noread HA.out q2 (.inr (by omega))))
                go_wp2
                go_ret
                exact right_no HS.out (Keeps.trans HM.out.kept (Keeps.alloc _ _))
          · by_cases q3 : e.kind = 3
            · rw [q3] at c0
              cases ho : r.opn with
              | nil =>
                obtain ⟨p, cp, hov⟩ := HM.out.empty ho
                subst hov
                have HS := Lib.hid (right_stop HR.out HI.out (rt_empty HA.out q3 ho))
                go_wp2_with fail
                go_quiet (fail)
                go_wp2
                go_ret
                exact right_no HS.out (Keeps.trans HM.out.kept (Kept.drewN (Keeps.alloc _ _) _))
              | cons a l =>
                obtain ⟨g, cap, hov, hlc, hcm, hcell, hpop⟩ := HM.out.pop ho
                subst hov
                have hlm := heap_lt (show wr.heap[g]? = some _ from (row_block HM.out.opn rfl).choose_spec)
                have HPop := Lib.hid hpop
                have hln : (l.length : Int) < cap := by omega
                have hl0 : (0 : Int) ≤ l.length := by omega
                have hwl : IntKind.i64.wrap (l.length : Int) = l.length := by rw [IntKind.wrap_i64]; rw [ho] at hro; simp at hro; omega
                have hl1 : (l.length : Int) < l.length + 1 := by omega
                have hlz : ¬ ((l.length : Int) + 1 = 0) := by omega
                have hcm2 : cap ≤ 9223372036854775807 := hcm
                clear hpop hcm
                by_cases ha : a = e.addr
                · subst ha
                  by_cases hs0 : e.site = 0
                  · rw [hs0] at c1
                    by_cases hn0 : e.argn = 0
                    · rw [hn0] at c3
                      have HS := Lib.hid ((Rt.run_take _ _ _ _ _ HR.out HI.out).trans (rt_write HA.out q3 ho (by simp [hs0, hn0])))
                      go_wp2_with fail
                      go_quiet (fail)
                      go_wp2
                      go_roundw
                      case rel => exact ⟨i + 1, { r with opn := l }, by omega, by go_num, rfl, HS.out, by rw [ho] at hro; simp at hro; show l.length ≤ i + 1; omega, by show r.n ≤ i + 1; omega, HPop.out.keeps (Kept.drewN (Keeps.alloc _ _) _)⟩
                      case measure => simp [intOf]; omega
                    · have hn1 : (0 : Int) < e.argn := by omega
                      have HS := Lib.hid (right_stop HR.out HI.out (rt_nowrite HA.out q3 ho (.inr (.inr (by omega)))))
                      go_wp2_with fail
                      go_quiet (fail)
                      go_wp2
                      go_ret
                      exact right_no HS.out (Keeps.trans HM.out.kept (Kept.drewN (Keeps.alloc _ _) _))
                  · have HS := Lib.hid (right_stop HR.out HI.out (rt_nowrite HA.out q3 ho (.inr (.inl hs0))))
                    go_wp2_with fail
                    go_quiet (fail)
                    go_wp2
                    go_ret
                    exact right_no HS.out (Keeps.trans HM.out.kept (Kept.drewN (Keeps.alloc _ _) _))
                · have HS := Lib.hid (right_stop HR.out HI.out (rt_nowrite HA.out q3 ho (.inl ha)))
                  go_wp2_with fail
                  go_quiet (fail)
                  go_wp2
                  go_ret
                  exact right_no HS.out (Keeps.trans HM.out.kept (Kept.drewN (Keeps.alloc _ _) _))
            · have HS := Lib.hid (right_stop HR.out HI.out (rt_other HA.out q1 q2 q3))
              go_wp2
              go_ret
              exact right_no HS.out (Keeps.trans HM.out.kept (Keeps.alloc _ _))
    · obtain rfl : i = n := by omega
      have hrun := HR.out
      rw [HN.out, List.take_length] at hrun
      have hro2 : rightOf evs = decide (r.opn = [] ∧ r.n ≤ 30000) := by unfold rightOf; rw [hrun]
      have HRo := Lib.hid hro2
      clear hrun hro2
      cases ho : r.opn with
      | nil =>
        obtain ⟨p, cp, hov⟩ := HM.out.empty ho
        subst hov
        by_cases hnn : r.n ≤ 30000
        · have k1 : (r.n : Int) ≤ 30000 := by omega
          go_wp2
          go_ret
          exact ⟨by rw [HRo.out]; simp [ho, hnn], HM.out.kept⟩
        · have k1 : ¬ (r.n : Int) ≤ 30000 := by omega
          go_wp2
          go_ret
          exact ⟨by rw [HRo.out]; simp [ho, hnn], HM.out.kept⟩
      | cons a l =>
        obtain ⟨g, cap, hov, h7, h8, h9, h10⟩ := HM.out.pop ho
        subst hov
        clear h7 h8 h9 h10
        go_wp2
        go_ret
        exact ⟨by rw [HRo.out]; simp [ho], HM.out.kept⟩
end Go.Proofs.YtbhiaeciiphelaaGreatDoor
namespace Go.Proofs.YtbhiaeciiphelaaGreatDoor
open Go.RowKit
structure EvIn (w : World) (a : Option Addr) (n : Nat) (evs : List Ev) : Prop where
  ev : EvsAt w a evs
  len : n = evs.length
  few : n ≤ 60000
theorem EvIn.keeps {w w' : World} {a : Option Addr} {n : Nat} {evs : List Ev} (h : EvIn w a n evs) (hk : Keeps w w') : EvIn w' a n evs := ⟨h.ev.keeps hk, h.len, h.few⟩
section
variable {w : World} {a : Option Addr} {n c : Nat} {evs : List Ev}
theorem right_is (h : EvIn w a n evs) : Calls Tryz.prog 24 #[.slice a n c] w fun x w' => x = .returned (.bool (readOf evs).isSome) ∧ Keeps w w' :=
  (right_of w a n c evs h.ev h.len h.few).mono (fun x w' hp => by rw [← right_read]; exact hp)
end
end Go.Proofs.YtbhiaeciiphelaaGreatDoor
namespace Go.Proofs.YtbhiaeciiphelaaGreatDoor
open Go.RowKit
section
variable {evs : List Ev} {s : St}
end
def Spn.e (x : Spn) : Int := if x.is then 0 else 3
def SpnAt (W : World) (B : Nat) (x : Spn) : Prop := W.heap[B]? = some (.cells #[.int .i64 x.frm, .int .i64 x.to, .int .i64 x.e] 31 (0, 0))
theorem SpnAt.made {W : World} {B : Nat} {x : Spn} (h : SpnAt W B x) (i : Nat) : SpnAt ((W.setCell ⟨B, 0, none⟩ (.int .i64 i)).setCell ⟨B, 2, none⟩ (.int .i64 0)) B ⟨i, x.to, true⟩ := by
  unfold SpnAt at h ⊢
  rw [heap_set_same (heap_set_same h _)]; rfl
theorem SpnAt.wrote {W : World} {B : Nat} {x : Spn} (h : SpnAt W B x) (i : Nat) : SpnAt (W.setCell ⟨B, 1, none⟩ (.int .i64 i)) B ⟨x.frm, i, x.is⟩ := by
  unfold SpnAt at h ⊢
  rw [heap_set_same h]; rfl
end Go.Proofs.YtbhiaeciiphelaaGreatDoor
namespace Go.Proofs.YtbhiaeciiphelaaGreatDoor
open Go.RowKit Go.Shelf
def Obj.firm : Obj → Bool
  | .cells _ _ _ => false
  | _ => true
structure KeepNC (X : Nat → Prop) (W W' : World) : Prop where
  size : W.heap.size ≤ W'.heap.size
  same : ∀ b o, ¬ X b → W.heap[b]? = some o → Obj.firm o = true → W'.heap[b]? = some o
theorem KeepNC.refl (X : Nat → Prop) (W : World) : KeepNC X W W := ⟨Nat.le_refl _, fun _ _ _ h _ => h⟩
theorem KeepNC.trans {X : Nat → Prop} {A B C : World} (h : KeepNC X A B) (k : KeepNC X B C) : KeepNC X A C :=
  ⟨Nat.le_trans h.size k.size, fun b o hx hb ho => k.same b o hx (h.same b o hx hb ho) ho⟩
theorem KeepNC.mono {X Y : Nat → Prop} {A B : World} (h : KeepNC X A B) (hXY : ∀ b, X b → Y b) : KeepNC Y A B := ⟨h.size, fun b o hy => h.same b o (fun hx => hy (hXY b hx))⟩
theorem KeepNC.drewN {X : Nat → Prop} {A B : World} (h : KeepNC X A B) (n : Nat) : KeepNC X A (B.drewN n) := ⟨h.size, h.same⟩
theorem KeepNC.drew {X : Nat → Prop} {A B : World} (h : KeepNC X A B) : KeepNC X A B.drew := ⟨h.size, h.same⟩
theorem KeepNC.alloc {X : Nat → Prop} {A B : World} (h : KeepNC X A B) (o : Obj) : KeepNC X A (B.alloc o) :=
  ⟨Nat.le_trans h.size (by simp), fun b o' hx hb ho => by have := h.same b o' hx hb ho; rw [Below.heap_alloc _ _ _ (lt_of_block this)]; exact this⟩
theorem KeepNC.setCell {X : Nat → Prop} {A B : World} (h : KeepNC X A B) (p : Addr) (v : Value) (hp : ∀ o, B.heap[p.block]? = some o → Obj.firm o = false) : KeepNC X A (B.setCell p v) := by
  refine ⟨Nat.le_trans h.size (by simp [World.setCell]), fun b o hx hb ho => ?_⟩
  have h1 := h.same b o hx hb ho
  rw [Below.heap_setCell _ _ _ _ (fun e => by subst e; have := hp _ h1; rw [ho] at this; cases this)]; exact h1
theorem KeepNC.grown {X : Nat → Prop} {A B C : World} (h : KeepNC X A B) {row : Option Nat} (hg : B.grownBy C row) (hr : ∀ k, row = some k → ∀ o, B.heap[k]? = some o → Obj.firm o = false) : KeepNC X A C := by
  refine ⟨Nat.le_trans h.size hg.size, fun b o hx hb ho => ?_⟩
  have h1 := h.same b o hx hb ho
  rw [hg.block b (lt_of_block h1) (fun e => by have := hr b e.symm _ h1; rw [ho] at this; cases this)]
  exact h1
theorem KeepNC.kept {X S : Nat → Prop} {A B C : World} (h : KeepNC X A B) (hk : Kept S B C) (hS : ∀ b, S b → ∀ o, B.heap[b]? = some o → Obj.firm o = false) : KeepNC X A C := by
  refine ⟨Nat.le_trans h.size hk.size, fun b o hx hb ho => ?_⟩
  have h1 := h.same b o hx hb ho
  rw [hk.block b (lt_of_block h1) (fun e => by have := hS b e _ h1; rw [ho] at this; cases this)]
  exact h1
end Go.Proofs.YtbhiaeciiphelaaGreatDoor
