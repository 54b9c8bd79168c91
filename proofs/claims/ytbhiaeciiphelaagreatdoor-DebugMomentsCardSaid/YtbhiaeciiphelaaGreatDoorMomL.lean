/-
  DERIVED. The law DebugMoments over every world in which the listed variable lies; its arguments, opened. Condition: the events lie in a row, and a moment is given.
-/
import Derived.Test.YtbhiaeciiphelaaGreatDoorMomG
import Derived.Test.YtbhiaeciiphelaaGreatDoorSane
import Derived.Test.YtbhiaeciiphelaaGreatDoorLaid
import Derived.Lib.SmallJoins
import Derived.Deep.Slices
namespace Go.Proofs.YtbhiaeciiphelaaGreatDoor
open Go.RowKit
theorem sane_of {w : World} {b : Nat} {o : Nat} (h : w.heap[1]? = some (.cells #[.iface 343 (.pointer (some ⟨b, o, none⟩))] 307 (0, 0))) :
    Calls Tryz.prog 9 #[] w fun e w' => e = .returned (.bool true) ∧ Keeps w w' :=
  (Ex.sane_calls h).mono (fun _ _ h => ⟨h.1, h.2.1, h.2.2.1, h.2.2.2.1, h.2.2.2.2.1, fun k hk _ => h.2.2.2.2.2 k hk⟩)
theorem same_is {m : Mom} (hl : m.le 60000) (W : World) (p q r p' q' r' : Value) (h : MomAt W (.agg #[p, q, r]) m) (h' : MomAt W (.agg #[p', q', r']) m) :
    Calls Tryz.prog 34 #[.agg #[p, q, r], .agg #[p', q', r']] W fun e w' => e = .returned (.bool true) ∧ Keeps W w' := by
  have h9 := sameMoment_of W _ _ _ _ h h' (Nat.le_trans hl.opn (by decide)) (Nat.le_trans hl.written (by decide)) (Nat.le_trans hl.reads (by decide)) (fun x hx => Nat.le_trans (hl.each x hx) (by decide))
  rw [decide_eq_true rfl] at h9
  exact h9
set_option maxHeartbeats 8000000 in
set_option maxRecDepth 100000 in
theorem moments_of {w : World} {b o : Nat} (hg : w.heap[1]? = some (.cells #[.iface 343 (.pointer (some ⟨b, o, none⟩))] 307 (0, 0))) (a : Option Addr) (n c : Nat) (evs : List Ev) (hev : EvsAt w a evs) (hn : n = evs.length) (hnc : n ≤ c) (hcm : c ≤ 9223372036854775807) (x : Int) (v : Value) (m : Mom) (hm : MomAt w v m) :
    Calls Tryz.prog 6 #[.slice a n c, .int .i64 x, v] w fun e w' => e = .returned (.bool true) ∧ Keeps w w' := by
  have hm0 := hm
  obtain ⟨_, _, _, rfl, _⟩ := hm0
  obtain ⟨⟨p1, n1, d1, rfl⟩, ⟨p2, n2, d2, rfl⟩, ⟨p3, n3, d3, rfl⟩⟩ := mom_slices hm
  have HS := Lib.hid (sane_of (heap_alloc_old (.cells #[.slice p1 n1 d1, .slice p2 n2 d2, .slice p3 n3 d3] 61) hg))
  have X5_0 := Lib.hid (heap_alloc_at w (.cells #[.slice p1 n1 d1, .slice p2 n2 d2, .slice p3 n3 d3] 61))
  have HKa := Lib.hid (Keeps.alloc w (.cells #[.slice p1 n1 d1, .slice p2 n2 d2, .slice p3 n3 d3] 61))
  have HM := Lib.hid hm
  clear hg hm
  by_cases hfew : n ≤ 600
  · have hI : EvIn w a n evs := ⟨hev, hn, by omega⟩
    have hl : evs.length ≤ 60000 := by omega
    have HI := Lib.hid hI
    have HL1 := Lib.hid (atP_le x hl)
    have HL2 := Lib.hid (backP_le x m hl)
    have HL3 := Lib.hid (backP_le x (atP evs x).1 hl)
    have H30 := Lib.hid (fun (W : World) (hK : Keeps w W) => at_of W a n c evs (hI.keeps hK) hnc hcm x)
    have H31 := Lib.hid (fun (W : World) (hK : Keeps w W) => refAt_of W a n c evs (hI.keeps hK) x)
    have H32 := Lib.hid (fun (W : World) (hK : Keeps w W) => back_of W a n c evs (hI.keeps hK) hnc hcm x _ m (HM.out.keeps hK))
    have H33 := Lib.hid (fun (W : World) (hK : Keeps w W) => refBack_of W a n c evs (hI.keeps hK) x _ m (HM.out.keeps hK))
    have H34 := Lib.hid (fun (W : World) (hK : Keeps w W) (v : Value) (hv : MomAt W v (atP evs x).1) => back_of W a n c evs (hI.keeps hK) hnc hcm x v _ hv)
    have H35 := Lib.hid (fun (W : World) (hK : Keeps w W) (v : Value) (hv : MomAt W v (atP evs x).1) => refBack_of W a n c evs (hI.keeps hK) x v _ hv)
    generalize backP evs x (atP evs x).1 = rC at H34 H35 HL3
    generalize backP evs x m = rB at H32 H33 HL2
    generalize atP evs x = rA at H30 H31 H34 H35 HL1
    obtain ⟨mA, eA⟩ := rA
    obtain ⟨mB, eB⟩ := rB
    obtain ⟨mC, eC⟩ := rC
    clear hev hn hI hl
    have k0 : (n : Int) ≤ 600 := by omega
    go_enter Tryz.func6, Tryz.ntmps6
    go_wp2_with fail
    refine HS.out.mono ?_
    rintro _ w1 ⟨rfl, hk⟩
    have X5_1 := Lib.hid (hk.at X5_0.out (fun x => x))
    have HK1 := Lib.hid (Keeps.trans HKa.out hk)
    clear hk
    go_wp2_with fail
    refine (few_of _ _ _ _).mono ?_
    rintro _ w1' ⟨rfl, rfl⟩
    have hd : decide (n ≤ 600) = true := by simp [hfew]
    rw [hd]
    go_wp2_with fail
    refine (H30.out _ HK1.out).mono ?_
    rintro _ w2 ⟨q2, r2, s2, rfl, hmo, hk⟩
    obtain ⟨⟨ga2, na2, ca2, rfl⟩, ⟨gb2, nb2, cb2, rfl⟩, ⟨gc2, nc2, cc2, rfl⟩⟩ := mom_slices hmo
    have MO2_2 := Lib.hid hmo
    have X5_2 := Lib.hid (hk.at X5_1.out (fun x => x))
    have HK2 := Lib.hid (Keeps.trans HK1.out hk)
    clear hmo hk
    go_wp2_with fail
    refine (H31.out _ (Keeps.trans HK2.out (Keeps.alloc _ _))).mono ?_
    rintro _ w3 ⟨q3, r3, s3, rfl, hmo, hk⟩
    have hmo := hmo _ (Kept.refl _ _)
    obtain ⟨⟨ga3, na3, ca3, rfl⟩, ⟨gb3, nb3, cb3, rfl⟩, ⟨gc3, nc3, cc3, rfl⟩⟩ := mom_slices hmo
    have MO3_3 := Lib.hid hmo
    have MO2_3 := Lib.hid (MO2_2.out.keeps (Keeps.trans (Keeps.alloc _ _) hk))
    have X5_3 := Lib.hid (hk.at (heap_alloc_old _ X5_2.out) (fun x => x))
    have HK3 := Lib.hid (Keeps.trans (Keeps.trans HK2.out (Keeps.alloc _ _)) hk)
    have X8_3 := Lib.hid (hk.at (heap_alloc_at w2 (.cells #[.slice ga2 na2 ca2, .slice gb2 nb2 cb2, .slice gc2 nc2 cc2] 61)) (fun x => x))
    clear hmo hk
    have e0 := cell_of_block X5_3.out 0
    have e1 := cell_of_block X5_3.out 1
    have e2 := cell_of_block X5_3.out 2
    simp at e0 e1 e2
    have l5 := heap_lt X5_3.out
    go_wp2_with fail
    refine (H32.out _ (Keeps.trans HK3.out (Keeps.alloc _ _))).mono ?_
    rintro _ w4 ⟨q4, r4, s4, rfl, hmo, hk⟩
    obtain ⟨⟨ga4, na4, ca4, rfl⟩, ⟨gb4, nb4, cb4, rfl⟩, ⟨gc4, nc4, cc4, rfl⟩⟩ := mom_slices hmo
    have MO4_4 := Lib.hid hmo
    have MO2_4 := Lib.hid (MO2_3.out.keeps (Keeps.trans (Keeps.alloc _ _) hk))
    have MO3_4 := Lib.hid (MO3_3.out.keeps (Keeps.trans (Keeps.alloc _ _) hk))
    have X5_4 := Lib.hid (hk.at (heap_alloc_old _ X5_3.out) (fun x => x))
    have X8_4 := Lib.hid (hk.at (heap_alloc_old _ X8_3.out) (fun x => x))
    have HK4 := Lib.hid (Keeps.trans (Keeps.trans HK3.out (Keeps.alloc _ _)) hk)
    have X10_4 := Lib.hid (hk.at (heap_alloc_at w3 (.cells #[.slice ga3 na3 ca3, .slice gb3 nb3 cb3, .slice gc3 nc3 cc3, .int .i64 eA] 65)) (fun x => x))
    clear hmo hk e0 e1 e2 l5
    have e0 := cell_of_block X5_4.out 0
    have e1 := cell_of_block X5_4.out 1
    have e2 := cell_of_block X5_4.out 2
    simp at e0 e1 e2
    have l5 := heap_lt X5_4.out
    go_wp2_with fail
    refine (H33.out _ (Keeps.trans HK4.out (Keeps.alloc _ _))).mono ?_
    rintro _ w5 ⟨q5, r5, s5, rfl, hmo, hk⟩
    have hmo := hmo _ (Kept.refl _ _)
    obtain ⟨⟨ga5, na5, ca5, rfl⟩, ⟨gb5, nb5, cb5, rfl⟩, ⟨gc5, nc5, cc5, rfl⟩⟩ := mom_slices hmo
    have MO5_5 := Lib.hid hmo
    have MO2_5 := Lib.hid (MO2_4.out.keeps (Keeps.trans (Keeps.alloc _ _) hk))
    have MO3_5 := Lib.hid (MO3_4.out.keeps (Keeps.trans (Keeps.alloc _ _) hk))
    have MO4_5 := Lib.hid (MO4_4.out.keeps (Keeps.trans (Keeps.alloc _ _) hk))
    have X5_5 := Lib.hid (hk.at (heap_alloc_old _ X5_4.out) (fun x => x))
    have X8_5 := Lib.hid (hk.at (heap_alloc_old _ X8_4.out) (fun x => x))
    have X10_5 := Lib.hid (hk.at (heap_alloc_old _ X10_4.out) (fun x => x))
    have HK5 := Lib.hid (Keeps.trans (Keeps.trans HK4.out (Keeps.alloc _ _)) hk)
    have X11_5 := Lib.hid (hk.at (heap_alloc_at w4 (.cells #[.slice ga4 na4 ca4, .slice gb4 nb4 cb4, .slice gc4 nc4 cc4] 61)) (fun x => x))
    clear hmo hk e0 e1 e2 l5
    have e0 := cell_of_block X10_5.out 0
    have e1 := cell_of_block X10_5.out 1
    have e2 := cell_of_block X10_5.out 2
    simp at e0 e1 e2
    have l5 := heap_lt X10_5.out
    go_wp2_with fail
    refine (H34.out _ (Keeps.trans HK5.out (Keeps.alloc _ _)) _ (MO3_5.out.keeps (Keeps.alloc _ _))).mono ?_
    rintro _ w6 ⟨q6, r6, s6, rfl, hmo, hk⟩
    obtain ⟨⟨ga6, na6, ca6, rfl⟩, ⟨gb6, nb6, cb6, rfl⟩, ⟨gc6, nc6, cc6, rfl⟩⟩ := mom_slices hmo
    have MO6_6 := Lib.hid hmo
    have MO2_6 := Lib.hid (MO2_5.out.keeps (Keeps.trans (Keeps.alloc _ _) hk))
    have MO3_6 := Lib.hid (MO3_5.out.keeps (Keeps.trans (Keeps.alloc _ _) hk))
    have MO4_6 := Lib.hid (MO4_5.out.keeps (Keeps.trans (Keeps.alloc _ _) hk))
    have MO5_6 := Lib.hid (MO5_5.out.keeps (Keeps.trans (Keeps.alloc _ _) hk))
    have X5_6 := Lib.hid (hk.at (heap_alloc_old _ X5_5.out) (fun x => x))
    have X8_6 := Lib.hid (hk.at (heap_alloc_old _ X8_5.out) (fun x => x))
    have X10_6 := Lib.hid (hk.at (heap_alloc_old _ X10_5.out) (fun x => x))
    have X11_6 := Lib.hid (hk.at (heap_alloc_old _ X11_5.out) (fun x => x))
    have HK6 := Lib.hid (Keeps.trans (Keeps.trans HK5.out (Keeps.alloc _ _)) hk)
    have X13_6 := Lib.hid (hk.at (heap_alloc_at w5 (.cells #[.slice ga5 na5 ca5, .slice gb5 nb5 cb5, .slice gc5 nc5 cc5, .int .i64 eB] 65)) (fun x => x))
    clear hmo hk e0 e1 e2 l5
    have e0 := cell_of_block X10_6.out 0
    have e1 := cell_of_block X10_6.out 1
    have e2 := cell_of_block X10_6.out 2
    simp at e0 e1 e2
    have l5 := heap_lt X10_6.out
    go_wp2_with fail
    refine (H35.out _ (Keeps.trans HK6.out (Keeps.alloc _ _)) _ (MO3_6.out.keeps (Keeps.alloc _ _))).mono ?_
    rintro _ w7 ⟨q7, r7, s7, rfl, hmo, hk⟩
    have hmo := hmo _ (Kept.refl _ _)
    obtain ⟨⟨ga7, na7, ca7, rfl⟩, ⟨gb7, nb7, cb7, rfl⟩, ⟨gc7, nc7, cc7, rfl⟩⟩ := mom_slices hmo
    have MO7_7 := Lib.hid hmo
    have MO2_7 := Lib.hid (MO2_6.out.keeps (Keeps.trans (Keeps.alloc _ _) hk))
    have MO3_7 := Lib.hid (MO3_6.out.keeps (Keeps.trans (Keeps.alloc _ _) hk))
    have MO4_7 := Lib.hid (MO4_6.out.keeps (Keeps.trans (Keeps.alloc _ _) hk))
    have MO5_7 := Lib.hid (MO5_6.out.keeps (Keeps.trans (Keeps.alloc _ _) hk))
    have MO6_7 := Lib.hid (MO6_6.out.keeps (Keeps.trans (Keeps.alloc _ _) hk))
    have X5_7 := Lib.hid (hk.at (heap_alloc_old _ X5_6.out) (fun x => x))
    have X8_7 := Lib.hid (hk.at (heap_alloc_old _ X8_6.out) (fun x => x))
    have X10_7 := Lib.hid (hk.at (heap_alloc_old _ X10_6.out) (fun x => x))
    have X11_7 := Lib.hid (hk.at (heap_alloc_old _ X11_6.out) (fun x => x))
    have X13_7 := Lib.hid (hk.at (heap_alloc_old _ X13_6.out) (fun x => x))
    have HK7 := Lib.hid (Keeps.trans (Keeps.trans HK6.out (Keeps.alloc _ _)) hk)
    have X14_7 := Lib.hid (hk.at (heap_alloc_at w6 (.cells #[.slice ga6 na6 ca6, .slice gb6 nb6 cb6, .slice gc6 nc6 cc6] 61)) (fun x => x))
    clear hmo hk e0 e1 e2 l5
    have e0 := cell_of_block X10_7.out 0
    have e1 := cell_of_block X10_7.out 1
    have e2 := cell_of_block X10_7.out 2
    have e3 := cell_of_block X10_7.out 3
    simp at e0 e1 e2 e3
    have l10 := heap_lt X10_7.out
    have g0 := cell_of_block X8_7.out 0
    have g1 := cell_of_block X8_7.out 1
    have g2 := cell_of_block X8_7.out 2
    simp at g0 g1 g2
    have l8 := heap_lt X8_7.out
    go_wp2_with fail
    refine (same_is HL1.out _ _ _ _ _ _ _ (MO2_7.out.keeps (Keeps.alloc _ _)) (MO3_7.out.keeps (Keeps.alloc _ _))).mono ?_
    rintro _ w8 ⟨rfl, hk⟩
    have HK8 := Lib.hid (Keeps.trans (Keeps.trans HK7.out (Keeps.alloc _ _)) hk)
    have MO4_8 := Lib.hid (MO4_7.out.keeps (Keeps.trans (Keeps.alloc _ _) hk))
    have MO5_8 := Lib.hid (MO5_7.out.keeps (Keeps.trans (Keeps.alloc _ _) hk))
    have MO6_8 := Lib.hid (MO6_7.out.keeps (Keeps.trans (Keeps.alloc _ _) hk))
    have MO7_8 := Lib.hid (MO7_7.out.keeps (Keeps.trans (Keeps.alloc _ _) hk))
    have X11_8 := Lib.hid (hk.at (heap_alloc_old _ X11_7.out) (fun x => x))
    have X13_8 := Lib.hid (hk.at (heap_alloc_old _ X13_7.out) (fun x => x))
    have X14_8 := Lib.hid (hk.at (heap_alloc_old _ X14_7.out) (fun x => x))
    have X16_8 := Lib.hid (hk.at (heap_alloc_at w7 (.cells #[.slice ga7 na7 ca7, .slice gb7 nb7 cb7, .slice gc7 nc7 cc7, .int .i64 eC] 65)) (fun x => x))
    clear hk e0 e1 e2 e3 g0 g1 g2 l10 l8
    have e0 := cell_of_block X13_8.out 0
    have e1 := cell_of_block X13_8.out 1
    have e2 := cell_of_block X13_8.out 2
    have e3 := cell_of_block X13_8.out 3
    simp at e0 e1 e2 e3
    have g0 := cell_of_block X11_8.out 0
    have g1 := cell_of_block X11_8.out 1
    have g2 := cell_of_block X11_8.out 2
    simp at g0 g1 g2
    go_wp2_with fail
    refine (same_is HL2.out _ _ _ _ _ _ _ (MO4_8.out.keeps (Keeps.refl _)) (MO5_8.out.keeps (Keeps.refl _))).mono ?_
    rintro _ w9 ⟨rfl, hk⟩
    have HK9 := Lib.hid (Keeps.trans HK8.out hk)
    have MO6_9 := Lib.hid (MO6_8.out.keeps hk)
    have MO7_9 := Lib.hid (MO7_8.out.keeps hk)
    have X14_9 := Lib.hid (hk.at X14_8.out (fun x => x))
    have X16_9 := Lib.hid (hk.at X16_8.out (fun x => x))
    clear hk e0 e1 e2 e3 g0 g1 g2
    have e0 := cell_of_block X16_9.out 0
    have e1 := cell_of_block X16_9.out 1
    have e2 := cell_of_block X16_9.out 2
    have e3 := cell_of_block X16_9.out 3
    simp at e0 e1 e2 e3
    have g0 := cell_of_block X14_9.out 0
    have g1 := cell_of_block X14_9.out 1
    have g2 := cell_of_block X14_9.out 2
    simp at g0 g1 g2
    go_wp2_with fail
    refine (same_is HL3.out _ _ _ _ _ _ _ (MO6_9.out.keeps (Keeps.refl _)) (MO7_9.out.keeps (Keeps.refl _))).mono ?_
    rintro _ w10 ⟨rfl, hk⟩
    have HK10 := Lib.hid (Keeps.trans HK9.out hk)
    clear hk
    go_wp2_with fail
    go_ret
    exact ⟨rfl, HK10.out⟩
  · have k0 : ¬ (n : Int) ≤ 600 := by omega
    clear hev hn
    go_enter Tryz.func6, Tryz.ntmps6
    go_wp2_with fail
    refine HS.out.mono ?_
    rintro _ w1 ⟨rfl, hk⟩
    have HK1 := Lib.hid (Keeps.trans HKa.out hk)
    clear hk
    go_wp2_with fail
    refine (few_of _ _ _ _).mono ?_
    rintro _ w1' ⟨rfl, rfl⟩
    have hd : decide (n ≤ 600) = false := by simp [hfew]
    rw [hd]
    go_wp2
    go_ret
    exact ⟨rfl, HK1.out⟩
end Go.Proofs.YtbhiaeciiphelaaGreatDoor
namespace Go.Proofs.YtbhiaeciiphelaaGreatDoor
open Go.ChangeShapes Go.WideShapes Go.ChangeAt Go.RowKit Go.Deep
theorem trod_struct5 {H : Type} {enc : TypeId × Value → H} {P : Program} {w : World} {base : Nat} {spare : Nat → Bool} {held : Bool} {t : TypeId} {f0 f1 f2 f3 f4 : Field} {fuel : Nat} {cs : List Value} {x : DataW H × List MemPlace} (ht : P.underlying t = some (.struct #[f0, f1, f2, f3, f4])) (h : DataW.trod enc P w base spare held fuel t cs = some x) :
    ∃ y0 y1 y2 y3 y4 n, cs.length = P.cellsOf t ∧ DataW.trod enc P w base spare held n f0.type ((cs.drop f0.offset).take (P.cellsOf f0.type)) = some y0 ∧
      DataW.trod enc P w base spare held n f1.type ((cs.drop f1.offset).take (P.cellsOf f1.type)) = some y1 ∧ DataW.trod enc P w base spare held n f2.type ((cs.drop f2.offset).take (P.cellsOf f2.type)) = some y2 ∧
      DataW.trod enc P w base spare held n f3.type ((cs.drop f3.offset).take (P.cellsOf f3.type)) = some y3 ∧ DataW.trod enc P w base spare held n f4.type ((cs.drop f4.offset).take (P.cellsOf f4.type)) = some y4 := by
  obtain ⟨xs, n, _, rfl, hl, hlen, hf⟩ := DataW.trod_struct ht h
  match xs, hlen with
  | [y0, y1, y2, y3, y4], _ => exact ⟨y0, y1, y2, y3, y4, n, hl, by simpa using hf 0 f0 rfl, by simpa using hf 1 f1 rfl, by simpa using hf 2 f2 rfl, by simpa using hf 3 f3 rfl, by simpa using hf 4 f4 rfl⟩
theorem cells98 : Tryz.prog.cellsOf 98 = 8 := by kernel_rfl
theorem cells96 : Tryz.prog.cellsOf 96 = 4 := by kernel_rfl
theorem cells48 : Tryz.prog.cellsOf 48 = 1 := by kernel_rfl
theorem cells3 : Tryz.prog.cellsOf 3 = 1 := by kernel_rfl
theorem cells9 : Tryz.prog.cellsOf 9 = 1 := by kernel_rfl
theorem laidOut : laidOutB Tryz.prog = true := by kernel_rfl
instance : Inhabited Ev := ⟨⟨0, 0, 0, none, 0, 0, 0, 0, ⟨#[]⟩, none, 0, 0⟩⟩
section
variable {H : Type} {enc : TypeId × Value → H} {W : World}
set_option maxRecDepth 100000 in
/-- The cells of an event. -/
theorem event_open {fuel : Nat} {cs : List Value} {x : DataW H × List MemPlace} (h : DataW.trod enc Tryz.prog W 0 (fun _ => true) true fuel 98 cs = some x) : ∃ e : Ev, cs = e.cells := by
  obtain ⟨y0, y1, y2, y3, y4, m, hl, hy0, hy1, hy2, hy3, hy4⟩ := trod_struct5 Tryz.underlying98 h
  rw [cells98] at hl
  simp only [cells3, cells48, cells96] at hy0 hy1 hy2 hy3 hy4
  match cs, hl with
  | [v0, v1, v2, v3, v4, v5, v6, v7], _ =>
    simp only [List.drop_succ_cons, List.drop_zero, List.take_succ_cons, List.take_zero] at hy0 hy1 hy2 hy3 hy4
    obtain ⟨k, e0, _, _⟩ := DataW.trod_int Tryz.underlying3 hy0
    obtain ⟨s, e1, _, _⟩ := DataW.trod_int Tryz.underlying3 hy1
    obtain ⟨ad, e2, _, _⟩ := DataW.trod_int Tryz.underlying3 hy2
    obtain ⟨pa, ln, cp, e3⟩ := Joins.slice_form Tryz.underlying48 hy3
    obtain ⟨z0, z1, z2, z3, m', _, _, hz0, hz1, hz2, hz3⟩ := Joins.trod_struct4 Tryz.underlying96 hy4
    simp only [cells3, cells9, cells48, List.drop_succ_cons, List.drop_zero, List.take_succ_cons, List.take_zero] at hz0 hz1 hz2 hz3
    obtain ⟨vk, e4, _, _⟩ := DataW.trod_int Tryz.underlying3 hz0
    obtain ⟨vn, e5, _, _⟩ := DataW.trod_int Tryz.underlying3 hz1
    obtain ⟨vs, e6, _⟩ := DataW.trod_string Tryz.underlying9 hz2
    obtain ⟨va, vl, vc, e7⟩ := Joins.slice_form Tryz.underlying48 hz3
    injection e0 with e0 _
    injection e1 with e1 _
    injection e2 with e2 _
    injection e3 with e3 _
    injection e4 with e4 _
    injection e5 with e5 _
    injection e6 with e6 _
    injection e7 with e7 _
    exact ⟨⟨k, s, ad, pa, ln, cp, vk, vn, vs, va, vl, vc⟩, by rw [e0, e1, e2, e3, e4, e5, e6, e7]; rfl⟩
set_option maxRecDepth 100000 in
theorem events_open {b0 : Nat} {v : Value} {d : DataW H} {p : List MemPlace} (hv : Value.okWide Tryz.prog W .any b0 22 v) (h : DataW.Trod enc Tryz.prog W 0 (fun _ => true) true 22 v d p) :
    ∃ a n c evs, v = .slice a n c ∧ EvsAt W a evs ∧ n = evs.length ∧ n ≤ c ∧ c ≤ maxLen := by
  obtain ⟨ao, len, cap, rfl⟩ := okWide_slice Tryz.underlying22 hv
  obtain ⟨fuel, hf⟩ := h
  rcases open_slice Tryz.underlying22 hf with ⟨hc, _⟩ | ⟨a, len', cap', m, n, D, Pl, hc, _, hl, hm, hmm, _, hall⟩
  · simp only [Value.cells, List.cons.injEq, and_true] at hc
    injection hc with h1 h2 h3
    exact ⟨none, 0, 0, [], by rw [h1, h2, h3], ⟨fun i e he => by simp at he⟩, rfl, Nat.le_refl _, Nat.zero_le _⟩
  · simp only [Value.cells, List.cons.injEq, and_true] at hc
    injection hc with h1 h2 h3
    subst h1 h2 h3
    have hex : ∀ i, i < len → ∃ e : Ev, ∀ (j : Nat) (v : Value), e.cells[j]? = some v → W.cell? ((a.add (i * 8)).add j) = some v := by
      intro i hi
      obtain ⟨cs, h1, h2⟩ := hall i (by simp only [if_true] at hmm; omega)
      rw [cells98] at h1
      obtain ⟨_, hlen, hcell⟩ := World.cells?_some h1
      obtain ⟨e, he⟩ := event_open h2
      refine ⟨e, fun j v hj => ?_⟩
      rw [← he] at hj
      have hjl := (List.getElem?_eq_some_iff.1 hj).1
      rw [hcell j (by omega)]
      exact hj
    obtain ⟨f, hf⟩ := choose_lt (α := Ev) (p := fun i e => ∀ (j : Nat) (v : Value), e.cells[j]? = some v → W.cell? ((a.add (i * 8)).add j) = some v) hex
    refine ⟨some a, len, cap, (List.range len).map f, rfl, ⟨fun i e he => ?_⟩, by simp, hl, hm⟩
    rw [List.getElem?_map] at he
    cases hr : (List.range len)[i]? with
    | none => rw [hr] at he; cases he
    | some i' =>
      rw [hr] at he
      obtain ⟨hil, hi2⟩ := List.getElem?_eq_some_iff.1 hr
      simp at hil hi2
      subst hi2
      injection he with he
      subst he
      have h00 := hf 0 (by omega) 0 _ rfl
      have e00 : (a.add (0 * 8)).add 0 = a := by simp [Addr.add]
      rw [e00] at h00
      have hsp := World.cell?_spot h00
      have hbl := World.block_lt_of_cell? W _ h00
      obtain ⟨b, o, sp⟩ := a
      simp only at hsp hbl
      subst hsp
      refine ⟨b, o, rfl, hbl, fun j v hj => ?_⟩
      have := hf i hil j v hj
      have key : ((⟨b, o, none⟩ : Addr).add (i * 8)).add j = ⟨b, o + i * 8 + j, none⟩ := by
        unfold Addr.add
        split <;> split <;> simp_all
      rw [key] at this
      exact this
/-- A slice of numbers. -/
theorem ints_open {fuel : Nat} {v : Value} {x : DataW H × List MemPlace} (h : DataW.trod enc Tryz.prog W 0 (fun _ => true) true fuel 35 [v] = some x) : ∃ l, IntsAt W v l := by
  rcases open_slice1 Tryz.underlying35 cells3 h with ⟨hc, _⟩ | ⟨a, len, cap, m, n, V, D, Pl, hc, _, hl, hm, hmm, _, hall⟩
  · simp only [List.cons.injEq, and_true] at hc
    exact ⟨[], none, 0, hc, fun j x hj => by simp at hj⟩
  · simp only [List.cons.injEq, and_true] at hc
    have hex : ∀ i, i < len → ∃ k : Int, W.cell? (a.add i) = some (.int .i64 k) := by
      intro i hi
      obtain ⟨h1, h2⟩ := hall i (by simp only [if_true] at hmm; omega)
      obtain ⟨k, e0, _, _⟩ := DataW.trod_int Tryz.underlying3 h2
      injection e0 with e0 _
      exact ⟨k, by rw [h1, e0]⟩
    obtain ⟨f, hf⟩ := choose_lt (α := Int) (p := fun i k => W.cell? (a.add i) = some (.int .i64 k)) hex
    refine ⟨(List.range len).map f, some a, cap, by simpa using hc, fun j k hj => ?_⟩
    obtain ⟨hj1, hj2⟩ := List.getElem?_eq_some_iff.1 hj
    simp at hj1 hj2
    have h0 := hf 0 (by omega)
    have e00 : a.add 0 = a := by simp [Addr.add]
    rw [e00] at h0
    have hsp := World.cell?_spot h0
    have hj3 := hf j hj1
    obtain ⟨b, o, sp⟩ := a
    simp only at hsp
    subst hsp
    refine ⟨b, o, rfl, ?_⟩
    rw [← hj2]
    by_cases e : j = 0
    · subst e; simpa [Addr.add] using hj3
    · simpa [Addr.add, e] using hj3
theorem cells35 : Tryz.prog.cellsOf 35 = 1 := by kernel_rfl
theorem cells59 : Tryz.prog.cellsOf 59 = 1 := by kernel_rfl
theorem cells61 : Tryz.prog.cellsOf 61 = 3 := by kernel_rfl
/-- A slice of slices of numbers. -/
theorem rows_open {fuel : Nat} {v : Value} {x : DataW H × List MemPlace} (h : DataW.trod enc Tryz.prog W 0 (fun _ => true) true fuel 59 [v] = some x) : ∃ l, RowsAt W v l := by
  rcases open_slice1 Tryz.underlying59 cells35 h with ⟨hc, _⟩ | ⟨a, len, cap, m, n, V, D, Pl, hc, _, hl, hm, hmm, _, hall⟩
  · simp only [List.cons.injEq, and_true] at hc
    exact ⟨[], none, 0, hc, fun j x hj => by simp at hj⟩
  · simp only [List.cons.injEq, and_true] at hc
    have hex : ∀ i, i < len → ∃ l : List Int, ∃ u, W.cell? (a.add i) = some u ∧ IntsAt W u l := by
      intro i hi
      obtain ⟨h1, h2⟩ := hall i (by simp only [if_true] at hmm; omega)
      obtain ⟨l, hl2⟩ := ints_open h2
      exact ⟨l, _, h1, hl2⟩
    obtain ⟨f, hf⟩ := choose_lt (α := List Int) (p := fun i l => ∃ u, W.cell? (a.add i) = some u ∧ IntsAt W u l) hex
    refine ⟨(List.range len).map f, some a, cap, by simpa using hc, fun j k hj => ?_⟩
    obtain ⟨hj1, hj2⟩ := List.getElem?_eq_some_iff.1 hj
    simp at hj1 hj2
    obtain ⟨u0, h0, _⟩ := hf 0 (by omega)
    have e00 : a.add 0 = a := by simp [Addr.add]
    rw [e00] at h0
    have hsp := World.cell?_spot h0
    obtain ⟨u, hj3, hj4⟩ := hf j hj1
    obtain ⟨b, o, sp⟩ := a
    simp only at hsp
    subst hsp
    refine ⟨b, o, u, rfl, ?_, by rw [← hj2]; exact hj4⟩
    by_cases e : j = 0
    · subst e; simpa [Addr.add] using hj3
    · simpa [Addr.add, e] using hj3
theorem trod_struct3 {t : TypeId} {f0 f1 f2 : Field} {fuel : Nat} {cs : List Value} {x : DataW H × List MemPlace} {P : Program} {base : Nat} {spare : Nat → Bool} {held : Bool} (ht : P.underlying t = some (.struct #[f0, f1, f2])) (h : DataW.trod enc P W base spare held fuel t cs = some x) :
    ∃ y0 y1 y2 n, cs.length = P.cellsOf t ∧ DataW.trod enc P W base spare held n f0.type ((cs.drop f0.offset).take (P.cellsOf f0.type)) = some y0 ∧
      DataW.trod enc P W base spare held n f1.type ((cs.drop f1.offset).take (P.cellsOf f1.type)) = some y1 ∧ DataW.trod enc P W base spare held n f2.type ((cs.drop f2.offset).take (P.cellsOf f2.type)) = some y2 := by
  obtain ⟨xs, n, _, rfl, hl, hlen, hf⟩ := DataW.trod_struct ht h
  match xs, hlen with
  | [y0, y1, y2], _ => exact ⟨y0, y1, y2, n, hl, by simpa using hf 0 f0 rfl, by simpa using hf 1 f1 rfl, by simpa using hf 2 f2 rfl⟩

set_option maxRecDepth 100000 in
theorem moment_open {b0 : Nat} {v : Value} {d : DataW H} {p : List MemPlace} (hv : Value.okWide Tryz.prog W .any b0 61 v) (h : DataW.Trod enc Tryz.prog W 0 (fun _ => true) true 61 v d p) : ∃ m, MomAt W v m := by
  unfold Value.okWide at hv
  rw [Tryz.underlying61] at hv
  obtain ⟨cs, rfl, hsz, _⟩ := hv
  obtain ⟨fuel, hf⟩ := h
  obtain ⟨y0, y1, y2, k, hl, hy0, hy1, hy2⟩ := trod_struct3 Tryz.underlying61 hf
  rw [cells61] at hl
  simp only [cells35, cells59] at hy0 hy1 hy2
  obtain ⟨cs⟩ := cs
  simp only [Value.cells] at hl hy0 hy1 hy2
  match cs, hl with
  | [v0, v1, v2], _ =>
    simp only [List.drop_succ_cons, List.drop_zero, List.take_succ_cons, List.take_zero] at hy0 hy1 hy2
    obtain ⟨l0, h0⟩ := ints_open hy0
    obtain ⟨l1, h1⟩ := ints_open hy1
    obtain ⟨l2, h2⟩ := rows_open hy2
    exact ⟨⟨l0, l1, l2⟩, v0, v1, v2, rfl, h0, h1, h2⟩
end
end Go.Proofs.YtbhiaeciiphelaaGreatDoor
