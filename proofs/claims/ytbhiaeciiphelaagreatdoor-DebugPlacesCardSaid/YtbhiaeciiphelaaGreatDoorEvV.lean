/-
  DERIVED. The law DebugPlaces over every world in which the listed variable lies. Condition: the events lie in a row.
-/
import Derived.Test.YtbhiaeciiphelaaGreatDoorEvU
import Derived.Test.YtbhiaeciiphelaaGreatDoorSane
namespace Go.Proofs.YtbhiaeciiphelaaGreatDoor
open Go.RowKit
theorem sane_of {w : World} {b : Nat} {o : Nat} (h : w.heap[1]? = some (.cells #[.iface 343 (.pointer (some ⟨b, o, none⟩))] 307 (0, 0))) :
    Calls Tryz.prog 9 #[] w fun e w' => e = .returned (.bool true) ∧ Keeps w w' :=
  (Ex.sane_calls h).mono (fun _ _ h => ⟨h.1, h.2.1, h.2.2.1, h.2.2.2.1, h.2.2.2.2.1, fun k hk _ => h.2.2.2.2.2 k hk⟩)
set_option maxHeartbeats 8000000 in
set_option maxRecDepth 100000 in
theorem places_of {w : World} {b o : Nat} (hg : w.heap[1]? = some (.cells #[.iface 343 (.pointer (some ⟨b, o, none⟩))] 307 (0, 0))) (a : Option Addr) (n c : Nat) (evs : List Ev) (hev : EvsAt w a evs) (hn : n = evs.length) (x y : Int) :
    Calls Tryz.prog 3 #[.slice a n c, .int .i64 x, .int .i64 y] w fun e w' => e = .returned (.bool true) ∧ Keeps w w' := by
  have HS := Lib.hid (sane_of hg)
  clear hg
  by_cases hfew : n ≤ 600
  · have hI : EvIn w a n evs := ⟨hev, hn, by omega⟩
    have H11 := Lib.hid (fun (W : World) (hK : Keeps w W) => next_of W a n c evs (hI.keeps hK) x y)
    have H12 := Lib.hid (fun (W : World) (hK : Keeps w W) => refNext_of W a n c evs (hI.keeps hK) x y)
    have H13 := Lib.hid (fun (W : World) (hK : Keeps w W) => last_of W a n c evs (hI.keeps hK) x y)
    have H14 := Lib.hid (fun (W : World) (hK : Keeps w W) => refLast_of W a n c evs (hI.keeps hK) x y)
    have H15 := Lib.hid (fun (W : World) (hK : Keeps w W) => span_of W a n c evs (hI.keeps hK) y)
    have H16 := Lib.hid (fun (W : World) (hK : Keeps w W) => refSpan_of W a n c evs (hI.keeps hK) y)
    have H17 := Lib.hid (fun (W : World) (hK : Keeps w W) => maker_of W a n c evs (hI.keeps hK) y)
    have H18 := Lib.hid (fun (W : World) (hK : Keeps w W) => readers_of W a n c evs (hI.keeps hK) y)
    have H19 := Lib.hid (fun (W : World) (hK : Keeps w W) => refReaders_of W a n c evs (hI.keeps hK) y)
    have hrl : (outReaders evs y).length ≤ 60000 := by
      unfold outReaders
      split
      · have := rdsOf_len y 0 evs; omega
      · simp
    obtain ⟨q1, b1, h1⟩ : ∃ q b, pairOf (outNext evs x y) = .tuple #[.int .i64 q, .bool b] := ⟨_, _, rfl⟩
    obtain ⟨q2, b2, h2⟩ : ∃ q b, pairOf (outLast evs x y) = .tuple #[.int .i64 q, .bool b] := ⟨_, _, rfl⟩
    simp only [h1] at H11 H12
    simp only [h2] at H13 H14
    generalize ((outSpan evs y).1 : Int) = s1 at H15 H16 H17
    generalize ((outSpan evs y).2.1 : Int) = s2 at H15 H16 H17
    generalize (outSpan evs y).2.2 = s3 at H15 H16 H17
    generalize outErr evs = er at H18 H19
    have HRl := Lib.hid hrl
    clear h1 h2 hev hn hI hrl
    have k0 : (n : Int) ≤ 600 := by omega
    go_enter Tryz.func3, Tryz.ntmps3
    go_wp2_with fail
    refine HS.out.mono ?_
    rintro _ w1 ⟨rfl, hk⟩
    have HK1 := Lib.hid hk
    clear hk
    go_wp2_with fail
    refine (few_of _ _ _ _).mono ?_
    rintro _ w1' ⟨rfl, rfl⟩
    have hd : decide (n ≤ 600) = true := by simp [hfew]
    rw [hd]
    go_wp2_with fail
    refine (H11.out _ HK1.out).mono ?_
    rintro _ w2 ⟨rfl, hk⟩
    have HK2 := Lib.hid (Keeps.trans HK1.out hk)
    clear hk
    go_wp2_with fail
    refine (H12.out _ HK2.out).mono ?_
    rintro _ w3 ⟨rfl, hk⟩
    have HK3 := Lib.hid (Keeps.trans HK2.out hk)
    clear hk
    go_wp2_with fail
    refine (H13.out _ HK3.out).mono ?_
    rintro _ w4 ⟨rfl, hk⟩
    have HK4 := Lib.hid (Keeps.trans HK3.out hk)
    clear hk
    go_wp2_with fail
    refine (H14.out _ HK4.out).mono ?_
    rintro _ w5 ⟨rfl, hk⟩
    have HK5 := Lib.hid (Keeps.trans HK4.out hk)
    clear hk
    go_wp2_with fail
    refine (H15.out _ HK5.out).mono ?_
    rintro _ w6 ⟨rfl, hk⟩
    have HK6 := Lib.hid (Keeps.trans HK5.out hk)
    clear hk
    go_wp2_with fail
    refine (H16.out _ HK6.out).mono ?_
    rintro _ w7 ⟨rfl, hk⟩
    have HK7 := Lib.hid (Keeps.trans HK6.out hk)
    clear hk
    go_wp2_with fail
    refine (H17.out _ (Keeps.trans HK7.out (Keeps.alloc _ _))).mono ?_
    rintro _ w8 ⟨rfl, hk⟩
    have HB8 := Lib.hid (hk.at (heap_alloc_at _ _) (fun x => x))
    have HK8 := Lib.hid (Keeps.trans (Keeps.trans HK7.out (Keeps.alloc _ _)) hk)
    clear hk
    go_wp2_with fail
    refine (H18.out _ HK8.out).mono ?_
    rintro _ w9 ⟨v, rfl, hrow, hk⟩
    obtain ⟨p, cp, rfl, _, hp⟩ := row_at hrow
    have HB9 := Lib.hid (hk.at HB8.out (fun x => x))
    have HK9 := Lib.hid (Keeps.trans HK8.out hk)
    have HP := Lib.hid hp
    have HRow := Lib.hid hrow
    clear hk hp hrow
    go_wp2_with fail
    refine (H19.out _ HK9.out).mono ?_
    rintro _ w10 ⟨v, rfl, hrow2, hk⟩
    obtain ⟨p2, cp2, rfl, _, hp2⟩ := row_at hrow2
    have hB10 := hk.at HB9.out (fun x => x)
    have d0 := cell_of_block hB10 0
    have d1 := cell_of_block hB10 1
    have d2 := cell_of_block hB10 2
    simp at d0 d1 d2
    have HK10 := Lib.hid (Keeps.trans HK9.out hk)
    obtain ⟨p', cp', he, _, hp1⟩ := row_at (row_same HRow.out fun g hg => hk.block g (HRow.out.lt g hg).2 (fun x => x))
    have hpe : p' = p := by injection he with h1 h2 h3; exact h1.symm
    subst hpe
    have H20 := Lib.hid (sameInts_of w10 p' p2 cp cp2 _ hp1 hp2 HRl.out)
    clear hk hp1 hp2 hrow2 hB10 he
    go_wp2_with (go_at_call 20; refine H20.out.mono ?_; rintro _ w11 ⟨rfl, hk⟩; have HK11 := Lib.hid (Keeps.trans HK10.out hk); clear hk)
    go_ret
    exact ⟨rfl, HK11.out⟩
  · have k0 : ¬ (n : Int) ≤ 600 := by omega
    clear hev hn
    go_enter Tryz.func3, Tryz.ntmps3
    go_wp2_with fail
    refine HS.out.mono ?_
    rintro _ w1 ⟨rfl, hk⟩
    have HK1 := Lib.hid hk
    clear hk
    go_wp2_with fail
    refine (few_of _ _ _ _).mono ?_
    rintro _ w1' ⟨rfl, rfl⟩
    have hd : decide (n ≤ 600) = false := by simp [hfew]
    rw [hd]
    go_wp2
    go_ret
    exact ⟨rfl, HK1.out⟩
end Go.Proofs.YtbhiaeciiphelaaGreatDoor
