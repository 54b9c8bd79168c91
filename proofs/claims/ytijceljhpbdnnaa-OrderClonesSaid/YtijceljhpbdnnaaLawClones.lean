/-
  OrderClones, walked. Conditions: both arguments lie in memory.
-/
import Derived.Deep.CutBlock
import Derived.Deep.CutRange
import Derived.Test.YtijceljhpbdnnaaTurns
import Derived.Test.YtijceljhpbdnnaaCloneC
namespace Go.Proofs.Ytijceljhpbdnnaa
open Go.RowKit

/-- Two that do not touch each other. -/
structure Pair (w wr : World) (xb cb : Nat) (O C : Ord) (g cap g' cap' : Nat) : Prop where
  x : Both wr xb O g cap
  c : Both wr cb C g' cap'
  kept : Kept (fun _ => False) w wr
  own : ∀ k, O.own k → ¬ C.own k
  xOff : ¬ C.own xb
  cOff : ¬ O.own cb
  xc : xb ≠ cb
  gOff : ¬ C.own g
  hOff : ¬ O.own g'
  gc : g ≠ cb
  hx : g' ≠ xb
  newX : ∀ k, O.own k ∨ k = xb → w.heap.size ≤ k
  newC : ∀ k, C.own k ∨ k = cb → w.heap.size ≤ k
theorem Pair.swap {w wr : World} {xb cb : Nat} {O C : Ord} {g cap g' cap' : Nat} (h : Pair w wr xb cb O C g cap g' cap') : Pair w wr cb xb C O g' cap' g cap :=
  ⟨h.c, h.x, h.kept, fun k a b => h.own k b a, h.cOff, h.xOff, Ne.symm h.xc, h.hOff, h.gOff, h.hx, h.gc, h.newC, h.newX⟩
theorem Pair.on {w wr w' : World} {xb cb : Nat} {O C : Ord} {g cap g' cap' : Nat} (h : Pair w wr xb cb O C g cap g' cap') (hK : Kept (fun _ => False) wr w') : Pair w w' xb cb O C g cap g' cap' :=
  ⟨h.x.kept hK, h.c.kept hK, h.kept.trans hK (fun _ _ x => x), h.own, h.xOff, h.cOff, h.xc, h.gOff, h.hOff, h.gc, h.hx, h.newX, h.newC⟩
theorem Pair.did {w wr w' : World} {xb cb : Nat} {O C O' : Ord} {g cap g' cap' g2 cap2 : Nat} (h : Pair w wr xb cb O C g cap g' cap') (hd : Did wr w' xb O O' g g2 cap2) : Pair w w' xb cb O' C g2 cap2 g' cap' := by
  have hsz := h.kept.size
  have hcb := heap_lt h.c.box
  have hg' := h.c.lies.lt
  have hcl : ∀ k, C.own k → k < wr.heap.size := fun k hk => h.c.inv.own_lt hk
  refine ⟨hd.both, h.c.frame hd.kept ?_, h.kept.trans hd.kept (fun k hk s => absurd (h.newX k s) (by omega)), ?_, h.xOff, ?_, h.xc, ?_, ?_, ?_, h.hx, ?_, h.newC⟩
  · rintro k (hk | rfl)
    · exact ⟨h.own k hk, fun e => h.cOff (e ▸ hk), fun e => h.hOff (e ▸ hk)⟩
    · exact ⟨h.xOff, h.xc, Ne.symm h.hx⟩
  · intro k hk hc
    exact h.own k (hd.own k (hcl k hc) hk) hc
  · exact fun hk => h.cOff (hd.own cb hcb hk)
  · intro hk
    rcases hd.old with rfl | ho
    · exact h.gOff hk
    · have := hcl _ hk; omega
  · exact fun hk => h.hOff (hd.own g' hg' hk)
  · rintro rfl
    rcases hd.old with e | ho
    · exact h.gc e.symm
    · omega
  · rintro k (hk | rfl)
    · rcases Nat.lt_or_ge k wr.heap.size with hlt | hge
      · exact h.newX k (.inl (hd.own k hlt hk))
      · omega
    · exact h.newX k (.inr rfl)
theorem pair_start {w w2 w3 W : World} {xb g cap : Nat} {O C : Ord} (hN : Newer w w2 xb O g cap) (hC : Cloned w2 w3 O C) (hK : Kept (fun _ => False) w3 W) :
    Pair w (W.alloc (xobj C.lb g O.ids.length cap O.P.length)) xb W.heap.size O C g cap g cap := by
  have hK2 : Kept (fun _ => False) w2 (W.alloc (xobj C.lb g O.ids.length cap O.P.length)) := (hC.kept.trans hK (fun _ _ x => x)).alloc _
  have hK3 : Kept (fun _ => False) w3 (W.alloc (xobj C.lb g O.ids.length cap O.P.length)) := hK.alloc _
  have e2 := hN.kept.size
  have e3 := hC.kept.size
  have e4 := hK.size
  have hx := heap_lt hN.both.box
  have hg := hN.both.lies.lt
  have ho : ∀ k, O.own k → k < w2.heap.size := fun k hk => hN.both.inv.own_lt hk
  have hc : ∀ k, C.own k → w2.heap.size ≤ k ∧ k < w3.heap.size := fun k hk => ⟨hC.own k hk, hC.inv.own_lt hk⟩
  have hB := hN.both.kept hK2
  refine ⟨hB, ⟨hC.inv.frame hK3 (fun _ _ x => x), hC.few, ?_, ?_, ?_, ?_, by omega⟩, hN.kept.trans hK2 (fun _ _ x => x), ?_, ?_, ?_, by omega, ?_, hN.both.gOff, by omega, hN.both.gx, ?_, ?_⟩
  · rw [hC.ids, hC.made]; exact heap_alloc_at _ _
  · rw [hC.ids]; exact hB.lies
  · intro k; have := hc _ k; omega
  · intro k; have := hc _ k; omega
  · intro k a b; have := hc _ b; have := ho _ a; omega
  · intro k; have := hc _ k; omega
  · intro k; have := ho _ k; omega
  · intro k; have := hc _ k; omega
  · rintro k (a | rfl)
    · exact hN.own k a
    · exact hN.box
  · rintro k (a | rfl)
    · have := hc _ a; omega
    · omega
set_option maxRecDepth 100000 in
set_option maxHeartbeats 4000000 in
theorem orderClones_of {w : World} {v u : Value} {nn n : Nat} (h : OpsAt w v nn) (hu : OpsAt w u n) : Calls Try.prog 10 #[v, u] w fun e w' => e = .returned (.bool true) ∧ Kept (fun _ => False) w w' := by
  have hp := fun (W : World) (hK : Kept (fun _ => False) w W) => played_of (h.on' hK)
  have HP := Lib.hid hp
  have hdo := fun (W : World) (xb : Nat) (O : Ord) (g cap : Nat) (kd a b : Int) (md : Bool) (hB : Both W xb O g cap) (hk : I64 kd) (ha : I64 a) (hb : I64 b) => do_of (md := md) hB hk ha hb
  have HDO := Lib.hid hdo
  obtain ⟨ao, cap0, rfl, hn, hm, hops⟩ := hu.form
  have HOPS := Lib.hid hops
  unfold maxLen at hm
  clear h hp hdo hops hu
  go_enter Try.func10, Try.ntmps10
  go_wp2_with fail
  refine (sane_of _).mono ?_
  rintro _ w1 ⟨rfl, hK1⟩
  have HK1 := Lib.hid hK1
  clear hK1
  go_wp2_with fail
  refine (HP.out _ HK1.out).mono ?_
  rintro _ w2 ⟨xb, O, g, cap, rfl, hN, _⟩
  obtain ⟨c0, c1, c2, _, _⟩ := hN.both.cells
  have hcl := fun (W : World) (hK : Kept (fun _ => False) w2 W) => clone_of (hN.both.kept hK).inv hN.both.few
  have hkc := fun (W : World) (hK : Kept (fun _ => False) w2 W) => (hN.both.kept hK).cells
  obtain ⟨lb, hlb⟩ : ∃ l, l = O.lb := ⟨_, rfl⟩
  obtain ⟨nx, hnx⟩ : ∃ l, l = O.ids.length := ⟨_, rfl⟩
  obtain ⟨made, hmd⟩ : ∃ l, l = O.P.length := ⟨_, rfl⟩
  simp only [← hlb, ← hnx, ← hmd] at c0 c1 c2 hcl hkc
  have HLB := Lib.hid hlb
  have HNX := Lib.hid hnx
  have HMD := Lib.hid hmd
  have HN := Lib.hid hN
  have HCL := Lib.hid hcl
  have HKC := Lib.hid hkc
  clear hN hcl hkc hlb hnx hmd
  go_wp2
  go_region_held3 (fun w' => w'.cell? ⟨xb, 0, none⟩ = some (.pointer (some ⟨lb, 0, none⟩)) ∧ w'.cell? ⟨xb, 1, none⟩ = some (.slice (some ⟨g, 0, none⟩) nx cap) ∧ w'.cell? ⟨xb, 2, none⟩ = some (.int .i64 made))
    (first | exact ⟨c0, c1, c2⟩ | exact ⟨d0, d1, d2⟩ | go_keep)
    (first | (go_at_call 29; refine (HCL.out _ ((Kept.refl _ _).drew)).mono ?_; rintro _ w3 ⟨C, rfl, hC⟩; have hKw := Kept.trans ((Kept.refl _ _).drew) hC.kept (fun _ _ x => x); obtain ⟨d0, d1, d2, _, _⟩ := HKC.out _ hKw; have HC := Lib.hid hC; clear hC hKw))
  have hP0 := pair_start (HN.out.on ((Kept.refl _ _).drew)) HC.out (Kept.refl _ w3)
  have hmv : C.moves = O.moves := HC.out.moves
  dsimp only [xobj] at hP0
  rw [← HNX.out, ← HMD.out] at hP0
  obtain ⟨cl, hcl⟩ : ∃ l, l = C.lb := ⟨_, rfl⟩
  rw [← hcl] at hP0
  rw [← hcl]
  have HCB := Lib.hid hcl
  have HPR := Lib.hid hP0
  clear hP0 hcl HC HKC HCL c0 c1 c2 d0 d1 d2
  generalize w3.heap.size = cb at *
  generalize w3.alloc (Obj.cells #[Value.pointer (some { block := cl, off := 0 }), Value.slice (some { block := g, off := 0 }) nx cap, Value.int IntKind.i64 ↑made] 32) = W0 at *
  have hS := fun (W : World) (hK : Kept (fun _ => False) W0 W) => same_of (HPR.out.on hK).c
  have hM1 := fun (W : World) (hK : Kept (fun _ => False) W0 W) => moves_pos (HPR.out.on hK).c.inv
  have hM2 := fun (W : World) (hK : Kept (fun _ => False) W0 W) => moves_pos (HPR.out.on hK).x.inv
  have hX := fun (W : World) (hK : Kept (fun _ => False) W0 W) => (HPR.out.on hK).x.cells.1
  have hC := fun (W : World) (hK : Kept (fun _ => False) W0 W) => (HPR.out.on hK).c.cells.1
  rw [hmv] at hM1
  simp only [← HLB.out, ← HCB.out] at hM1 hM2 hX hC
  obtain ⟨mv, hmve⟩ : ∃ m, m = O.moves := ⟨_, rfl⟩
  simp only [← hmve] at hM1 hM2
  have c0 := hX _ (Kept.refl _ _)
  have c1 := hC _ (Kept.refl _ _)
  have HS := Lib.hid hS
  have hM : ∀ (p : Nat), (p = lb ∨ p = cl) → ∀ (W : World), Kept (fun _ => False) W0 W → Calls Try.prog 17 #[.pointer (some ⟨p, 0, none⟩)] W fun e w' => e = .returned (.int .i64 mv) ∧ W = w' := by
    rintro p (rfl | rfl) W hK
    · exact hM2 W hK
    · exact hM1 W hK
  have HM := Lib.hid hM
  have HX := Lib.hid hX
  have HC := Lib.hid hC
  have dmv : decide ((mv : Int) = (mv : Int)) = true := decide_eq_true rfl
  clear hS hM hM1 hM2 hX hC hmv hmve
  go_wp2
  go_region_held3 (fun w' => w'.cell? ⟨xb, 0, none⟩ = some (.pointer (some ⟨lb, 0, none⟩)) ∧ w'.cell? ⟨cb, 0, none⟩ = some (.pointer (some ⟨cl, 0, none⟩)))
    (first | exact ⟨c0, c1⟩ | exact ⟨d0, d1⟩ | go_keep)
    (first
      | (go_at_call 18; refine (HS.out _ ((Kept.refl _ _).drew)).mono ?_; rintro _ w4 ⟨rfl, hK4⟩; have hKw := Kept.trans ((Kept.refl _ _).drew) hK4 (fun _ _ x => x); have d0 := HX.out _ hKw; have d1 := HC.out _ hKw; have HKW := Lib.hid hKw; clear hK4 hKw)
      | (go_at_call 17; refine (HM.out _ ?_ _ ?_).mono ?_; (first | exact .inl rfl | exact .inr rfl); (first | exact HKW.out | exact HKW.out.drew | exact HKW.out.drew.drew); rintro _ w5 ⟨rfl, rfl⟩))
  rename_i hHeld
  clear hHeld
  have hP1 := HPR.out.on HKW.out
  have HP1 := Lib.hid hP1
  have HKA := Lib.hid (HK1.out)
  clear hP1 HPR HS HM HX HC HKW c0 c1 d0 d1 dmv
  go_upto_block 0 with fail
  go_cut [9, 10] from 48 to 65 (fun _ _ wx => ∃ (C : Ord) (g' cap' : Nat), Pair w1 wx xb cb O C g cap g' cap')
  case first =>
    go_wp2_with fail
    go_loopw [9, 10] (fun cv _ wr => ∃ (j : Nat) (C : Ord) (g' cap' : Nat), j ≤ n ∧ j ≤ 100 ∧ cv = .int .i64 j ∧ Pair w1 wr xb cb O C g cap g' cap') (fun c _ _ => 100 - (intOf c).toNat)
    case atStart => exact ⟨0, _, _, _, Nat.zero_le _, Nat.zero_le _, rfl, HP1.out⟩
    case round =>
      obtain ⟨j, C2, g2, cap2, hj, hj3, rfl, hPr⟩ := hrel
      have HPR := Lib.hid hPr
      clear hPr
      by_cases hjn : j < n
      · by_cases hj30 : j < 100
        · obtain ⟨a, rfl, ha, hop⟩ := HOPS.out j hjn
          obtain ⟨kd, x, y, md, h1, h2, h3, k0, k1, k2, k3⟩ := hop.on ha (HKA.out.trans HPR.out.kept (fun _ _ x => x))
          have D2 : decide ((j : Int) < 100) = true := decide_eq_true (by omega)
          have HJ3 := Lib.hid hj30
          have I1 := Lib.hid h1
          have I2 := Lib.hid h2
          have I3 := Lib.hid h3
          have HM := Lib.hid hm
          have HNC := Lib.hid hn
          clear hop hj hj3 hj30 h1 h2 h3 hm hn
          go_wp2_with fail
          refine (HDO.out _ _ _ _ _ _ _ _ _ HPR.out.c I1.out I2.out I3.out).mono ?_
          rintro _ w5 ⟨rfl, C3, g3, cap3, hD⟩
          have HPR3 := Lib.hid (HPR.out.swap.did hD).swap
          clear hD k0 k1 k2 k3
          have e1 : IntKind.i64.wrap ((j : Int) + 1) = (j : Int) + 1 := IntWalk.i64_in _ (by have := HJ3.out; omega)
          go_wp2
          go_roundw
          case rel => exact ⟨j + 1, C3, g3, cap3, by omega, by have := HJ3.out; omega, by go_num, HPR3.out⟩
          case measure => have := HJ3.out; simp [intOf]; omega
        · have D2 : decide ((j : Int) < 100) = false := decide_eq_false (by omega)
          clear hj hj3 hj30 hm hn
          go_wp2
          go_meet
          case rel => exact ⟨_, _, _, HPR.out⟩
      · clear hj hj3 hm hn
        go_wp2
        go_meet
        case rel => exact ⟨_, _, _, HPR.out⟩
  case rest =>
    obtain ⟨C2, g2, cap2, hPr⟩ := hcut
    have HPR := Lib.hid hPr
    clear hPr HP1
    go_wp2_with fail
    refine (same_of HPR.out.x).mono ?_
    rintro _ w6 ⟨rfl, hK6⟩
    have HPR6 := Lib.hid (HPR.out.on hK6)
    clear hK6 HPR
    go_wp2_with fail
    refine (same_of HPR6.out.c).mono ?_
    rintro _ w7 ⟨rfl, hK7⟩
    have HPR7 := Lib.hid (HPR6.out.on hK7)
    clear hK7 HPR6
    have z1 : IntKind.i64.wrap ((n : Int) - 1) = (n : Int) - 1 := IntWalk.i64_in _ (by omega)
    have z2 : IntKind.i64.wrap ((n : Int) - 100) = (n : Int) - 100 := IntWalk.i64_in _ (by omega)
    go_upto_block 2 with fail
    go_cut [11, 12] from 77 to 95 (fun _ _ wx => ∃ (O : Ord) (g cap : Nat), Pair w1 wx xb cb O C2 g cap g2 cap2)
    case first =>
      go_wp2_with fail
      go_loopw [11, 12] (fun cv _ wr => ∃ (i : Int) (O : Ord) (g cap : Nat), -1 ≤ i ∧ i < (n : Int) ∧ cv = .int .i64 i ∧ Pair w1 wr xb cb O C2 g cap g2 cap2) (fun c _ _ => (intOf c + 1).toNat)
      case atStart => exact ⟨(n : Int) - 1, _, _, _, by omega, by omega, rfl, HPR7.out⟩
      case round =>
        obtain ⟨i, O2, g3, cap3, hi1, hi2, rfl, hPr⟩ := hrel
        have HPR := Lib.hid hPr
        clear hPr
        by_cases hi0 : 0 ≤ i
        · obtain ⟨j, rfl⟩ := Int.eq_ofNat_of_zero_le hi0
          have hjn : j < n := by omega
          have D1 : decide ((0 : Int) ≤ (j : Int)) = true := decide_eq_true hi0
          by_cases hj : (n : Int) - 100 < (j : Int)
          · obtain ⟨a, rfl, ha, hop⟩ := HOPS.out j hjn
            obtain ⟨kd, x, y, md, h1, h2, h3, k0, k1, k2, k3⟩ := hop.on ha (HKA.out.trans HPR.out.kept (fun _ _ x => x))
            have D2 : decide ((n : Int) - 100 < (j : Int)) = true := decide_eq_true hj
            have z3 : IntKind.i64.wrap ((j : Int) - 1) = (j : Int) - 1 := IntWalk.i64_in _ (by omega)
            have I1 := Lib.hid h1
            have I2 := Lib.hid h2
            have I3 := Lib.hid h3
            have HM := Lib.hid hm
            have HNC := Lib.hid hn
            clear hop h1 h2 h3 hm hn hi1 z1
            go_wp2_with fail
            refine (HDO.out _ _ _ _ _ _ _ _ _ HPR.out.x I1.out I2.out I3.out).mono ?_
            rintro _ w8 ⟨rfl, O3, g4, cap4, hD⟩
            have HPR3 := Lib.hid (HPR.out.did hD)
            clear hD k0 k1 k2 k3
            go_wp2
            go_roundw
            case rel => exact ⟨(j : Int) - 1, O3, g4, cap4, by omega, by omega, by first | rfl | go_num, HPR3.out⟩
            case measure => simp [intOf]
          · have D2 : decide ((n : Int) - 100 < (j : Int)) = false := decide_eq_false hj
            clear hm hn hi1 z1
            go_wp2
            go_meet
            case rel => exact ⟨_, _, _, HPR.out⟩
        · have D1 : decide ((0 : Int) ≤ i) = false := decide_eq_false hi0
          clear hm hn hi1 z1
          go_wp2
          go_meet
          case rel => exact ⟨_, _, _, HPR.out⟩
    case rest =>
      obtain ⟨O4, g4, cap4, hPr⟩ := hcut
      have HPR8 := Lib.hid hPr
      clear hPr HPR7
      go_wp2_with fail
      refine (same_of HPR8.out.x).mono ?_
      rintro _ w8 ⟨rfl, hK8⟩
      have HPR9 := Lib.hid (HPR8.out.on hK8)
      clear hK8 HPR8
      go_wp2_with fail
      refine (same_of HPR9.out.c).mono ?_
      rintro _ w9 ⟨rfl, hK9⟩
      have HPRA := Lib.hid (HPR9.out.on hK9)
      clear hK9 HPR9
      go_wp2
      go_ret
      exact ⟨rfl, HKA.out.trans HPRA.out.kept (fun _ _ x => x)⟩
end Go.Proofs.Ytijceljhpbdnnaa
