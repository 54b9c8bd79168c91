/-
  OrderBeside, walked. Conditions: the argument lies in memory.
-/
import Derived.Test.YtijceljhpbdnnaaSame
import Derived.Test.YtijceljhpbdnnaaSane
namespace Go.Proofs.Ytijceljhpbdnnaa
open Go.RowKit

theorem OpsAt.on' {w w' : World} {v : Value} {n : Nat} (h : OpsAt w v n) (hK : Kept (fun _ => False) w w') : OpsAt w' v n := by
  rcases h with h | ⟨a, cap, rfl, h1, h2, h3⟩
  · exact .inl h
  · exact .inr ⟨a, cap, rfl, h1, h2, fun j hj => (h3 j hj).on (h3 j hj).lt hK⟩
theorem quiet_of2 {P : Program} {f : FuncId} {args : Array Value} {w : World} {m n : Nat} {v : Value} (h : Calls P f args (w.drewN (m + n)) fun e w' => e = .returned v ∧ ∃ q, w' = (w.drewN (m + n)).drewN q) :
    Calls P f args (w.drewN (m + n)) fun e w'' => e = .returned v ∧ ∃ q, w'' = w.drewN (m + q) :=
  h.mono fun _ _ ⟨he, q, hm⟩ => ⟨he, n + q, by rw [hm, World.drewN_drewN, Nat.add_assoc]⟩
set_option maxRecDepth 100000 in
set_option maxHeartbeats 4000000 in
theorem orderBeside_of {w : World} {v : Value} {nn : Nat} (h : OpsAt w v nn) : Calls Try.prog 6 #[v] w fun e w' => e = .returned (.bool true) ∧ Kept (fun _ => False) w w' := by
  have hp := fun (W : World) (hK : Kept (fun _ => False) w W) => played_of (h.on' hK)
  have HP := Lib.hid hp
  clear h hp
  go_enter Try.func6, Try.ntmps6
  go_wp2_with fail
  refine (sane_of _).mono ?_
  rintro _ w1 ⟨rfl, hK1⟩
  have HK1 := Lib.hid hK1
  clear hK1
  go_wp2_with fail
  refine (HP.out _ HK1.out).mono ?_
  rintro _ w2 ⟨xb, O, g, cap, rfl, hN, _⟩
  obtain ⟨c0, c1, c2, _, _⟩ := hN.both.cells
  have hs := stamps_lies hN.both.inv
  dsimp only [lptr] at hs
  have HS := Lib.hid hs
  have HN := Lib.hid hN
  clear hN hs
  go_wp2_with fail
  refine HS.out.mono ?_
  rintro _ w3 ⟨g1, cap1, rfl, hL1, _, hK3⟩
  have hB3 := HN.out.both.kept hK3
  have hK := (HK1.out.trans HN.out.kept (fun _ _ x => x)).trans hK3 (fun _ _ x => x)
  obtain ⟨d0, _, _, _, _⟩ := hB3.cells
  have hnext := fun (m i a b : Nat) (hi : O.ids[i]? = some a) (hk : O.ids[i + 1]? = some b) => next_pos (hB3.inv.drewN m) hi hk
  have hnend := fun (m i a : Nat) (hi : O.ids[i]? = some a) (hk : O.ids.length = i + 1) => next_end (hB3.inv.drewN m) hi hk
  have hprev := fun (m i a b : Nat) (hi : O.ids[i + 1]? = some a) (hk : O.ids[i]? = some b) => prev_pos (hB3.inv.drewN m) hi hk
  have hpend := fun (m a : Nat) (hi : O.ids[0]? = some a) => prev_end (hB3.inv.drewN m) hi
  have hfirst := hL1.cell 0 0 (first_id hB3.inv.wf)
  have hpos := ids_pos0 hB3.inv
  have hle := ids_le hB3.inv
  have hfit := hL1.fit
  have HC := Lib.hid hL1.cell
  have HF := Lib.hid hfirst
  have HKK := Lib.hid hK
  obtain ⟨n, hn⟩ : ∃ n, n = O.ids.length := ⟨_, rfl⟩
  obtain ⟨lb, hlb⟩ : ∃ l, l = O.lb := ⟨_, rfl⟩
  rw [← hn] at hpos hle hfit
  rw [← hlb] at d0
  simp only [← hlb] at hnext hnend hprev hpend
  have HX := Lib.hid hnext
  have HXE := Lib.hid hnend
  have HV := Lib.hid hprev
  have HVE := Lib.hid hpend
  have HN1 := Lib.hid hn
  simp only [← hn]
  clear hfirst hL1 hK3 hB3 hK hnext hnend hprev hpend HS HP HN HK1 c0 c1 c2 hlb hn
  go_wp2
  go_loopw [7, 8, 9, 10, 11, 12] (fun c _ _ _ _ _ wr => ∃ i m : Nat, i ≤ n ∧ c = .int .i64 i ∧ wr = w3.drewN m) (fun c _ _ _ _ _ _ => n - (intOf c).toNat)
  case atStart => exact ⟨0, 0, Nat.zero_le _, rfl, rfl⟩
  case round =>
    obtain ⟨i, m, hi, rfl, rfl⟩ := hrel
    by_cases hin : i < n
    · obtain ⟨a, ha⟩ : ∃ a, O.ids[i]? = some a := ⟨_, List.getElem?_eq_getElem (by rw [← HN1.out]; exact hin)⟩
      have ca := HC.out _ _ ha
      have k1 : (i : Int) < (n : Int) := by omega
      have k2 : (0 : Int) ≤ (i : Int) := by omega
      by_cases hl : i + 1 < n
      · obtain ⟨b, hb⟩ : ∃ b, O.ids[i + 1]? = some b := ⟨_, List.getElem?_eq_getElem (by rw [← HN1.out]; exact hl)⟩
        have cb := HC.out _ _ hb
        have H1 := Lib.hid fun (q : Nat) => HX.out q i a b ha hb
        have k3 : ¬ (i : Int) = (n : Int) - 1 := by omega
        cases i with
        | zero =>
          have H2 := Lib.hid fun (q : Nat) => HVE.out q a ha
          clear ha hb
          go_wp2
          go_quiet ((go_at_call 21; exact quiet_of2 (H1.out _)))
          go_wp2
          go_quiet ((go_at_call 22; exact quiet_of2 (H2.out _)))
          go_wp2
          go_roundw
          case rel => exact ⟨1, _, by omega, by go_num, rfl⟩
          case measure => first | (simp [intOf]; done) | (simp [intOf]; omega)
        | succ k =>
          obtain ⟨p, hp⟩ : ∃ p, O.ids[k]? = some p := ⟨_, List.getElem?_eq_getElem (by rw [← HN1.out]; omega)⟩
          have cp := HC.out _ _ hp
          have H2 := Lib.hid fun (q : Nat) => HV.out q k a p ha hp
          clear ha hb hp
          go_wp2
          go_quiet ((go_at_call 21; exact quiet_of2 (H1.out _)))
          go_wp2
          go_quiet ((go_at_call 22; exact quiet_of2 (H2.out _)))
          go_wp2
          go_roundw
          case rel => exact ⟨k + 2, _, by omega, by go_num, rfl⟩
          case measure => first | (simp [intOf]; done) | (simp [intOf]; omega)
      · obtain rfl : n = i + 1 := by omega
        have H1 := Lib.hid fun (q : Nat) => HXE.out q i a ha HN1.out.symm
        cases i with
        | zero =>
          have H2 := Lib.hid fun (q : Nat) => HVE.out q a ha
          clear ha
          go_wp2
          go_quiet ((go_at_call 21; exact quiet_of2 (H1.out _)))
          go_wp2
          go_quiet ((go_at_call 22; exact quiet_of2 (H2.out _)))
          go_wp2
          go_roundw
          case rel => exact ⟨1, _, by omega, by go_num, rfl⟩
          case measure => first | (simp [intOf]; done) | (simp [intOf]; omega)
        | succ k =>
          obtain ⟨p, hp⟩ : ∃ p, O.ids[k]? = some p := ⟨_, List.getElem?_eq_getElem (by rw [← HN1.out]; omega)⟩
          have cp := HC.out _ _ hp
          have H2 := Lib.hid fun (q : Nat) => HV.out q k a p ha hp
          clear ha hp
          go_wp2
          go_quiet ((go_at_call 21; exact quiet_of2 (H1.out _)))
          go_wp2
          go_quiet ((go_at_call 22; exact quiet_of2 (H2.out _)))
          go_wp2
          go_roundw
          case rel => exact ⟨k + 2, _, by omega, by go_num, rfl⟩
          case measure => first | (simp [intOf]; done) | (simp [intOf]; omega)
    · have cf := HF.out
      have k1 : (0 : Int) < (n : Int) := by omega
      go_wp2
      go_ret
      exact ⟨rfl, HKK.out.drewN _⟩
end Go.Proofs.Ytijceljhpbdnnaa
