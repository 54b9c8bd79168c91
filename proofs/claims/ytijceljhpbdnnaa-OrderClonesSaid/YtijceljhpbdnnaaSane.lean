/-
  sane: the fixed example holds. No condition.
-/
import Derived.Test.YtijceljhpbdnnaaApi
namespace Go.Proofs.Ytijceljhpbdnnaa
open Go.RowKit

theorem drewN_inv {w : World} {O : Ord} (h : Inv w O) (m : Nat) : Inv (w.drewN m) O := h.drewN m
/-- A world in which sane's order lies. -/
structure SaneAt (w0 w : World) (O : Ord) : Prop where
  inv : Inv w O
  few : ∃ S p j, Few O S p j
  kept : Kept (fun _ => False) w0 w
  own : ∀ k, O.own k → w0.heap.size ≤ k
set_option maxRecDepth 100000 in
set_option maxHeartbeats 2000000 in
theorem sane_of (w : World) : Calls Try.prog 12 #[] w fun e w' => e = .returned (.bool true) ∧ Kept (fun _ => False) w w' := by
  have hnew : Calls Try.prog 32 #[] w fun e w' => ∃ O, e = .returned (.pointer (some ⟨O.lb, 0, none⟩)) ∧ SaneAt w w' O ∧ O.ids = [0] ∧ O.P.length = 1 := by
    refine (new_of w).mono ?_
    rintro _ w' ⟨rfl, h1, h2⟩
    refine ⟨Ord.fresh w.heap.size, rfl, ⟨h1, ⟨0, 0, 0, few_fresh _⟩, h2, ?_⟩, rfl, rfl⟩
    rintro k (rfl | hk | hk)
    · exact Nat.le_refl _
    · simp [Ord.fresh, Value.ownBlock] at hk; omega
    · simp [Ord.fresh, Grp.foot] at hk; omega
  have hins : ∀ (w1 : World) (O : Ord), SaneAt w w1 O → O.ids[0]? = some 0 → O.P.length < 10 → Calls Try.prog 16 #[.pointer (some ⟨O.lb, 0, none⟩), .int .i64 0] w1 fun e w' => ∃ O', e = .returned (.tuple #[.int .i64 O.P.length, .int .i64 0]) ∧ O'.lb = O.lb ∧ SaneAt w w' O' ∧ O'.ids = putId O.ids 0 O.P.length ∧ O'.P.length = O.P.length + 1 := by
    rintro w1 O ⟨h1, ⟨S, p, j, h2⟩, h3, h4⟩ h0 hm
    refine (insert_pos h1 h2 h0 (by omega)).mono ?_
    rintro _ w' ⟨rfl, O', S', p', j', i1, i2, i3, i4⟩
    refine ⟨O', rfl, i3.lb, ⟨i1, ⟨S', p', j', i2⟩, ?_, ?_⟩, i3.ids, i3.made⟩
    · exact h3.trans i4 (fun x hx hs => absurd (h4 x hs) (by omega))
    · intro k hk
      rcases Nat.lt_or_ge k w1.heap.size with hlt | hge
      · exact h4 k (i3.own k hlt hk)
      · have := h3.size; omega
  have HN := Lib.hid hnew
  have HI := Lib.hid hins
  clear hnew hins
  go_enter Try.func12, Try.ntmps12
  go_wp2_with fail
  refine HN.out.mono ?_
  rintro _ w1 ⟨O1, rfl, hs1, hid1, hm1⟩
  have HS1 := Lib.hid hs1
  have HD1 := Lib.hid hid1
  have HM1 := Lib.hid hm1
  clear hs1 hid1 hm1
  go_wp2_with fail
  refine (HI.out w1 O1 HS1.out (by rw [HD1.out]; rfl) (by rw [HM1.out]; omega)).mono ?_
  rintro _ w2 ⟨O2, rfl, hlb2, hs2, hid2, hm2⟩
  rw [HD1.out, HM1.out] at hid2
  have hm2 : O2.P.length = 2 := by have := HM1.out; omega
  rw [HM1.out]
  have HS2 := Lib.hid hs2
  have HD2 := Lib.hid hid2
  have HM2 := Lib.hid hm2
  have HL2 := Lib.hid hlb2
  clear hs2 hid2 hm2 hlb2
  go_wp2_with fail
  rw [← HL2.out]
  refine (HI.out w2 O2 HS2.out (by rw [HD2.out]; rfl) (by rw [HM2.out]; omega)).mono ?_
  rintro _ w3 ⟨O3, rfl, hlb3, hs3, hid3, hm3⟩
  rw [HD2.out, HM2.out] at hid3
  rw [HM2.out] at hm3
  have hids : O3.ids = [0, 2, 1] := by rw [hid3]; rfl
  have hlen : O3.P.length = 3 := by omega
  obtain ⟨lb, hlb⟩ : ∃ lb, lb = O3.lb := ⟨_, rfl⟩
  have hless := less_pos hs3.inv (i := 1) (k := 2) (a := 2) (b := 1) (by rw [hids]; rfl) (by rw [hids]; rfl)
  have hnext := fun (W : World) (hW : Inv W O3) => next_pos hW (i := 1) (a := 2) (b := 1) (by rw [hids]; rfl) (by rw [hids]; rfl)
  have hlenc := fun (W : World) (hW : Inv W O3) => len_pos hW
  have hmadec := fun (W : World) (hW : Inv W O3) => made_pos hW
  have hdel := fun (W : World) (hW : Inv W O3) => delete_out hW (v := 0) (.inr rfl)
  simp only [hids] at hlenc
  simp only [hlen] at hmadec
  simp only [← hlb] at hless hnext hlenc hmadec hdel
  have HL3 := Lib.hid (show O1.lb = lb by rw [hlb, hlb3, HL2.out])
  have HK := Lib.hid hs3.kept
  have HIV := Lib.hid hs3.inv
  have H1 := Lib.hid hless
  have H2 := Lib.hid hnext
  have H3 := Lib.hid hlenc
  have H4 := Lib.hid hmadec
  have H5 := Lib.hid hdel
  clear hs3 hid3 hm3 hids hlen hlb hlb3 hless hnext hlenc hmadec hdel
  rw [HM2.out, HL2.out, HL3.out]
  go_wp2_with fail
  refine H1.out.mono ?_
  rintro _ w4 ⟨rfl, m1, rfl⟩
  go_wp2_with fail
  refine (H2.out _ (HIV.out.drewN m1)).mono ?_
  rintro _ w5 ⟨rfl, m2, rfl⟩
  go_wp2_with fail
  refine (H3.out _ (HIV.out.drewN (m1 + m2))).mono ?_
  rintro _ w6 ⟨rfl, rfl⟩
  go_wp2_with fail
  refine (H4.out _ (HIV.out.drewN (m1 + m2))).mono ?_
  rintro _ w7 ⟨rfl, rfl⟩
  go_wp2_with fail
  refine (H5.out _ (HIV.out.drewN (m1 + m2))).mono ?_
  rintro _ w8 ⟨rfl, rfl⟩
  go_wp2
  go_ret
  exact ⟨rfl, HK.out.drewN _⟩
end Go.Proofs.Ytijceljhpbdnnaa
