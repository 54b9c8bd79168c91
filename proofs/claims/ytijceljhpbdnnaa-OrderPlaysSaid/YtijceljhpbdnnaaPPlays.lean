/-
  DERIVED. OrderPlays, as the row states it. No condition.
-/
import Derived.Test.YtijceljhpbdnnaaOpenOps
import Derived.Test.YtijceljhpbdnnaaSame
import Derived.Test.YtijceljhpbdnnaaSane
namespace Go.Proofs.Ytijceljhpbdnnaa
open Go.ChangeShapes Go.WideShapes Go.ChangeAt Go.RowKit

theorem OpsAt.on {w w' : World} {v : Value} {n : Nat} (h : OpsAt w v n) (hK : Kept (fun _ => False) w w') : OpsAt w' v n := by
  rcases h with h | ⟨a, cap, rfl, h1, h2, h3⟩
  · exact .inl h
  · exact .inr ⟨a, cap, rfl, h1, h2, fun j hj => (h3 j hj).on (h3 j hj).lt hK⟩
set_option maxHeartbeats 2000000 in
theorem orderPlays_of {w : World} {v : Value} {n : Nat} (h : OpsAt w v n) : Calls Try.prog 4 #[v] w fun e w' => e = .returned (.bool true) ∧ Kept (fun _ => False) w w' := by
  have hp := fun (W : World) (hK : Kept (fun _ => False) w W) => played_of (h.on hK)
  have hq := fun (W : World) (xb : Nat) (O : Ord) (g cap : Nat) (hB : Both W xb O g cap) => same_of hB
  have HP := Lib.hid hp
  have HQ := Lib.hid hq
  clear h hp hq
  go_enter Try.func4, Try.ntmps4
  go_wp2_with fail
  refine (sane_of _).mono ?_
  rintro _ w1 ⟨rfl, hK1⟩
  have HK1 := Lib.hid hK1
  clear hK1
  go_wp2_with fail
  refine (HP.out _ HK1.out).mono ?_
  rintro _ w2 ⟨xb, O, g, cap, rfl, hN, _⟩
  have HN := Lib.hid hN
  clear hN
  go_wp2_with fail
  refine (HQ.out _ _ _ _ _ HN.out.both).mono ?_
  rintro _ w3 ⟨rfl, hK3⟩
  have HK3 := Lib.hid hK3
  clear hK3
  go_wp2
  go_ret
  exact ⟨rfl, (HK1.out.trans HN.out.kept (fun _ _ x => x)).trans HK3.out (fun _ _ x => x)⟩
set_option maxRecDepth 100000 in
theorem orderPlays_lifted (os : Os) (started : os.Started) (H : Type) (enc : TypeId × Value → H) :
    ReturnsInHanded {} Try.checked os 4 .any (Rows.orderPlaysSpec.pre6 enc Try.prog Try.f4 Rows.orderPlaysRow.domain false) (Rows.orderPlaysSpec.post enc Try.prog Try.f4 false true false false) := by
  refine returnsInHanded_of_change (C := Try.checked) own started (by kernel_rfl) Try.func4
    (ChangeSpec.witness6 (enc := enc) (C := Try.checked) false ⟨#[], #[.slice none 0 0], []⟩ 8 (by kernel_rfl) (by kernel_rfl) (by kernel_rfl) (by kernel_rfl)) ?_
  intro W base args ds gs before hval0 hW hcnd _
  have hval : ∀ (j : Nat) t v, Try.f4.params[j]? = some t → args[j]? = some v → Value.okWide Try.prog W .any base t v := hval0
  have hW' := hW
  obtain ⟨p, q, hA0, hV, rfl, hfz, hnd⟩ := hW
  have hA : DataW.TrodAll enc Try.prog W 0 (fun _ => true) true Try.f4.params.toList args.toList ds p := hA0
  rw [Try.params4] at hA hval
  obtain ⟨v0, d0, rfl, rfl, h0⟩ := trodAll_one hA
  obtain ⟨rfl, rfl⟩ := trodVars_none hV
  have hlt : ∀ x ∈ p, x.block < W.heap.size := fun x hx => by simpa using hW'.lt x (by simpa using hx)
  obtain ⟨n, hops⟩ := ops_open (hval 0 22 v0 rfl rfl) h0
  clear hA0 hval0
  simp only [List.append_nil] at hW'
  refine (orderPlays_of hops).mono fun e W' ⟨he, hk⟩ => ?_
  subst he
  have hb : Below W.heap.size W W' := hk.below (Nat.le_refl _) (fun _ h => h.elim)
  have harg : DataW.Trod enc Try.prog W' 0 (fun b => decide (b < W.heap.size)) true 22 v0 d0 p :=
    Below.trod laidOut (by kernel_rfl) (of_decide_eq_true (by kernel_rfl)) h0 hb hlt
  refine ⟨_, rfl, _, _, _, [], _, [], hW', ?_, trodAll_mk1 harg, rfl, hb.frame _, fun h => by cases h⟩
  exact trodAll_mk1 (shut_bool Try.underlying4 _)
theorem orderPlays_holds : Rows.OrderPlaysSaid :=
  OpenClaim.holds_of_wide 4 Try.f4 rfl rfl rfl rfl rfl rfl rfl ⟨rfl, rfl, rfl, rfl, rfl⟩ rfl rfl rfl rfl rfl (by kernel_rfl) Try.func4 (by kernel_rfl)
    (of_decide_eq_true (by kernel_rfl)) (by unfold Func.isWrapper; first | (rw [if_pos (by decide +kernel)]; kernel_rfl) | (rw [if_neg (by decide +kernel)]; exact ⟨rfl, rfl⟩))
    (fun os started H enc _ => orderPlays_lifted os started H enc)
end Go.Proofs.Ytijceljhpbdnnaa
