/-
  pick and stamps. Conditions: each theorem's own.
-/
import Derived.Test.YtijceljhpbdnnaaRefE
namespace Go.Proofs.Ytijceljhpbdnnaa
open Go.RowKit

/-- An int of the machine. -/
def I64 (c : Int) : Prop := -9223372036854775808 ≤ c ∧ c ≤ 9223372036854775807
/-- What pick answers. -/
def pickN (c : Int) (n : Nat) : Nat := (if c < 0 then (-(c + 1)).toNat else c.toNat) % n
theorem pickN_lt {c : Int} {n : Nat} (h : 0 < n) : pickN c n < n := Nat.mod_lt _ h
set_option maxHeartbeats 400000 in
theorem pick_of (c : Int) (n : Nat) (hc : I64 c) (hn : 0 < n) (hm : n ≤ 1000000) (w : World) : Calls Try.prog 15 #[.int .i64 c, .int .i64 n] w fun e w' => e = .returned (.int .i64 (pickN c n : Nat)) ∧ w' = w := by
  obtain ⟨c1, c2⟩ := hc
  by_cases h : c < 0
  · have hp : ((pickN c n : Nat) : Int) = -((c + 1).tmod n) := by
      unfold pickN
      rw [if_pos h, Int.natCast_emod, Int.toNat_of_nonneg (by omega), ← Int.neg_tmod, Int.tmod_eq_emod_of_nonneg (by omega)]
    have e1 : IntKind.i64.wrap (c + 1) = c + 1 := IntWalk.i64_in _ (by omega)
    have e2 : IntKind.i64.wrap (-(c + 1)) = -(c + 1) := IntWalk.i64_in _ (by omega)
    have hn0 : ¬ (n : Int) = 0 := by omega
    have HP := Lib.hid hp
    clear hp
    go_enter Try.func15, Try.ntmps15
    go_wp2
    go_ret
    exact ⟨by rw [HP.out]; rfl, rfl⟩
  · have hp : ((pickN c n : Nat) : Int) = c % n := by
      unfold pickN
      rw [if_neg h, Int.natCast_emod, Int.toNat_of_nonneg (by omega)]
    have hn0 : ¬ (n : Int) = 0 := by omega
    have HP := Lib.hid hp
    clear hp
    go_enter Try.func15, Try.ntmps15
    go_wp2
    go_ret
    exact ⟨by rw [HP.out]; rfl, rfl⟩
/-- An operation, as a value. -/
abbrev opv (kd a b : Int) (md : Bool) : Value := .agg #[.int .i64 kd, .int .i64 a, .int .i64 b, .bool md]
set_option maxHeartbeats 400000 in
theorem stamps_of (kd a b : Int) (md : Bool) (n : Nat) (ha : I64 a) (hb : I64 b) (hn : 0 < n) (hm : n ≤ 1000000) (w : World) :
    Calls Try.prog 45 #[opv kd a b md, .int .i64 n] w fun e w' => (∃ x y : Int, e = .returned (.tuple #[.int .i64 x, .int .i64 y])) ∧ Kept (fun _ => False) w w' := by
  have H1 := Lib.hid fun (c : Int) (hc : I64 c) (W : World) => pick_of c n hc hn hm W
  clear hn hm
  cases md
  · go_enter Try.func45, Try.ntmps45
    go_wp2
    go_quiet (fail)
    go_wp2
    go_ret2
    exact ⟨⟨_, _, rfl⟩, ((Kept.refl _ _).alloc _).drewN _⟩
  · go_enter Try.func45, Try.ntmps45
    go_wp2
    go_quiet ((go_at_call 15; exact Calls.quiet_of_same (H1.out _ (by assumption) _)))
    go_wp2
    go_ret2
    exact ⟨⟨_, _, rfl⟩, ((Kept.refl _ _).alloc _).drewN _⟩
end Go.Proofs.Ytijceljhpbdnnaa
