/-
  OrderNil, walked. No condition.
-/
import Derived.Test.YtijceljhpbdnnaaSane
import Derived.Test.YtijceljhpbdnnaaNil
namespace Go.Proofs.Ytijceljhpbdnnaa
open Go.RowKit

theorem next_nil (s : Int) (w : World) : Calls Try.prog 21 #[.pointer none, .int .i64 s] w fun e w' => e = .returned (.tuple #[.int .i64 0, .int .i64 180]) ∧ ∃ m, w' = w.drewN m :=
  next_of _ _ _ _ w ((beside_no 41 _ _ w (find_nil s w)).mono fun _ _ ⟨h1, h2⟩ => ⟨h1, 0, h2.symm⟩)
theorem prev_nil (s : Int) (w : World) : Calls Try.prog 22 #[.pointer none, .int .i64 s] w fun e w' => e = .returned (.tuple #[.int .i64 0, .int .i64 180]) ∧ ∃ m, w' = w.drewN m :=
  prev_of _ _ _ _ w ((beside_no 42 _ _ w (find_nil s w)).mono fun _ _ ⟨h1, h2⟩ => ⟨h1, 0, h2.symm⟩)
set_option maxRecDepth 100000 in
set_option maxHeartbeats 4000000 in
theorem orderNil_of (w : World) (kd a b : Int) (md : Bool) : Calls Try.prog 11 #[.agg #[.int .i64 kd, .int .i64 a, .int .i64 b, .bool md]] w fun e w' => e = .returned (.bool true) ∧ Kept (fun _ => False) w w' := by
  go_enter Try.func11, Try.ntmps11
  go_wp2_with (first
    | (go_at_call 16; refine (insert_no _ _ _ (find_nil a _)).mono ?_; rintro _ w' ⟨rfl, rfl⟩)
    | (go_at_call 28; refine (db_no1 _ _ _ none _ (find_nil a _) (find_nil b _)).mono ?_; rintro _ w' ⟨rfl, rfl⟩)
    | (go_at_call 20; refine (less_no1 _ _ _ none _ (find_nil a _) (find_nil b _)).mono ?_; rintro _ w' ⟨rfl, rfl⟩)
    | (go_at_call 21; refine (next_nil a _).mono ?_; rintro _ w' ⟨rfl, m, rfl⟩)
    | (go_at_call 22; refine (prev_nil a _).mono ?_; rintro _ w' ⟨rfl, m, rfl⟩)
    | (go_at_call 27; refine (tags_no _ _ _ (find_nil a _)).mono ?_; rintro _ w' ⟨rfl, rfl⟩)
    | (go_at_call 24; refine (delete_no _ _ _ (find_nil a _)).mono ?_; rintro _ w' ⟨rfl, rfl⟩)
    | (go_at_call 12; refine (sane_of _).mono ?_; rintro _ w' ⟨rfl, hk⟩; have HK := Lib.hid hk; clear hk)
    | (go_at_call 25; refine (has_of _ _ none _ (find_nil a _)).mono ?_; rintro _ w' ⟨rfl, rfl⟩)
    | (go_at_call 23; refine (len_nil _).mono ?_; rintro _ w' ⟨rfl, rfl⟩)
    | (go_at_call 14; refine (made_nil _).mono ?_; rintro _ w' ⟨rfl, rfl⟩)
    | (go_at_call 17; refine (moves_nil _).mono ?_; rintro _ w' ⟨rfl, rfl⟩)
    | (go_at_call 19; refine (stamps_nil _).mono ?_; rintro _ w' ⟨rfl, rfl⟩)
    | (go_at_call 26; refine (groups_nil _).mono ?_; rintro _ w' ⟨rfl, rfl⟩)
    | (go_at_call 29; refine (clone_nil _).mono ?_; rintro _ w' ⟨rfl, rfl⟩))
  go_ret
  exact ⟨rfl, (((Kept.refl _ w).alloc _).drewN _).trans HK.out (fun _ _ h => h)⟩
end Go.Proofs.Ytijceljhpbdnnaa
