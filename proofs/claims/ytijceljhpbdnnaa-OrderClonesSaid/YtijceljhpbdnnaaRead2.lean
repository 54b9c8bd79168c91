/-
  Contracts of Next, Prev, Less, Has, Len, Made, Moves, Tags over their callees' contracts. Conditions: each theorem's own hypotheses on memory.
-/
import Derived.Test.YtijceljhpbdnnaaRead
namespace Go.Proofs.Ytijceljhpbdnnaa
open Go.RowKit

set_option maxHeartbeats 400000 in
theorem beside_none41 (l s : Value) (sb : Nat) (w : World)
    (hf : Calls Try.prog 34 #[l, s] w fun e w' => e = .returned (.pointer (some ⟨sb, 0, none⟩)) ∧ w = w')
    (hg : Calls Try.prog 41 #[.pointer (some ⟨sb, 0, none⟩)] w fun e w' => e = .returned (.pointer none) ∧ ∃ m, w' = w.drewN m) :
    Calls Try.prog 40 #[l, s, .func (.func 41) #[] #[]] w fun e w' => e = .returned (.tuple #[.int .i64 0, .int .i64 3]) ∧ ∃ m, w' = w.drewN m := by
  have Hf := Lib.hid hf
  have Hg := Lib.hid hg
  clear hf hg
  go_enter Try.func40, Try.ntmps40
  go_wp2_with (first | (go_at_call 34; refine Hf.out.mono ?_; rintro e w' ⟨rfl, rfl⟩) | (go_at_call 41; refine Hg.out.mono ?_; rintro e w' ⟨rfl, m, rfl⟩))
  go_ret2
  exact ⟨rfl, _, rfl⟩
set_option maxHeartbeats 400000 in
theorem beside_yes41 (l s : Value) (sb x : Nat) (v : Int) (w : World) (hx : w.cell? ⟨x, 0, none⟩ = some (.int .i64 v))
    (hf : Calls Try.prog 34 #[l, s] w fun e w' => e = .returned (.pointer (some ⟨sb, 0, none⟩)) ∧ w = w')
    (hg : Calls Try.prog 41 #[.pointer (some ⟨sb, 0, none⟩)] w fun e w' => e = .returned (.pointer (some ⟨x, 0, none⟩)) ∧ ∃ m, w' = w.drewN m) :
    Calls Try.prog 40 #[l, s, .func (.func 41) #[] #[]] w fun e w' => e = .returned (.tuple #[.int .i64 v, .int .i64 0]) ∧ ∃ m, w' = w.drewN m := by
  have Hf := Lib.hid hf
  have Hg := Lib.hid hg
  clear hf hg
  go_enter Try.func40, Try.ntmps40
  go_wp2_with (first | (go_at_call 34; refine Hf.out.mono ?_; rintro e w' ⟨rfl, rfl⟩) | (go_at_call 41; refine Hg.out.mono ?_; rintro e w' ⟨rfl, m, rfl⟩))
  go_ret2
  exact ⟨rfl, _, rfl⟩
set_option maxHeartbeats 400000 in
theorem beside_none42 (l s : Value) (sb : Nat) (w : World)
    (hf : Calls Try.prog 34 #[l, s] w fun e w' => e = .returned (.pointer (some ⟨sb, 0, none⟩)) ∧ w = w')
    (hg : Calls Try.prog 42 #[.pointer (some ⟨sb, 0, none⟩)] w fun e w' => e = .returned (.pointer none) ∧ ∃ m, w' = w.drewN m) :
    Calls Try.prog 40 #[l, s, .func (.func 42) #[] #[]] w fun e w' => e = .returned (.tuple #[.int .i64 0, .int .i64 3]) ∧ ∃ m, w' = w.drewN m := by
  have Hf := Lib.hid hf
  have Hg := Lib.hid hg
  clear hf hg
  go_enter Try.func40, Try.ntmps40
  go_wp2_with (first | (go_at_call 34; refine Hf.out.mono ?_; rintro e w' ⟨rfl, rfl⟩) | (go_at_call 42; refine Hg.out.mono ?_; rintro e w' ⟨rfl, m, rfl⟩))
  go_ret2
  exact ⟨rfl, _, rfl⟩
set_option maxHeartbeats 400000 in
theorem beside_yes42 (l s : Value) (sb x : Nat) (v : Int) (w : World) (hx : w.cell? ⟨x, 0, none⟩ = some (.int .i64 v))
    (hf : Calls Try.prog 34 #[l, s] w fun e w' => e = .returned (.pointer (some ⟨sb, 0, none⟩)) ∧ w = w')
    (hg : Calls Try.prog 42 #[.pointer (some ⟨sb, 0, none⟩)] w fun e w' => e = .returned (.pointer (some ⟨x, 0, none⟩)) ∧ ∃ m, w' = w.drewN m) :
    Calls Try.prog 40 #[l, s, .func (.func 42) #[] #[]] w fun e w' => e = .returned (.tuple #[.int .i64 v, .int .i64 0]) ∧ ∃ m, w' = w.drewN m := by
  have Hf := Lib.hid hf
  have Hg := Lib.hid hg
  clear hf hg
  go_enter Try.func40, Try.ntmps40
  go_wp2_with (first | (go_at_call 34; refine Hf.out.mono ?_; rintro e w' ⟨rfl, rfl⟩) | (go_at_call 42; refine Hg.out.mono ?_; rintro e w' ⟨rfl, m, rfl⟩))
  go_ret2
  exact ⟨rfl, _, rfl⟩
set_option maxHeartbeats 400000 in
theorem next_of (l s : Value) (u v : Int) (w : World)
    (hf : Calls Try.prog 40 #[l, s, .func (.func 41) #[] #[]] w fun e w' => e = .returned (.tuple #[.int .i64 u, .int .i64 v]) ∧ ∃ m, w' = w.drewN m) :
    Calls Try.prog 21 #[l, s] w fun e w' => e = .returned (.tuple #[.int .i64 u, .int .i64 v]) ∧ ∃ m, w' = w.drewN m := by
  have Hf := Lib.hid hf
  clear hf
  go_enter Try.func21, Try.ntmps21
  go_wp2_with (go_at_call 40; refine Hf.out.mono ?_; rintro e w' ⟨rfl, m, rfl⟩)
  go_ret2
  exact ⟨rfl, _, rfl⟩
set_option maxHeartbeats 400000 in
theorem prev_of (l s : Value) (u v : Int) (w : World)
    (hf : Calls Try.prog 40 #[l, s, .func (.func 42) #[] #[]] w fun e w' => e = .returned (.tuple #[.int .i64 u, .int .i64 v]) ∧ ∃ m, w' = w.drewN m) :
    Calls Try.prog 22 #[l, s] w fun e w' => e = .returned (.tuple #[.int .i64 u, .int .i64 v]) ∧ ∃ m, w' = w.drewN m := by
  have Hf := Lib.hid hf
  clear hf
  go_enter Try.func22, Try.ntmps22
  go_wp2_with (go_at_call 40; refine Hf.out.mono ?_; rintro e w' ⟨rfl, m, rfl⟩)
  go_ret2
  exact ⟨rfl, _, rfl⟩
set_option maxHeartbeats 400000 in
theorem has_of (l s : Value) (p : Option Addr) (w : World)
    (hf : Calls Try.prog 34 #[l, s] w fun e w' => e = .returned (.pointer p) ∧ w = w') :
    Calls Try.prog 25 #[l, s] w fun e w' => e = .returned (.bool p.isSome) ∧ w = w' := by
  have Hf := Lib.hid hf
  clear hf
  go_enter Try.func25, Try.ntmps25
  go_wp2_with (go_at_call 34; refine Hf.out.mono ?_; rintro e w' ⟨rfl, rfl⟩)
  go_ret
  exact ⟨by cases p <;> rfl, rfl⟩
set_option maxHeartbeats 400000 in
theorem len_at (lb : Nat) (v : Int) (w : World) (h : w.cell? ⟨lb, 4, none⟩ = some (.int .i64 v)) :
    Calls Try.prog 23 #[.pointer (some ⟨lb, 0, none⟩)] w fun e w' => e = .returned (.int .i64 v) ∧ w = w' := by
  go_enter Try.func23, Try.ntmps23
  go_wp2
  go_ret
  exact ⟨rfl, rfl⟩
set_option maxHeartbeats 400000 in
theorem made_at (lb : Nat) (a : Option Addr) (n c : Nat) (w : World) (h : w.cell? ⟨lb, 3, none⟩ = some (.slice a n c)) :
    Calls Try.prog 14 #[.pointer (some ⟨lb, 0, none⟩)] w fun e w' => e = .returned (.int .i64 n) ∧ w = w' := by
  go_enter Try.func14, Try.ntmps14
  go_wp2
  go_ret
  exact ⟨rfl, rfl⟩
set_option maxHeartbeats 400000 in
theorem moves_at (lb : Nat) (v : Int) (w : World) (h : w.cell? ⟨lb, 2, none⟩ = some (.int .i64 v)) :
    Calls Try.prog 17 #[.pointer (some ⟨lb, 0, none⟩)] w fun e w' => e = .returned (.int .i64 v) ∧ w = w' := by
  go_enter Try.func17, Try.ntmps17
  go_wp2
  go_ret
  exact ⟨rfl, rfl⟩
set_option maxHeartbeats 400000 in
theorem len_nil (w : World) : Calls Try.prog 23 #[.pointer none] w fun e w' => e = .returned (.int .i64 0) ∧ w = w' := by
  go_enter Try.func23, Try.ntmps23
  go_wp2
  go_ret
  exact ⟨rfl, rfl⟩
set_option maxHeartbeats 400000 in
theorem made_nil (w : World) : Calls Try.prog 14 #[.pointer none] w fun e w' => e = .returned (.int .i64 0) ∧ w = w' := by
  go_enter Try.func14, Try.ntmps14
  go_wp2
  go_ret
  exact ⟨rfl, rfl⟩
set_option maxHeartbeats 400000 in
theorem moves_nil (w : World) : Calls Try.prog 17 #[.pointer none] w fun e w' => e = .returned (.int .i64 0) ∧ w = w' := by
  go_enter Try.func17, Try.ntmps17
  go_wp2
  go_ret
  exact ⟨rfl, rfl⟩
set_option maxHeartbeats 400000 in
theorem tags_no (l s : Value) (w : World)
    (hf : Calls Try.prog 34 #[l, s] w fun e w' => e = .returned (.pointer none) ∧ w = w') :
    Calls Try.prog 27 #[l, s] w fun e w' => e = .returned (.tuple #[.int .i64 0, .int .i64 0, .int .i64 180]) ∧ w = w' := by
  have Hf := Lib.hid hf
  clear hf
  go_enter Try.func27, Try.ntmps27
  go_wp2_with (go_at_call 34; refine Hf.out.mono ?_; rintro e w' ⟨rfl, rfl⟩)
  go_ret3
  exact ⟨rfl, rfl⟩
set_option maxHeartbeats 400000 in
theorem tags_yes (l s : Value) (sb g : Nat) (t m : Int) (w : World)
    (hf : Calls Try.prog 34 #[l, s] w fun e w' => e = .returned (.pointer (some ⟨sb, 0, none⟩)) ∧ w = w')
    (h1 : w.cell? ⟨sb, 2, none⟩ = some (.pointer (some ⟨g, 0, none⟩))) (h2 : w.cell? ⟨g, 0, none⟩ = some (.int .i64 t)) (h3 : w.cell? ⟨sb, 1, none⟩ = some (.int .i64 m)) :
    Calls Try.prog 27 #[l, s] w fun e w' => e = .returned (.tuple #[.int .i64 t, .int .i64 m, .int .i64 0]) ∧ ∃ m, w' = w.drewN m := by
  have Hf := Lib.hid hf
  clear hf
  go_enter Try.func27, Try.ntmps27
  go_wp2_with (go_at_call 34; refine Hf.out.mono ?_; rintro e w' ⟨rfl, rfl⟩)
  go_quiet (fail)
  go_wp2
  go_ret3
  exact ⟨rfl, _, rfl⟩
set_option maxHeartbeats 400000 in
theorem less_no1 (l s t : Value) (q : Option Addr) (w : World)
    (hf : Calls Try.prog 34 #[l, s] w fun e w' => e = .returned (.pointer none) ∧ w = w')
    (hg : Calls Try.prog 34 #[l, t] w fun e w' => e = .returned (.pointer q) ∧ w = w') :
    Calls Try.prog 20 #[l, s, t] w fun e w' => e = .returned (.tuple #[.bool false, .int .i64 180]) ∧ w = w' := by
  have Hf := Lib.hid hf
  have Hg := Lib.hid hg
  clear hf hg
  go_enter Try.func20, Try.ntmps20
  go_wp2_with fail
  refine Hf.out.mono ?_; rintro e w' ⟨rfl, rfl⟩
  go_wp2_with fail
  refine Hg.out.mono ?_; rintro e w' ⟨rfl, rfl⟩
  go_wp2
  go_ret2
  exact ⟨rfl, rfl⟩
set_option maxHeartbeats 400000 in
theorem less_no2 (l s t : Value) (p : Addr) (w : World)
    (hf : Calls Try.prog 34 #[l, s] w fun e w' => e = .returned (.pointer (some p)) ∧ w = w')
    (hg : Calls Try.prog 34 #[l, t] w fun e w' => e = .returned (.pointer none) ∧ w = w') :
    Calls Try.prog 20 #[l, s, t] w fun e w' => e = .returned (.tuple #[.bool false, .int .i64 180]) ∧ w = w' := by
  have Hf := Lib.hid hf
  have Hg := Lib.hid hg
  clear hf hg
  go_enter Try.func20, Try.ntmps20
  go_wp2_with fail
  refine Hf.out.mono ?_; rintro e w' ⟨rfl, rfl⟩
  go_wp2_with fail
  refine Hg.out.mono ?_; rintro e w' ⟨rfl, rfl⟩
  go_wp2
  go_ret2
  exact ⟨rfl, rfl⟩
set_option maxHeartbeats 400000 in
theorem less_yes (l s t : Value) (p q : Addr) (b : Bool) (w : World)
    (hf : Calls Try.prog 34 #[l, s] w fun e w' => e = .returned (.pointer (some p)) ∧ w = w')
    (hg : Calls Try.prog 34 #[l, t] w fun e w' => e = .returned (.pointer (some q)) ∧ w = w')
    (hl : Calls Try.prog 39 #[.pointer (some p), .pointer (some q)] w fun e w' => e = .returned (.bool b) ∧ ∃ m, w' = w.drewN m) :
    Calls Try.prog 20 #[l, s, t] w fun e w' => e = .returned (.tuple #[.bool b, .int .i64 0]) ∧ ∃ m, w' = w.drewN m := by
  have Hf := Lib.hid hf
  have Hg := Lib.hid hg
  have Hl := Lib.hid hl
  clear hf hg hl
  go_enter Try.func20, Try.ntmps20
  go_wp2_with fail
  refine Hf.out.mono ?_; rintro e w' ⟨rfl, rfl⟩
  go_wp2_with fail
  refine Hg.out.mono ?_; rintro e w' ⟨rfl, rfl⟩
  go_wp2_with (go_at_call 39; refine Hl.out.mono ?_; rintro e w' ⟨rfl, m, rfl⟩)
  go_ret2
  exact ⟨rfl, _, rfl⟩
end Go.Proofs.Ytijceljhpbdnnaa
