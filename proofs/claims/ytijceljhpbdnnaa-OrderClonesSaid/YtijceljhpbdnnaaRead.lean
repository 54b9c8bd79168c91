/-
  Contracts of the functions of package order that only read: find, less, place, follow, ahead, beside. Conditions: each theorem's own hypotheses on memory.
-/
import Derived.Test.YtijceljhpbdnnaaHeap
namespace Go.Proofs.Ytijceljhpbdnnaa
open Go.RowKit

set_option maxHeartbeats 400000 in
theorem find_nil (s : Int) (w : World) :
    Calls Try.prog 34 #[.pointer none, .int .i64 s] w fun e w' => e = .returned (.pointer none) ∧ w = w' := by
  go_enter Try.func34, Try.ntmps34
  go_wp2
  go_ret
  exact ⟨rfl, rfl⟩
set_option maxHeartbeats 400000 in
theorem find_neg (lb : Nat) (s : Int) (w : World) (h : s < 0) :
    Calls Try.prog 34 #[.pointer (some ⟨lb, 0, none⟩), .int .i64 s] w fun e w' => e = .returned (.pointer none) ∧ w = w' := by
  go_enter Try.func34, Try.ntmps34
  go_wp2
  go_ret
  exact ⟨rfl, rfl⟩
set_option maxHeartbeats 400000 in
theorem find_big (lb : Nat) (s : Int) (a : Option Addr) (n c : Nat) (w : World) (h0 : ¬ s < 0) (h : (n : Int) ≤ s)
    (hc : w.cell? ⟨lb, 3, none⟩ = some (.slice a n c)) :
    Calls Try.prog 34 #[.pointer (some ⟨lb, 0, none⟩), .int .i64 s] w fun e w' => e = .returned (.pointer none) ∧ w = w' := by
  go_enter Try.func34, Try.ntmps34
  go_wp2
  go_ret
  exact ⟨rfl, rfl⟩
set_option maxHeartbeats 400000 in
theorem find_at (lb ab : Nat) (s : Nat) (n c : Nat) (p : Option Addr) (w : World) (h : s < n)
    (hc : w.cell? ⟨lb, 3, none⟩ = some (.slice (some ⟨ab, 0, none⟩) n c)) (hx : w.cell? ⟨ab, s, none⟩ = some (.pointer p)) :
    Calls Try.prog 34 #[.pointer (some ⟨lb, 0, none⟩), .int .i64 s] w fun e w' => e = .returned (.pointer p) ∧ w = w' := by
  go_enter Try.func34, Try.ntmps34
  go_wp2
  go_ret
  exact ⟨rfl, rfl⟩
/-- Where the stamp s is, by the list's table P of blocks. -/
def look (P : List (Option Nat)) (s : Int) : Option Nat := if 0 ≤ s then (P[s.toNat]?).join else none
theorem find_any (lb ab c : Nat) (P : List (Option Nat)) (s : Int) (w : World)
    (hc : w.cell? ⟨lb, 3, none⟩ = some (.slice (some ⟨ab, 0, none⟩) P.length c)) (hx : ∀ (j : Nat) p, P[j]? = some p → w.cell? ⟨ab, j, none⟩ = some (.pointer (optp p))) :
    Calls Try.prog 34 #[.pointer (some ⟨lb, 0, none⟩), .int .i64 s] w fun e w' => e = .returned (.pointer (optp (look P s))) ∧ w = w' := by
  by_cases h0 : s < 0
  · have : look P s = none := by unfold look; rw [if_neg (by omega)]
    rw [this]; exact find_neg lb s w h0
  · obtain ⟨k, rfl⟩ := Int.eq_ofNat_of_zero_le (show 0 ≤ s by omega)
    by_cases hk : k < P.length
    · have hp : P[k]? = some P[k] := List.getElem?_eq_getElem hk
      have : look P k = P[k] := by unfold look; rw [if_pos (by omega)]; simp [hp]
      rw [this]; exact find_at lb ab k P.length c _ w hk hc (hx k _ hp)
    · have : look P k = none := by unfold look; rw [if_pos (by omega)]; simp [List.getElem?_eq_none (Nat.le_of_not_lt hk)]
      rw [this]; exact find_big lb k _ _ _ w h0 (by omega) hc

set_option maxHeartbeats 400000 in
theorem less_same (a b g : Nat) (m n : Int) (w : World) (hg : clean w g)
    (ha : w.cell? ⟨a, 2, none⟩ = some (.pointer (some ⟨g, 0, none⟩))) (hb : w.cell? ⟨b, 2, none⟩ = some (.pointer (some ⟨g, 0, none⟩)))
    (hma : w.cell? ⟨a, 1, none⟩ = some (.int .i64 m)) (hmb : w.cell? ⟨b, 1, none⟩ = some (.int .i64 n)) :
    Calls Try.prog 39 #[.pointer (some ⟨a, 0, none⟩), .pointer (some ⟨b, 0, none⟩)] w fun e w' => e = .returned (.bool (decide (m < n))) ∧ ∃ k, w' = w.drewN k := by
  go_enter Try.func39, Try.ntmps39
  go_wp2
  go_quiet (fail)
  go_wp2
  go_quiet (fail)
  go_wp2
  go_ret
  exact ⟨rfl, _, World.drewN_drewN _ _ _⟩
set_option maxHeartbeats 400000 in
theorem less_other (a b g h : Nat) (m n : Int) (w : World) (hg : clean w g) (hh : clean w h) (hgh : ¬ g = h)
    (ha : w.cell? ⟨a, 2, none⟩ = some (.pointer (some ⟨g, 0, none⟩))) (hb : w.cell? ⟨b, 2, none⟩ = some (.pointer (some ⟨h, 0, none⟩)))
    (hma : w.cell? ⟨g, 0, none⟩ = some (.int .i64 m)) (hmb : w.cell? ⟨h, 0, none⟩ = some (.int .i64 n)) :
    Calls Try.prog 39 #[.pointer (some ⟨a, 0, none⟩), .pointer (some ⟨b, 0, none⟩)] w fun e w' => e = .returned (.bool (decide (m < n))) ∧ ∃ k, w' = w.drewN k := by
  go_enter Try.func39, Try.ntmps39
  go_wp2
  go_quiet (fail)
  go_wp2
  go_quiet (fail)
  go_wp2
  go_ret
  exact ⟨rfl, _, World.drewN_drewN _ _ _⟩

set_option maxHeartbeats 400000 in
theorem index_at (ab off cap s : Nat) (bs : List Nat) (k : Nat) (w : World) (hk : k < bs.length) (hcap : bs.length ≤ 32)
    (hs : bs[k]? = some s) (hfirst : ∀ (j : Nat), j < k → bs[j]? ≠ some s) (hcl : clean w s) (hcls : ∀ (j x : Nat), bs[j]? = some x → clean w x)
    (hc : ∀ (j x : Nat), bs[j]? = some x → w.cell? ⟨ab, off + j, none⟩ = some (.pointer (some ⟨x, 0, none⟩))) :
    Calls Try.prog 53 #[.slice (some ⟨ab, off, none⟩) bs.length cap, .pointer (some ⟨s, 0, none⟩)] w fun e w' => e = .returned (.int .i64 k) ∧ w' = w := by
  have Hc := Lib.hid hc; clear hc
  have Hf := Lib.hid hfirst; clear hfirst
  have Hs := Lib.hid hs; clear hs
  have Hl := Lib.hid hcls; clear hcls
  generalize hL : bs.length = L at *
  have HL := Lib.hid hL; clear hL
  go_enter Try.func53, Try.ntmps53
  go_wp2
  go_loop [5, 8] (fun _ i => ∃ j : Nat, j ≤ k ∧ i = .int .i64 j) (fun _ i => L - (intOf i).toNat)
  case atStart => exact ⟨0, Nat.zero_le _, rfl⟩
  case round =>
    obtain ⟨j, hj, rfl⟩ := hrel
    obtain ⟨x, hx⟩ : ∃ x, bs[j]? = some x := ⟨bs[j]'(by rw [HL.out]; omega), List.getElem?_eq_getElem _⟩
    have c1 := Hc.out j x hx
    have c2 := Hl.out j x hx
    by_cases hjk : j = k
    · have hxs : x = s := by subst hjk; have := Hs.out; rw [hx] at this; simpa using this
      subst hxs
      subst hjk
      clear hx
      go_wp2
      go_ret
      exact ⟨rfl, rfl⟩
    · have hne : ¬ s = x := fun e => Hf.out j (by omega) (by rw [hx, e])
      clear hx
      go_wp2
      go_round
      case rel => exact ⟨j + 1, by omega, by go_num⟩
      case measure => simp [intOf]; omega
set_option maxHeartbeats 400000 in
theorem place_at (gb s : Nat) (bs : List Nat) (k : Nat) (w : World) (hk : k < bs.length) (hcap : bs.length ≤ 32)
    (hs : bs[k]? = some s) (hfirst : ∀ (j : Nat), j < k → bs[j]? ≠ some s) (hcl : clean w s) (hcls : ∀ (j x : Nat), bs[j]? = some x → clean w x)
    (hn : w.cell? ⟨gb, 1, none⟩ = some (.int .i64 bs.length))
    (hc : ∀ (j x : Nat), bs[j]? = some x → w.cell? ⟨gb, 2 + j, none⟩ = some (.pointer (some ⟨x, 0, none⟩))) :
    Calls Try.prog 36 #[.pointer (some ⟨gb, 0, none⟩), .pointer (some ⟨s, 0, none⟩)] w fun e w' => e = .returned (.int .i64 k) ∧ ∃ m, w' = w.drewN m := by
  have H := fun (n : Nat) => index_at gb 2 32 s bs k (w.drewN n) hk hcap hs hfirst hcl hcls hc
  have Hx := Lib.hid H
  clear H hc hcls hfirst hs
  generalize hL : bs.length = L at *
  clear hL
  go_enter Try.func36, Try.ntmps36
  go_wp2
  go_quiet ((go_at_call 53; exact Calls.quiet_of_same (Hx.out _)))
  go_wp2
  go_ret
  exact ⟨rfl, _, rfl⟩
/-- No two stamps of the group lie in one block. -/
def Apart (ss : List Stp) : Prop := ∀ (j k : Nat) x y, ss[j]? = some x → ss[k]? = some y → x.b = y.b → j = k
theorem place_of {w : World} {pv nx : Option Nat} {g : Grp} (hG : GroupAt w pv nx g) {k : Nat} {s : Stp} (hs : g.ss[k]? = some s) (hap : Apart g.ss) :
    Calls Try.prog 36 #[.pointer (some ⟨g.b, 0, none⟩), .pointer (some ⟨s.b, 0, none⟩)] w fun e w' => e = .returned (.int .i64 k) ∧ ∃ m, w' = w.drewN m := by
  obtain ⟨h1, h2, h3⟩ := hG
  have hk : k < g.ss.length := (List.getElem?_eq_some_iff.1 hs).1
  have hl : g.ss.length ≤ 32 := by simp [Grp.arr] at h2; omega
  have hsm : s ∈ g.ss := List.mem_of_getElem? hs
  refine place_at g.b s.b (g.ss.map (·.b)) k w (by simpa using hk) (by simpa using hl) (by simp [hs]) ?_ (stamp_clean (h3 s hsm)) ?_ ?_ ?_
  · intro j hj e
    simp only [List.getElem?_map, Option.map_eq_some_iff] at e
    obtain ⟨x, hx, e⟩ := e
    have := hap j k x s hx hs e
    omega
  · intro j x e
    simp only [List.getElem?_map, Option.map_eq_some_iff] at e
    obtain ⟨y, hy, rfl⟩ := e
    exact stamp_clean (h3 y (List.mem_of_getElem? hy))
  · simpa using group_c1 h1
  · intro j x e
    simp only [List.getElem?_map, Option.map_eq_some_iff] at e
    obtain ⟨y, hy, rfl⟩ := e
    refine group_ca h1 ?_
    have hj : j < g.ss.length := (List.getElem?_eq_some_iff.1 hy).1
    have hy' : g.ss[j] = y := by have := List.getElem?_eq_some_iff.1 hy; exact this.2
    simp [Grp.arr, List.getElem?_append, hj, hy']

set_option maxHeartbeats 400000 in
theorem follow_in (sb gb k L x : Nat) (w : World) (hL : L ≤ 32) (hk : k + 1 < L)
    (hp : Calls Try.prog 36 #[.pointer (some ⟨gb, 0, none⟩), .pointer (some ⟨sb, 0, none⟩)] w fun e w' => e = .returned (.int .i64 k) ∧ ∃ m, w' = w.drewN m)
    (hi : w.cell? ⟨sb, 2, none⟩ = some (.pointer (some ⟨gb, 0, none⟩)))
    (hn : w.cell? ⟨gb, 1, none⟩ = some (.int .i64 L)) (hx : w.cell? ⟨gb, 2 + (k + 1), none⟩ = some (.pointer (some ⟨x, 0, none⟩))) :
    Calls Try.prog 41 #[.pointer (some ⟨sb, 0, none⟩)] w fun e w' => e = .returned (.pointer (some ⟨x, 0, none⟩)) ∧ ∃ m, w' = w.drewN m := by
  have Hp := Lib.hid hp
  clear hp
  go_enter Try.func41, Try.ntmps41
  go_wp2_with (go_at_call 36; refine Hp.out.mono ?_; rintro e w' ⟨rfl, m, rfl⟩)
  go_ret
  exact ⟨rfl, _, rfl⟩
set_option maxHeartbeats 400000 in
theorem follow_none (sb gb k L : Nat) (w : World) (hL : L ≤ 32) (hk : L = k + 1)
    (hp : Calls Try.prog 36 #[.pointer (some ⟨gb, 0, none⟩), .pointer (some ⟨sb, 0, none⟩)] w fun e w' => e = .returned (.int .i64 k) ∧ ∃ m, w' = w.drewN m)
    (hi : w.cell? ⟨sb, 2, none⟩ = some (.pointer (some ⟨gb, 0, none⟩)))
    (hn : w.cell? ⟨gb, 1, none⟩ = some (.int .i64 L)) (hx : w.cell? ⟨gb, 35, none⟩ = some (.pointer none)) :
    Calls Try.prog 41 #[.pointer (some ⟨sb, 0, none⟩)] w fun e w' => e = .returned (.pointer none) ∧ ∃ m, w' = w.drewN m := by
  have Hp := Lib.hid hp
  subst hk
  clear hp
  go_enter Try.func41, Try.ntmps41
  go_wp2_with (go_at_call 36; refine Hp.out.mono ?_; rintro e w' ⟨rfl, m, rfl⟩)
  go_ret
  exact ⟨rfl, _, rfl⟩
set_option maxHeartbeats 400000 in
theorem follow_next (sb gb k L hb : Nat) (w : World) (p : Option Addr) (hL : L ≤ 32) (hk : L = k + 1)
    (hp : Calls Try.prog 36 #[.pointer (some ⟨gb, 0, none⟩), .pointer (some ⟨sb, 0, none⟩)] w fun e w' => e = .returned (.int .i64 k) ∧ ∃ m, w' = w.drewN m)
    (hi : w.cell? ⟨sb, 2, none⟩ = some (.pointer (some ⟨gb, 0, none⟩)))
    (hn : w.cell? ⟨gb, 1, none⟩ = some (.int .i64 L)) (hx : w.cell? ⟨gb, 35, none⟩ = some (.pointer (some ⟨hb, 0, none⟩)))
    (hy : w.cell? ⟨hb, 2, none⟩ = some (.pointer p)) :
    Calls Try.prog 41 #[.pointer (some ⟨sb, 0, none⟩)] w fun e w' => e = .returned (.pointer p) ∧ ∃ m, w' = w.drewN m := by
  have Hp := Lib.hid hp
  subst hk
  clear hp
  go_enter Try.func41, Try.ntmps41
  go_wp2_with (go_at_call 36; refine Hp.out.mono ?_; rintro e w' ⟨rfl, m, rfl⟩)
  go_ret
  exact ⟨rfl, _, rfl⟩
set_option maxHeartbeats 400000 in
theorem ahead_in (sb gb k x : Nat) (w : World) (hk : k < 31)
    (hp : Calls Try.prog 36 #[.pointer (some ⟨gb, 0, none⟩), .pointer (some ⟨sb, 0, none⟩)] w fun e w' => e = .returned (.int .i64 ((k + 1 : Nat) : Int)) ∧ ∃ m, w' = w.drewN m)
    (hi : w.cell? ⟨sb, 2, none⟩ = some (.pointer (some ⟨gb, 0, none⟩)))
    (hx : w.cell? ⟨gb, 2 + k, none⟩ = some (.pointer (some ⟨x, 0, none⟩))) :
    Calls Try.prog 42 #[.pointer (some ⟨sb, 0, none⟩)] w fun e w' => e = .returned (.pointer (some ⟨x, 0, none⟩)) ∧ ∃ m, w' = w.drewN m := by
  have Hp := Lib.hid hp
  clear hp
  go_enter Try.func42, Try.ntmps42
  go_wp2_with (go_at_call 36; refine Hp.out.mono ?_; rintro e w' ⟨rfl, m, rfl⟩)
  go_ret
  exact ⟨rfl, _, rfl⟩
set_option maxHeartbeats 400000 in
theorem ahead_none (sb gb : Nat) (w : World)
    (hp : Calls Try.prog 36 #[.pointer (some ⟨gb, 0, none⟩), .pointer (some ⟨sb, 0, none⟩)] w fun e w' => e = .returned (.int .i64 0) ∧ ∃ m, w' = w.drewN m)
    (hi : w.cell? ⟨sb, 2, none⟩ = some (.pointer (some ⟨gb, 0, none⟩)))
    (hx : w.cell? ⟨gb, 34, none⟩ = some (.pointer none)) :
    Calls Try.prog 42 #[.pointer (some ⟨sb, 0, none⟩)] w fun e w' => e = .returned (.pointer none) ∧ ∃ m, w' = w.drewN m := by
  have Hp := Lib.hid hp
  clear hp
  go_enter Try.func42, Try.ntmps42
  go_wp2_with (go_at_call 36; refine Hp.out.mono ?_; rintro e w' ⟨rfl, m, rfl⟩)
  go_ret
  exact ⟨rfl, _, rfl⟩
set_option maxHeartbeats 400000 in
theorem ahead_prev (sb gb hb L : Nat) (p : Option Addr) (w : World) (hL : L < 32)
    (hp : Calls Try.prog 36 #[.pointer (some ⟨gb, 0, none⟩), .pointer (some ⟨sb, 0, none⟩)] w fun e w' => e = .returned (.int .i64 0) ∧ ∃ m, w' = w.drewN m)
    (hi : w.cell? ⟨sb, 2, none⟩ = some (.pointer (some ⟨gb, 0, none⟩)))
    (hx : w.cell? ⟨gb, 34, none⟩ = some (.pointer (some ⟨hb, 0, none⟩))) (hn : w.cell? ⟨hb, 1, none⟩ = some (.int .i64 ((L + 1 : Nat) : Int))) (hy : w.cell? ⟨hb, 2 + L, none⟩ = some (.pointer p)) :
    Calls Try.prog 42 #[.pointer (some ⟨sb, 0, none⟩)] w fun e w' => e = .returned (.pointer p) ∧ ∃ m, w' = w.drewN m := by
  have Hp := Lib.hid hp
  clear hp
  go_enter Try.func42, Try.ntmps42
  go_wp2_with (go_at_call 36; refine Hp.out.mono ?_; rintro e w' ⟨rfl, m, rfl⟩)
  go_quiet (fail)
  go_wp2
  go_ret
  exact ⟨rfl, _, World.drewN_drewN _ _ _⟩

set_option maxHeartbeats 400000 in
theorem beside_no (f : Nat) (l s : Value) (w : World)
    (hf : Calls Try.prog 34 #[l, s] w fun e w' => e = .returned (.pointer none) ∧ w = w') :
    Calls Try.prog 40 #[l, s, .func (.func f) #[] #[]] w fun e w' => e = .returned (.tuple #[.int .i64 0, .int .i64 180]) ∧ w = w' := by
  have Hf := Lib.hid hf
  clear hf
  go_enter Try.func40, Try.ntmps40
  go_wp2_with (go_at_call 34; refine Hf.out.mono ?_; rintro e w' ⟨rfl, rfl⟩)
  go_ret2
  exact ⟨rfl, rfl⟩
end Go.Proofs.Ytijceljhpbdnnaa
