/-
  The iterators of package order: groups, each. Conditions: each theorem's own hypotheses.
-/
import Derived.Test.YtijceljhpbdnnaaRange
namespace Go.Proofs.Ytijceljhpbdnnaa
open Go.RowKit Go.Shelf
attribute [local go_sem] Oper.semAt_some

/-- The least number of which S holds. -/
noncomputable def least (S : Nat → Prop) : Nat := @Classical.epsilon Nat ⟨0⟩ fun m => S m ∧ ∀ k, S k → m ≤ k
theorem least_exists {S : Nat → Prop} : ∀ k, S k → ∃ m, S m ∧ ∀ k', S k' → m ≤ k' := by
  intro k
  induction k using Nat.strongRecOn with
  | _ k ih =>
    intro hk
    by_cases h : ∃ j, j < k ∧ S j
    · obtain ⟨j, hj, hs⟩ := h; exact ih j hj hs
    · exact ⟨k, hk, fun k' hk' => Nat.le_of_not_lt (fun hlt => h ⟨k', hlt, hk'⟩)⟩
theorem least_spec {S : Nat → Prop} {k : Nat} (h : S k) : S (least S) ∧ ∀ k', S k' → least S ≤ k' :=
  @Classical.epsilon_spec Nat (fun m => S m ∧ ∀ k, S k → m ≤ k) (least_exists k h)

theorem least_of {S : Nat → Prop} (h : ∃ k, S k) : ∃ k, S k ∧ least S = k := by
  obtain ⟨k, hk⟩ := h
  exact ⟨least S, (least_spec hk).1, rfl⟩
def GRel (gs : List Grp) (J : Nat → World → Prop) (k : Nat) (p : Value) (wr : World) : Prop := ∃ i, i + k = gs.length ∧ p = .pointer (optp (headB none (gs.drop i))) ∧ J i wr

set_option maxHeartbeats 1000000 in
theorem groups1_in (n l bx lb : Nat) (gs : List Grp) (J : Nat → World → Prop) (Y : World → World → Prop) (W : World)
    (hm : ∀ i W', J i W' → W'.cell? ⟨bx, 0, none⟩ = some (.pointer (some ⟨lb, 0, none⟩)) ∧ W'.cell? ⟨lb, 0, none⟩ = some (.pointer (optp (headB none gs))) ∧
      ∀ (j : Nat) g, gs[j]? = some g → W'.cell? ⟨g.b, 35, none⟩ = some (.pointer (optp (headB none (gs.drop (j + 1))))))
    (h0 : J 0 W) (hY : ∀ i W1 g, gs[i]? = some g → J i W1 → Yields l #[.pointer (some ⟨g.b, 0, none⟩)] W1 fun e W' => e = .returned (.bool true) ∧ J (i + 1) W' ∧ Y W1 W') :
    CallsIn Fence.wide n Try.prog 57 #[.func (.yield l) #[] #[], .pointer (some ⟨bx, 0, none⟩)] W fun e W' => (∃ v, e = .returned v) ∧ J gs.length W' := by
  obtain ⟨m1, m2, m3⟩ := hm 0 W h0
  clear m3
  generalize hf0 : optp (headB none gs) = f0 at m2
  have HF0 := Lib.hid hf0
  clear hf0
  have HM := Lib.hid hm
  have HY := Lib.hid hY
  have H0 := Lib.hid h0
  clear hm hY h0
  refine callsIn_of_wp Try.func57 rfl trivial ?_ rfl
  simp only [Try.ntmps57, List.size_toArray, List.length_cons, List.length_nil, Nat.reduceAdd, Nat.reduceSub, Array.replicate_succ, Array.replicate_zero, List.push_toArray, List.append_toArray, List.nil_append, List.cons_append]
  gi_wp2
  gi_loopw [3] (fun p wr => ∃ k, GRel gs J k p wr) (fun p wr => least fun k => GRel gs J k p wr)
  case atStart => exact ⟨gs.length, 0, by omega, by rw [← HF0.out]; simp, H0.out⟩
  case round =>
    obtain ⟨k, hk, hmin⟩ := least_of hrel
    obtain ⟨i, hi, hp, hJ⟩ := hk
    have HMin := Lib.hid hmin
    clear hmin hrel
    cases k with
    | zero =>
      obtain rfl : i = gs.length := by omega
      rw [List.drop_length] at hp
      simp only [headB, optp_none] at hp
      subst hp
      have HJ := Lib.hid hJ
      clear hJ hi
      gi_wp2
      go_end0
      exact ⟨⟨_, rfl⟩, HJ.out⟩
    | succ k =>
      have hil : i < gs.length := by omega
      have hg : gs[i]? = some gs[i] := List.getElem?_eq_getElem hil
      rw [List.drop_eq_getElem_cons hil] at hp
      generalize gs[i] = g at *
      simp only [headB, optp_some] at hp
      subst hp
      have hy := HY.out i wr g hg hJ
      obtain ⟨fn, tmps, assign, body, hy1, hR⟩ := hy
      have HG := Lib.hid hg
      have HR := Lib.hid hR
      have HI := Lib.hid hi
      clear hg hJ hR hi
      gi_wp2
      refine ⟨fun h => by simp [Fence.wide] at h, (roundIn_any _ HR.out).mono ?_⟩
      rintro e W3 ⟨rfl, hJ3, hY3⟩
      obtain ⟨_, _, n3⟩ := HM.out (i + 1) W3 hJ3
      have n4 := n3 i g HG.out
      generalize hf1 : optp (headB none (gs.drop (i + 1))) = f1 at n4
      have HF1 := Lib.hid hf1
      have HJ3 := Lib.hid hJ3
      clear n3 hf1 hJ3 hY3
      gi_wp2
      go_roundw
      case rel => exact ⟨k, i + 1, by have := HI.out; omega, by rw [HF1.out], HJ3.out⟩
      case measure =>
        rw [HMin.out]
        have := (least_spec (S := fun k => GRel gs J k (.pointer f1) W3) (k := k) ⟨i + 1, by have := HI.out; omega, by rw [HF1.out], HJ3.out⟩).2 k ⟨i + 1, by have := HI.out; omega, by rw [HF1.out], HJ3.out⟩
        omega

set_option maxHeartbeats 400000 in
theorem groups_mk (lb : Nat) (w : World) : Calls Try.prog 44 #[.pointer (some ⟨lb, 0, none⟩)] w fun e w' =>
    e = .returned (.func (.func 57) #[] #[.pointer (some ⟨w.heap.size, 0, none⟩)]) ∧ w' = w.alloc (.cells #[.pointer (some ⟨lb, 0, none⟩)] 97) := by
  go_enter Try.func44, Try.ntmps44
  go_wp2
  go_ret
  exact ⟨rfl, rfl⟩
set_option maxHeartbeats 400000 in
theorem each_mk (lb : Nat) (w : World) : Calls Try.prog 38 #[.pointer (some ⟨lb, 0, none⟩)] w fun e w' =>
    e = .returned (.func (.func 56) #[] #[.pointer (some ⟨w.heap.size, 0, none⟩)]) ∧ w' = w.alloc (.cells #[.pointer (some ⟨lb, 0, none⟩)] 97) := by
  go_enter Try.func38, Try.ntmps38
  go_wp2
  go_ret
  exact ⟨rfl, rfl⟩

end Go.Proofs.Ytijceljhpbdnnaa
