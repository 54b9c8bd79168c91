/-
  The reference's functions At, Less, Beside, Same and New. Conditions: each theorem's own hypotheses on memory.
-/
import Derived.Test.YtijceljhpbdnnaaApi
namespace Go.Proofs.Ytijceljhpbdnnaa
open Go.RowKit

/-- A slice of numbers lies in w. -/
structure Lies (w : World) (g cap : Nat) (ids : List Nat) : Prop where
  obj : ∃ cur, w.heap[g]? = some (.cells cur 34 (0, 0))
  len : ids.length ≤ 100000
  fit : ids.length ≤ cap
  max : cap ≤ maxLen
  cell : ∀ (j x : Nat), ids[j]? = some x → w.cell? ⟨g, j, none⟩ = some (.int .i64 x)
theorem Lies.lt {w : World} {g cap : Nat} {ids : List Nat} (h : Lies w g cap ids) : g < w.heap.size := by
  obtain ⟨cur, hc⟩ := h.obj
  exact heap_lt hc
theorem Lies.same {w w' : World} {g cap : Nat} {ids : List Nat} (h : Lies w g cap ids) (hs : w'.heap[g]? = w.heap[g]?) : Lies w' g cap ids :=
  ⟨by rw [hs]; exact h.obj, h.len, h.fit, h.max, fun j x hj => by rw [World.cell?_of_block (w' := w') (w := w) hs]; exact h.cell j x hj⟩
/-- A list of the reference, as a value. -/
abbrev rlist (g n cap made : Nat) : Value := .agg #[.slice (some ⟨g, 0, none⟩) n cap, .int .i64 made]
abbrev rbox (g n cap made : Nat) : Obj := .cells #[.slice (some ⟨g, 0, none⟩) n cap, .int .i64 made] 30
set_option maxHeartbeats 400000 in
theorem ref_at (g cap n made : Nat) (ids : List Nat) (s : Int) (i : Nat) (r : Int) (w : World) (h : Lies w g cap ids) (hn : ids.length = n) (hi : i ≤ n) (hb : ∀ (j x : Nat), j < i → ids[j]? = some x → (x : Int) ≠ s)
    (he : (i < n ∧ ids[i]?.map (fun x : Nat => (x : Int)) = some s ∧ r = i) ∨ (i = n ∧ r = -1)) :
    Calls Try.prog 51 #[rlist g n cap made, .int .i64 s] w fun e w' => e = .returned (.int .i64 r) ∧ w' = w.alloc (rbox g n cap made) := by
  have hlt := h.lt
  have Hc := Lib.hid (show ∀ (j x : Nat), ids[j]? = some x → (w.alloc (rbox g n cap made)).cell? ⟨g, j, none⟩ = some (.int .i64 x) from fun j x hj => (h.same (_root_.Go.heap_alloc_old _ _ hlt)).cell j x hj)
  have Hb := Lib.hid hb; clear hb
  have Hn := Lib.hid hn; clear hn
  have he' : ∀ j x : Nat, j ≤ i → ids[j]? = some x → ((x : Int) = s ∧ j = i ∧ r = i) ∨ ((x : Int) ≠ s ∧ j < i) := by
    intro j x hj hx
    rcases Nat.lt_or_ge j i with hji | hji
    · exact .inr ⟨Hb.out j x hji hx, hji⟩
    · obtain rfl : j = i := by omega
      rcases he with ⟨h1, h2, h3⟩ | ⟨h1, _⟩
      · rw [hx] at h2
        simp only [Option.map_some, Option.some.injEq] at h2
        exact .inl ⟨h2, rfl, h3⟩
      · have := Hn.out
        rw [List.getElem?_eq_none (by omega)] at hx
        cases hx
  have hr : i = n → r = -1 := fun e => by rcases he with ⟨h1, _⟩ | ⟨_, h2⟩ <;> omega
  have He := Lib.hid he'
  have HR := Lib.hid hr
  have h1 : n ≤ 100000 := by have := h.len; have := Hn.out; omega
  clear h he he' hr
  go_enter Try.func51, Try.ntmps51
  go_wp2
  go_loop [5] (fun c => ∃ j : Nat, j ≤ i ∧ c = .int .i64 j) (fun c => n - (intOf c).toNat)
  case atStart => exact ⟨0, Nat.zero_le _, rfl⟩
  case round =>
    obtain ⟨j, hj, rfl⟩ := hrel
    by_cases hjn : j < n
    · obtain ⟨x, hx⟩ : ∃ x, ids[j]? = some x := ⟨ids[j]'(by rw [Hn.out]; omega), List.getElem?_eq_getElem _⟩
      have c1 := Hc.out j x hx
      rcases He.out j x hj hx with ⟨h2, h3, h4⟩ | ⟨h2, h3⟩
      · subst h2 h3 h4
        clear hx
        go_wp2
        go_ret
        exact ⟨rfl, rfl⟩
      · have h2 : ¬ (x : Int) = s := h2
        clear hx
        go_wp2
        go_round
        case rel => exact ⟨j + 1, by omega, by go_num⟩
        case measure => simp [intOf]; omega
    · obtain rfl := HR.out (by omega)
      go_wp2
      go_ret
      exact ⟨rfl, rfl⟩
end Go.Proofs.Ytijceljhpbdnnaa
