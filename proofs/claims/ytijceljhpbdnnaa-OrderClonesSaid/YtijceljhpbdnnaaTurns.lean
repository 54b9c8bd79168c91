/-
  What the laws share: operations in an unchanged memory, Delete at a place. Conditions: each theorem's own hypotheses.
-/
import Derived.Test.YtijceljhpbdnnaaSame
import Derived.Test.YtijceljhpbdnnaaSane
namespace Go.Proofs.Ytijceljhpbdnnaa
open Go.RowKit

theorem OpsAt.on' {w w' : World} {v : Value} {n : Nat} (h : OpsAt w v n) (hK : Kept (fun _ => False) w w') : OpsAt w' v n := by
  rcases h with h | ⟨a, cap, rfl, h1, h2, h3⟩
  · exact .inl h
  · exact .inr ⟨a, cap, rfl, h1, h2, fun j hj => (h3 j hj).on (h3 j hj).lt hK⟩
theorem quiet_of2 {P : Program} {f : FuncId} {args : Array Value} {w : World} {m n : Nat} {v : Value} (h : Calls P f args (w.drewN (m + n)) fun e w' => e = .returned v ∧ ∃ q, w' = (w.drewN (m + n)).drewN q) :
    Calls P f args (w.drewN (m + n)) fun e w'' => e = .returned v ∧ ∃ q, w'' = w.drewN (m + q) :=
  h.mono fun _ _ ⟨he, q, hm⟩ => ⟨he, n + q, by rw [hm, World.drewN_drewN, Nat.add_assoc]⟩
theorem delete_at {w : World} {O : Ord} (h : Inv w O) (hf : ∃ S p j, Few O S p j) {i s : Nat} (hi : O.ids[i]? = some s) (h0 : 0 < i) :
    Calls Try.prog 24 #[lptr O, .int .i64 s] w fun e w' => e = .returned (.int .i64 0) ∧ ∃ O', Turn w w' O O' (O.ids.take i ++ O.ids.drop (i + 1)) O.P.length := by
  obtain ⟨t, hs, hid⟩ := stamp_of hi
  have hs0 : t.id ≠ 0 := ids_pos h.wf hs h0
  have := delete_ord h hs hs0
  rw [hid] at this
  refine this.mono ?_
  rintro _ w' ⟨rfl, O', k1, k2, k3⟩
  obtain ⟨S, p, j, hf⟩ := hf
  refine ⟨rfl, O', k1, ⟨S, p, j, hf.shrunk k2⟩, k2.lb, ?_, by rw [k2.P]; simp, fun k _ hk => k2.own k hk, k3⟩
  show idsOf O'.gs = _
  unfold idsOf
  rw [k2.stamps, List.eraseIdx_eq_take_drop_succ, List.map_append, List.map_take, List.map_drop]
  rfl
end Go.Proofs.Ytijceljhpbdnnaa
