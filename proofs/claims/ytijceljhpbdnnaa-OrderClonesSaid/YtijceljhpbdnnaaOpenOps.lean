/-
  DERIVED. A slice of operations as an argument, opened. No condition.
-/
import Derived.Test.YtijceljhpbdnnaaOpenOp
import Derived.Test.YtijceljhpbdnnaaPlayed
import Derived.Deep.Slices
namespace Go.Proofs.Ytijceljhpbdnnaa
open Go.ChangeShapes Go.WideShapes Go.ChangeAt Go.RowKit Go.Deep

theorem i64_of_wf {n : Int} (h : (Lit.int .i64 n).wf = true) : I64 n := by
  simp only [Lit.wf, Bool.and_eq_true, decide_eq_true_eq] at h
  exact ⟨h.1, h.2⟩
set_option maxRecDepth 100000 in
theorem op_open' {H : Type} {enc : TypeId × Value → H} {W : World} {b0 : Nat} {v : Value} {d : DataW H} {p : List MemPlace} (hv : Value.okWide Try.prog W .any b0 58 v) (h : DataW.Trod enc Try.prog W 0 (fun _ => true) true 58 v d p) :
    ∃ (kd a b : Int) (md : Bool), v = .agg #[.int .i64 kd, .int .i64 a, .int .i64 b, .bool md] ∧ p = [] ∧ I64 kd ∧ I64 a ∧ I64 b := by
  obtain ⟨cs, rfl, hsz⟩ := okWide_struct Try.underlying58 hv
  rw [cells58] at hsz
  obtain ⟨c0, c1, c2, c3, rfl⟩ := Joins.array4 hsz
  obtain ⟨fuel, hf⟩ := h
  obtain ⟨y0, y1, y2, y3, m, hx, _, hy0, hy1, hy2, hy3⟩ := Joins.trod_struct4 Try.underlying58 hf
  obtain ⟨k, e0, rfl, w0⟩ := DataW.trod_int Try.underlying3 hy0
  obtain ⟨a, e1, rfl, w1⟩ := DataW.trod_int Try.underlying3 hy1
  obtain ⟨b, e2, rfl, w2⟩ := DataW.trod_int Try.underlying3 hy2
  obtain ⟨q, e3, rfl⟩ := DataW.trod_bool Try.underlying4 hy3
  simp [Value.cells, cells3, cells4] at e0 e1 e2 e3
  subst e0 e1 e2 e3
  simp only [Prod.mk.injEq] at hx
  exact ⟨k, a, b, q, rfl, by simpa using hx.2, i64_of_wf w0, i64_of_wf w1, i64_of_wf w2⟩
set_option maxRecDepth 100000 in
theorem ops_open {H : Type} {enc : TypeId × Value → H} {W : World} {b0 : Nat} {v : Value} {d : DataW H} {p : List MemPlace} (hv : Value.okWide Try.prog W .any b0 22 v) (h : DataW.Trod enc Try.prog W 0 (fun _ => true) true 22 v d p) :
    ∃ n, OpsAt W v n := by
  obtain ⟨ao, len, cap, rfl⟩ := okWide_slice Try.underlying22 hv
  obtain ⟨fuel, hf⟩ := h
  rcases open_slice Try.underlying22 hf with ⟨hc, _⟩ | ⟨a, len', cap', m, n, D, Pl, hc, _, hl, hm, hmm, _, hall⟩
  · simp only [Value.cells, List.cons.injEq, and_true] at hc
    exact ⟨0, .inl ⟨hc, rfl⟩⟩
  · simp only [Value.cells, List.cons.injEq, and_true] at hc
    refine ⟨len', .inr ⟨a, cap', hc, hl, hm, ?_⟩⟩
    · intro j hj
      obtain ⟨cs, h1, h2⟩ := hall j (by simp only [if_true] at hmm; omega)
      rw [cells58] at h1
      obtain ⟨_, hlen, hcell⟩ := World.cells?_some h1
      obtain ⟨y0, y1, y2, y3, m', hx, _, hy0, hy1, hy2, hy3⟩ := Joins.trod_struct4 Try.underlying58 h2
      match cs, hlen with
      | [v0, v1, v2, v3], _ =>
        obtain ⟨k, e0, rfl, w0⟩ := DataW.trod_int Try.underlying3 hy0
        obtain ⟨x, e1, rfl, w1⟩ := DataW.trod_int Try.underlying3 hy1
        obtain ⟨y, e2, rfl, w2⟩ := DataW.trod_int Try.underlying3 hy2
        obtain ⟨q, e3, rfl⟩ := DataW.trod_bool Try.underlying4 hy3
        simp [Value.cells, cells3, cells4] at e0 e1 e2 e3
        subst e0 e1 e2 e3
        have f0 := hcell 0 (by omega)
        have f1 := hcell 1 (by omega)
        have f2 := hcell 2 (by omega)
        have f3 := hcell 3 (by omega)
        refine ⟨k, x, y, q, i64_of_wf w0, i64_of_wf w1, i64_of_wf w2, ?_, ?_, ?_, ?_⟩
        · simpa [Addr.add, cells58] using f0
        · simpa [Addr.add, cells58] using f1
        · simpa [Addr.add, cells58] using f2
        · simpa [Addr.add, cells58] using f3
end Go.Proofs.Ytijceljhpbdnnaa
