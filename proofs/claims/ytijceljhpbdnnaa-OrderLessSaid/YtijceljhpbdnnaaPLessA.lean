/-
  DERIVED. An array of three integers as an argument, opened. No condition.
-/
import Derived.Test.YtijceljhpbdnnaaOpenOps
import Derived.Laws.IdiomArrays
namespace Go.Proofs.Ytijceljhpbdnnaa
open Go.ChangeShapes Go.WideShapes Go.ChangeAt Go.RowKit

theorem cells41 : Try.prog.cellsOf 41 = 3 := by kernel_rfl
theorem okWide_arr {P : Program} {w : World} {r : Reach} {base n : Nat} {t e : TypeId} {v : Value} (ht : P.underlying t = some (.array n e)) (h : Value.okWide P w r base t v) : ∃ cs, v = .agg cs ∧ cs.size = P.cellsOf t := by
  simp only [Value.okWide, ht] at h
  obtain ⟨cs, h1, h2, _⟩ := h
  exact ⟨cs, h1, h2⟩
set_option maxRecDepth 100000 in
theorem arr3_open {H : Type} {enc : TypeId × Value → H} {W : World} {b0 : Nat} {v : Value} {d : DataW H} {p : List MemPlace} (hv : Value.okWide Try.prog W .any b0 41 v) (h : DataW.Trod enc Try.prog W 0 (fun _ => true) true 41 v d p) :
    ∃ a b c : Int, v = .agg #[.int .i64 a, .int .i64 b, .int .i64 c] ∧ p = [] ∧ I64 a ∧ I64 b ∧ I64 c := by
  obtain ⟨cs, rfl, hsz⟩ := okWide_arr Try.underlying41 hv
  rw [cells41] at hsz
  obtain ⟨c0, c1, c2, rfl⟩ := Joins.array3 hsz
  obtain ⟨fuel, hf⟩ := h
  obtain ⟨y0, y1, y2, m, hx, hy0, hy1, hy2⟩ := trod_array3 Try.underlying41 cells3 hf
  obtain ⟨a, e0, rfl, w0⟩ := DataW.trod_int Try.underlying3 hy0
  obtain ⟨b, e1, rfl, w1⟩ := DataW.trod_int Try.underlying3 hy1
  obtain ⟨c, e2, rfl, w2⟩ := DataW.trod_int Try.underlying3 hy2
  simp only [List.cons.injEq, and_true] at e0 e1 e2
  subst e0 e1 e2
  simp only [Prod.mk.injEq] at hx
  exact ⟨a, b, c, rfl, by simpa using hx.2, i64_of_wf w0, i64_of_wf w1, i64_of_wf w2⟩
end Go.Proofs.Ytijceljhpbdnnaa
