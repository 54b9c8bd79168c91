/-
  DERIVED. An operation (a struct of three integers and a bool) as an argument, opened; the tokens of the program's rows. No condition.
-/
import Derived.Test.YtijceljhpbdnnaaRows
import Derived.Lib.SmallJoins
import Derived.ProofKit
namespace Go.Proofs.Ytijceljhpbdnnaa
open Go.ChangeShapes Go.WideShapes Go.ChangeAt Go.RowKit

theorem own : ownKnob Try.prog.godebug = none := by kernel_rfl
set_option maxRecDepth 100000 in
theorem laidOut : laidOutB Try.prog = true := by kernel_rfl
theorem cells58 : Try.prog.cellsOf 58 = 4 := by kernel_rfl
theorem cells3 : Try.prog.cellsOf 3 = 1 := by kernel_rfl
theorem cells4 : Try.prog.cellsOf 4 = 1 := by kernel_rfl
set_option maxRecDepth 100000 in
theorem op_open {H : Type} {enc : TypeId × Value → H} {W : World} {b0 : Nat} {v : Value} {d : DataW H} {p : List MemPlace} (hv : Value.okWide Try.prog W .any b0 58 v) (h : DataW.Trod enc Try.prog W 0 (fun _ => true) true 58 v d p) :
    ∃ (kd a b : Int) (md : Bool), v = .agg #[.int .i64 kd, .int .i64 a, .int .i64 b, .bool md] ∧ p = [] := by
  obtain ⟨cs, rfl, hsz⟩ := okWide_struct Try.underlying58 hv
  rw [cells58] at hsz
  obtain ⟨c0, c1, c2, c3, rfl⟩ := Joins.array4 hsz
  obtain ⟨fuel, hf⟩ := h
  obtain ⟨y0, y1, y2, y3, m, hx, _, hy0, hy1, hy2, hy3⟩ := Joins.trod_struct4 Try.underlying58 hf
  obtain ⟨k, e0, rfl, _⟩ := DataW.trod_int Try.underlying3 hy0
  obtain ⟨a, e1, rfl, _⟩ := DataW.trod_int Try.underlying3 hy1
  obtain ⟨b, e2, rfl, _⟩ := DataW.trod_int Try.underlying3 hy2
  obtain ⟨q, e3, rfl⟩ := DataW.trod_bool Try.underlying4 hy3
  simp [Value.cells, cells3, cells4] at e0 e1 e2 e3
  subst e0 e1 e2 e3
  simp only [Prod.mk.injEq] at hx
  exact ⟨k, a, b, q, rfl, by simpa using hx.2⟩
end Go.Proofs.Ytijceljhpbdnnaa
