/-
  append of numbers, at a plain operation and at a step of a region that draws. Conditions: each theorem's own hypotheses on memory.
-/
import Derived.Test.YtijceljhpbdnnaaRefA
import Derived.Deep.AppendLies
namespace Go.Proofs.Ytijceljhpbdnnaa
open Go.RowKit

theorem nums_append (a b : List Nat) : nums (a ++ b) = nums a ++ nums b := by simp [nums]
theorem nums_at {l : List Nat} {j : Nat} {u : Value} (h : (nums l)[j]? = some u) : ∃ x, l[j]? = some x ∧ u = .int .i64 (x : Int) := by
  unfold nums at h
  rw [List.getElem?_map, Option.map_eq_some_iff] at h
  obtain ⟨x, h1, h2⟩ := h
  exact ⟨x, h1, h2.symm⟩
theorem addr_add (g off j : Nat) : (⟨g, off, none⟩ : Addr).add j = ⟨g, off + j, none⟩ := by
  unfold Addr.add
  split
  · next h => subst h; rfl
  · rfl
/-- What the append of numbers leaves. -/
structure Longer (w w' : World) (base : Nat) (v : Value) (g cap : Nat) (ids : List Nat) : Prop where
  row : w'.ownsRow base 34 1 (.slice (some ⟨g, 0, none⟩) ids.length cap) ids.length (nums ids)
  grow : w.grownBy w' v.ownBlock
  kin : v.ownBlock = some g ∨ w.heap.size ≤ g
theorem wp_append_nums {w : World} {o : Oper} {a : Act} {K : Act → World → Prop} {Q : Exit → Act → World → Prop} (s x : Operand)
    (ho : o.op = .call { callee := .builtin .append, args := #[s, x], argTypes := #[28, 28] })
    (base : Nat) (v : Value) (ids : List Nat) (hs : a.eval s = v) (hown : w.ownsRow base 34 1 v ids.length (nums ids))
    (g off m c : Nat) (part : List Nat) (hx : a.eval x = .slice (some ⟨g, off, none⟩) m c) (hl : part.length = m) (hc : ∀ (j y : Nat), part[j]? = some y → w.cell? ⟨g, off + j, none⟩ = some (.int .i64 y))
    (hn : 0 < (ids ++ part).length) (hb : (ids ++ part).length ≤ 200000) (hbase : base ≤ w.heap.size) (N : Nat) (hN : N = (ids ++ part).length)
    (h : ∀ g' cap' w', Longer w w' base v g' cap' (ids ++ part) → K (a.put o.dst (.slice (some ⟨g', 0, none⟩) N cap')) w') : o.wp Try.prog a w K Q := by
  obtain ⟨i, hi, hz⟩ := Option.map_eq_some_iff.1 info34
  simp only [Prod.mk.injEq] at hz
  obtain ⟨hz0, hz1, hz2⟩ := hz
  have hlen : (ids ++ part).length = ids.length + m := by simp [hl]
  obtain ⟨v', w', hr, h2, h3, h4⟩ := run_append_kin (P := Try.prog) w base 28 o.type 34 i (.int .i64 0) 1 8 under28 hi hz0 hz1 hz2 rfl (by decide) v ids.length (nums ids) hown ⟨g, off, none⟩ m c (nums part)
    (by simp [nums, hl]) (by intro j u hj; obtain ⟨y, hy, rfl⟩ := nums_at hj; rw [addr_add]; exact hc j y hy) (by intro u hu; unfold nums at hu; obtain ⟨y, _, rfl⟩ := List.mem_map.1 hu; rfl) (by unfold maxLen; omega) (by omega) hbase
  obtain ⟨g', cap', rfl, _, _⟩ := h2.form (by omega)
  rw [← nums_append, ← hlen] at h2
  subst hN
  unfold Oper.wp execOp
  simp only [ho, resolve, invoke, builtin, Sem.run_bind, Sem.run_pure, Result.andThen_ok, List.map_toArray, List.map_cons, List.map_nil, hs, hx, hr]
  rw [← hlen]
  exact h g' cap' w' ⟨h2, h3, h4 g' rfl⟩
theorem wpList_append_nums {w : World} {ops : Array Oper} {rest : List Oper} {o : Oper} {a : Act} {Q : Exit → Act → World → Prop} (hgd : o.guard = none) (s x : Operand)
    (ho : o.op = .call { callee := .builtin .append, args := #[s, x], argTypes := #[28, 28] })
    (base : Nat) (v : Value) (ids : List Nat) (hs : a.eval s = v) (hown : w.ownsRow base 34 1 v ids.length (nums ids))
    (g off m c : Nat) (part : List Nat) (hx : a.eval x = .slice (some ⟨g, off, none⟩) m c) (hl : part.length = m) (hc : ∀ (j y : Nat), part[j]? = some y → w.cell? ⟨g, off + j, none⟩ = some (.int .i64 y))
    (hn : 0 < (ids ++ part).length) (hb : (ids ++ part).length ≤ 200000) (hbase : base ≤ w.heap.size) (N : Nat) (hN : N = (ids ++ part).length)
    (h : ∀ g' cap' w', Longer w w' base v g' cap' (ids ++ part) → wpList Try.prog ops Q rest (a.put o.dst (.slice (some ⟨g', 0, none⟩) N cap')) w') : wpList Try.prog ops Q (o :: rest) a w :=
  wpList_plain hgd fun _ hK => wp_append_nums s x ho base v ids hs hown g off m c part hx hl hc hn hb hbase N hN fun g' cap' w' hL => hK _ _ (h g' cap' w' hL)
theorem step_append_nums {w : World} {ops : Array Oper} {o : Oper} {a : Act} {K : Act → World → Prop} {Q : Exit → Act → World → Prop} {E : Prop} (hgd : o.guard = none) (s x : Operand)
    (ho : o.op = .call { callee := .builtin .append, args := #[s, x], argTypes := #[28, 28] })
    (base : Nat) (v : Value) (ids : List Nat) (hs : a.eval s = v) (hown : w.ownsRow base 34 1 v ids.length (nums ids))
    (g off m c : Nat) (part : List Nat) (hx : a.eval x = .slice (some ⟨g, off, none⟩) m c) (hl : part.length = m) (hc : ∀ (j y : Nat), part[j]? = some y → w.cell? ⟨g, off + j, none⟩ = some (.int .i64 y))
    (hn : 0 < (ids ++ part).length) (hb : (ids ++ part).length ≤ 200000) (hbase : base ≤ w.heap.size) (N : Nat) (hN : N = (ids ++ part).length)
    (h : ∀ g' cap' w', Longer w w' base v g' cap' (ids ++ part) → K (a.put o.dst (.slice (some ⟨g', 0, none⟩) N cap')) w') :
    if Region.wanted o (yielded ops a.tmps) = true then Oper.wp Try.prog o a w K Q else E := by
  have hw : Region.wanted o (yielded ops a.tmps) = true := by simp [Region.wanted, hgd]
  rw [if_pos hw]
  exact wp_append_nums s x ho base v ids hs hown g off m c part hx hl hc hn hb hbase N hN h
/-- A row that is owned lies. -/
theorem lies_of_row {w : World} {base g cap : Nat} {ids : List Nat} (h : w.ownsRow base 34 1 (.slice (some ⟨g, 0, none⟩) ids.length cap) ids.length (nums ids)) (hn : ids.length ≤ 100000) : Lies w g cap ids := by
  obtain ⟨q, cap', cur, hv, hb, hg, hnc, hcm, hcs, ht⟩ : ∃ q cap' cur, (Value.slice (some ⟨g, 0, none⟩) ids.length cap) = .slice (some ⟨q, 0, none⟩) ids.length cap' ∧ base ≤ q ∧ w.heap[q]? = some (.cells cur 34 (0, 0)) ∧ ids.length ≤ cap' ∧ cap' ≤ maxLen ∧ cur.size = cap' * 1 ∧ cur.toList.take (ids.length * 1) = nums ids := by
    rcases h.2 with ⟨hv, _⟩ | h
    · cases hv
    · exact h
  obtain ⟨rfl, rfl⟩ : q = g ∧ cap' = cap := by simp only [Value.slice.injEq, Option.some.injEq, Addr.mk.injEq] at hv; exact ⟨hv.1.1.symm, hv.2.2.symm⟩
  refine ⟨⟨_, hg⟩, hn, hnc, hcm, fun j x hj => ?_⟩
  have := h.cells (g := q) rfl j (.int .i64 (x : Int)) (by unfold nums; rw [List.getElem?_map, hj]; rfl)
  rw [addr_add, Nat.zero_add] at this
  exact this
end Go.Proofs.Ytijceljhpbdnnaa
