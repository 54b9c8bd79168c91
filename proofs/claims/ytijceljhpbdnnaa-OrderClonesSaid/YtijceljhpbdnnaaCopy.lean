/-
  The builtin copy within a group's array, as a law of the walk. Conditions: each theorem's own hypotheses.
-/
import Derived.Test.YtijceljhpbdnnaaRetag
import Derived.Laws.CopyOwn
import Derived.StillTailTactics
namespace Go.Proofs.Ytijceljhpbdnnaa
open Go.RowKit

theorem elem64 : Try.prog.underlying 64 = some (.slice 67) := by kernel_rfl
theorem size67' : (Try.prog.info? 67).map (·.size) = some 1 := by kernel_rfl

theorem splice_group (x y : Value) (arr tl : List Value) (k : Nat) (cs : List Value) (h : k + cs.length ≤ arr.length) :
    splice (x :: y :: (arr ++ tl)) (2 + k) cs = x :: y :: (splice arr k cs ++ tl) := by
  unfold splice
  rw [show 2 + k = k + 2 from by omega, show k + 2 + cs.length = (k + cs.length) + 2 from by omega]
  simp only [List.take_succ_cons, List.drop_succ_cons, List.cons_append]
  rw [List.take_append_of_le_length (by omega), List.drop_append_of_le_length (by omega)]
  simp

theorem wpList_copy_group {w : World} {ops : Array Oper} {rest : List Oper} {o : Oper} {a : Act} {Q : Exit → Act → World → Prop} (hgd : o.guard = none) (d s : Operand)
    (ho : o.op = .call { callee := .builtin .copy, args := #[d, s], argTypes := #[64, 64] })
    (dp sp : Option Addr) (dLen dCap sLen sCap : Nat) (hd : a.eval d = .slice dp dLen dCap) (hs : a.eval s = .slice sp sLen sCap)
    (gb tag n : Nat) (arr : List Value) (pv nx : Option Nat) (hg : w.heap[gb]? = some (groupObj tag n arr pv nx)) (k : Nat) (cs : List Value) (hn : cs.length = Nat.min sLen dLen)
    (hpos : 0 < cs.length → dp = some ⟨gb, 2 + k, none⟩ ∧ ∃ j0, sp = some ⟨gb, 2 + j0, none⟩ ∧ ∀ (j : Nat) v, cs[j]? = some v → arr[j0 + j]? = some v)
    (hfit : k + cs.length ≤ arr.length) (h1 : ∀ v ∈ cs, v.oneCell' = true)
    (h : ∀ w', Kept (fun b => b = gb) w w' → w'.heap[gb]? = some (groupObj tag n (splice arr k cs) pv nx) → wpList Try.prog ops Q rest (a.put o.dst (goInt cs.length)) w') :
    wpList Try.prog ops Q (o :: rest) a w := by
  by_cases h0 : cs.length = 0
  · obtain rfl : cs = [] := List.eq_nil_of_length_eq_zero h0
    refine wpList_copy_nothing hgd d s 64 64 ho 67 elem64 size67' dp sp dLen dCap sLen sCap hd hs (by simpa using hn.symm) ?_
    refine h w (Kept.refl _ _) ?_
    rw [hg]; simp [splice]
  · obtain ⟨rfl, j0, rfl, hsrc⟩ := hpos (by omega)
    have hg' := hg
    unfold groupObj at hg'
    refine wpList_copy_own hgd d s 64 64 ho 67 elem64 size67' gb (2 + k) dLen dCap ⟨gb, 2 + j0, none⟩ sLen sCap hd hs _ 71 hg' cs hn ?_ ?_ h1 ?_
    · intro j v hj
      have := group_ca hg (hsrc j v hj)
      have e : (⟨gb, 2 + j0, none⟩ : Addr).add j = ⟨gb, 2 + (j0 + j), none⟩ := by unfold Addr.add; split <;> simp_all; omega
      rw [e]; exact this
    · simp [groupCells]; omega
    · refine h _ ⟨rfl, rfl, rfl, by simp [World.setRow], fun i hi hn => setRow_other w gb i _ hn⟩ ?_
      have hset := setRow_heap w gb (groupCells tag n arr pv nx) ((groupCells tag n arr pv nx).toList.take (2 + k) ++ (cs ++ (groupCells tag n arr pv nx).toList.drop (2 + k + cs.length))).toArray 71 (0, 0) hg'
      rw [hset]
      have := splice_group (.int .i64 tag) (.int .i64 n) arr [.pointer (optp pv), .pointer (optp nx)] k cs hfit
      unfold splice at this
      simp only [groupCells, groupObj, splice] at *
      rw [this]

/-- A region that draws its order: n reads in whatever order, then a tail in the order of the text. -/
theorem wp_region_tail {P : Program} {id : Nat} {Q : Exit → Act → World → Prop} {a : Act} {w : World} {l : List Oper} (n : Nat) (hm : P.follows .mixedOrders = true) (hB : Region.lexTailB .any l.toArray n = true)
    (h : wpStill P l.toArray w.drew (fun a' => wpList P l.toArray Q (l.drop n) a' w.drew) (l.take n) a) : (Code.region id l.toArray true).wp P Q a w := wp_region_still_tail n hm hB h
end Go.Proofs.Ytijceljhpbdnnaa
