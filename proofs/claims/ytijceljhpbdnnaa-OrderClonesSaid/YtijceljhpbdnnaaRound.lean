/-
  A region that draws its order, inside a round of a range over a function: reads in whatever order, then a tail in the order of the text. Conditions: each theorem's own hypotheses.
-/
import Derived.Test.YtijceljhpbdnnaaIter
import Derived.StillTailTactics
import Derived.OrdersIn
namespace Go.Proofs.Ytijceljhpbdnnaa
open Go.RowKit Go.Shelf

def noDefer (ops : Array Oper) : Bool := ops.all fun o => match o.op with | .defer _ => false | _ => true
theorem noDefer_spec {ops : Array Oper} (h : noDefer ops = true) {i : Nat} {o : Oper} (hi : ops[i]? = some o) : ∀ c, o.op ≠ .defer c := by
  intro c e
  have := (Array.all_eq_true'.1 h) o (Array.mem_of_getElem? hi)
  rw [e] at this
  cases this
theorem wpOpIn_of_wpOp {l : Nat} {ops : Array Oper} {Q : Exit → Act → World → Prop} (hnd : noDefer ops = true) (hQ : ¬ LetsOut Q) {i : Nat} {K : Act → World → Prop} {a : Act} {w : World}
    (h : wpOp Try.prog ops Q i K a w) : wpOpIn (Fence.wide.inRound l) 0 Try.prog ops Q i K a w := by
  unfold wpOp at h
  unfold wpOpIn
  cases ho : ops[i]? with
  | none => simpa [ho] using h
  | some o =>
    simp only [ho] at h ⊢
    by_cases hw : Region.wanted o (yielded ops a.tmps) = true
    · rw [if_pos hw] at h ⊢
      have h := h.resolve_right (fun x => hQ x.2)
      refine ⟨fun _ _ => trivial, ?_⟩
      rw [Fence.inRound_round, Oper.semAt_eq _ _ _ (noDefer_spec hnd ho)]
      unfold Oper.wp at h
      generalize (execOp a.eval o).run Try.prog w = r at h
      cases r with
      | ok x w' =>
        cases x with
        | value v => exact h
        | skip => exact h
        | defer d => exact h
        | enter f args =>
          refine ⟨fun e => by simp [Fence.wide, Fence.inRound] at e, ?_⟩
          exact callsIn_wide.2 h
        | row row args =>
          refine ⟨fun e => by simp [Fence.wide, Fence.inRound] at e, fun c cs _ => ?_⟩
          obtain ⟨v, w'', hR, hs⟩ := h c cs
          exact ⟨v, w'', hR, stepsIn_wide.2 hs⟩
        | _ => exact h.elim
      | halt x w' => cases x <;> first | exact h | exact h.elim
    · rw [if_neg hw] at h ⊢
      exact ⟨fun _ _ => trivial, h⟩

theorem wpAnyIn_of_wpAny {l : Nat} {ops : Array Oper} {Q : Exit → Act → World → Prop} {md : Region.Mode} (hnd : noDefer ops = true) (hQ : ¬ LetsOut Q) :
    ∀ (fuel : Nat) (listed : Array Bool) (a : Act) (w : World), wpAny Try.prog md ops Q fuel listed a w → wpAnyIn (Fence.wide.inRound l) 0 Try.prog md ops Q fuel listed a w
  | 0, _, _, _, h => h
  | fuel + 1, listed, _, _, h => ⟨h.1, fun i hi => wpOpIn_mono (fun a' w' h' => wpAnyIn_of_wpAny hnd hQ fuel _ a' w' h') (wpOpIn_of_wpOp hnd hQ (h.2 i hi))⟩

/-- The states that the head of such a region can be in, met by one walk. -/
theorem wpAny_tail {Q : Exit → Act → World → Prop} {a : Act} {w : World} {ops : List Oper} (n : Nat) (hB : Region.lexTailB .any ops.toArray n = true)
    (h : wpStill Try.prog ops.toArray w (fun a' => wpList Try.prog ops.toArray Q (ops.drop n) a' w) (ops.take n) a) :
    wpAny Try.prog .any ops.toArray Q ops.toArray.size (Array.replicate ops.toArray.size false) a w := by
  simp only [Region.lexTailB, Bool.and_eq_true, decide_eq_true_eq] at hB
  obtain ⟨⟨⟨⟨c1, c2⟩, c3⟩, c4⟩, c5⟩ := hB
  have k1 : n < ops.length := by simpa using c2
  have k2 : (ops.take n).length = n := by simp; omega
  have k3 : (ops.drop n).length = ops.toArray.size - n := by simp
  have inv : HeadInv .any ops.toArray n (Array.replicate ops.toArray.size false) :=
    ⟨by simp, fun j oj _ hl => (by rw [getD_replicate_false] at hl; cases hl), fun t _ ht => getD_in (by simpa using ht) (getD_replicate_false _ _)⟩
  have H := wpAnyL_lex (md := .any) (g := ops.toArray.size - n) c1 c3 c4 c2 (ops.take n) 0 _ a
    (fun j hj => by rw [k2] at hj; simp [hj]) (by simpa using k2) inv (by rw [k2]; exact c5) h
  have T := wpAny_of_head (Q' := Q) (g := ops.toArray.size - n) (fun listed a' hl => by
    have := wpAny_of_seq (md := .any) (Q' := Q) (ops.drop n) n listed a' w (fun j => by simp [List.getElem?_drop]) (by rw [k3]; exact hl.1) hl.2
    rwa [k3] at this) _ _ _ H
  rwa [k2, show n + (ops.toArray.size - n) = ops.toArray.size by omega] at T
theorem wpIn_tail {l : Nat} {id : Nat} {Q : Exit → Act → World → Prop} {a : Act} {w : World} {ops : List Oper} (n : Nat) (hm : Try.prog.follows .mixedOrders = true) (hB : Region.lexTailB .any ops.toArray n = true)
    (hnd : noDefer ops.toArray = true) (hQ : ¬ LetsOut Q)
    (h : wpStill Try.prog ops.toArray w.drew (fun a' => wpList Try.prog ops.toArray Q (ops.drop n) a' w.drew) (ops.take n) a) : (Code.region id ops.toArray true).wpIn (Fence.wide.inRound l) 0 Try.prog Q a w :=
  wpIn_region_any hm (wpAnyIn_of_wpAny hnd hQ _ _ _ _ (wpAny_tail n hB h))

/-- .. one that only reads. -/
theorem wpIn_still {l : Nat} {id : Nat} {Q : Exit → Act → World → Prop} {a : Act} {w : World} {ops : List Oper} (hm : Try.prog.follows .mixedOrders = true) (hB : Region.lexB .any ops.toArray = true)
    (hnd : noDefer ops.toArray = true) (hQ : ¬ LetsOut Q)
    (h : wpStill Try.prog ops.toArray w.drew (fun a' => Q .normal a' w.drew) ops a) : (Code.region id ops.toArray true).wpIn (Fence.wide.inRound l) 0 Try.prog Q a w := by
  simp only [Region.lexB, Bool.and_eq_true] at hB
  refine wpIn_region_any hm (wpAnyIn_of_wpAny hnd hQ _ _ _ _ (wpAny_of_still (Q := fun a' => Q .normal a' w.drew) (fun _ h => h) _ _ _ ?_))
  have := wpAnyS_lex (P := Try.prog) (w := w.drew) (md := .any) hB.1 ops 0 (Array.replicate ops.toArray.size false) a (by simp) (by simpa using hB.2) h
  simpa using this

/-- .. any region that draws its order: in whatever order, by the plain calculus. -/
theorem wpIn_any {l : Nat} {id : Nat} {Q : Exit → Act → World → Prop} {a : Act} {w : World} {ops : Array Oper} (hm : Try.prog.follows .mixedOrders = true) (hnd : noDefer ops = true) (hQ : ¬ LetsOut Q)
    (h : wpAny Try.prog .any ops Q ops.size (Array.replicate ops.size false) a w.drew) : (Code.region id ops true).wpIn (Fence.wide.inRound l) 0 Try.prog Q a w :=
  wpIn_region_any hm (wpAnyIn_of_wpAny hnd hQ _ _ _ _ h)
theorem ite_of {c : Prop} [Decidable c] {A B : Prop} (hc : c) (h : A) : if c then A else B := by rw [if_pos hc]; exact h
theorem step_of_wp {ops : Array Oper} {o : Oper} {a : Act} {w : World} {K : Act → World → Prop} {Q : Exit → Act → World → Prop} {E : Prop} (hg : o.guard = none) (h : o.wp Try.prog a w K Q) :
    if Region.wanted o (yielded ops a.tmps) = true then o.wp Try.prog a w K Q else E := by rw [if_pos (by simp [Region.wanted, hg])]; exact h
theorem step_app {ops : Array Oper} {o : Oper} {a : Act} {w : World} {K : Act → World → Prop} {Q : Exit → Act → World → Prop} {E : Prop} {s x : Operand} {t : TypeId}
    (_hop : o.op = Op.call { callee := Callee.builtin Builtin.append, args := #[s, x], argTypes := #[t, t] }) (hg : o.guard = none) (h : o.wp Try.prog a w K Q) :
    if Region.wanted o (yielded ops a.tmps) = true then o.wp Try.prog a w K Q else E := step_of_wp hg h
end Go.Proofs.Ytijceljhpbdnnaa
