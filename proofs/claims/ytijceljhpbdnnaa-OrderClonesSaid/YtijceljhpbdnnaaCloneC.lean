/-
  Clone's contract. Condition: Inv, the order as it lies in memory.
-/
import Derived.Test.YtijceljhpbdnnaaClone
namespace Go.Proofs.Ytijceljhpbdnnaa
open Go.RowKit

/-- A clone that lies in new memory. -/
structure Cloned (w w' : World) (O O' : Ord) : Prop where
  inv : Inv w' O'
  few : ∃ S p j, Few O' S p j
  ids : O'.ids = O.ids
  made : O'.P.length = O.P.length
  moves : O'.moves = O.moves
  own : ∀ k, O'.own k → w.heap.size ≤ k
  kept : Kept (fun _ => False) w w'
theorem CAt.whole {w w' : World} {O : Ord} {T : Trio} {cs : List Grp} (h : Inv w O) (hf : ∃ S p j, Few O S p j) (hC : CAt w O T O.gs.length cs w') : Cloned w w' O (O.cloned T.nb T.tb cs) := by
  have hl : cs.map Grp.look = O.gs.map Grp.look := by have := hC.looks; rwa [List.take_length] at this
  have hwf := h.wf.cloned (lb := T.nb) (tb := T.tb) hl hC.nodup
  have hP : (O.cloned T.nb T.tb cs).P.length = O.P.length := by simp [Ord.cloned, setAll_length]
  have hst : (stampsOf cs).length = (stampsOf O.gs).length := by have := congrArg List.length (looks_stamps hl); simpa using this
  have hmade := h.wf.made
  obtain ⟨S, p, j, hf⟩ := hf
  refine ⟨⟨?_, ?_, hC.seg, hwf⟩, ⟨S, p, j, hf.cloned hl⟩, looks_ids hl, hP, rfl, ?_, ?_⟩
  · have := hC.list
    rw [← looks_len hl, ← hst] at this
    exact this
  · rw [hP]
    refine ⟨by simp [hP], .inr ⟨T.tb, O.P.length, _, rfl, Nat.zero_le _, hC.tab, Nat.le_refl _, by unfold maxLen; omega, by simp [setAll_length], ?_⟩⟩
    simp only [Nat.mul_one]
    refine List.take_of_length_le ?_
    simp [setAll_length]
  · obtain ⟨t0, t1, n0, n1, o0, o1, tn, tu, no⟩ := hC.ok
    rintro k (rfl | hk | hk)
    · exact n0
    · have : T.tb = k := by simpa [Ord.cloned, Value.ownBlock] using hk
      omega
    · have := hC.new k hk; omega
  · exact (Kept.of_below hC.below).mono (fun k hk hh => absurd hh (by omega))
theorem clone_of {w : World} {O : Ord} (h : Inv w O) (hf : ∃ S p j, Few O S p j) :
    Calls Try.prog 29 #[.pointer (some ⟨O.lb, 0, none⟩)] w fun e w' => ∃ O', e = .returned (.pointer (some ⟨O'.lb, 0, none⟩)) ∧ Cloned w w' O O' := by
  refine (clone_ord h).mono ?_
  rintro _ w' ⟨T, cs, rfl, hC⟩
  exact ⟨O.cloned T.nb T.tb cs, rfl, hC.whole h hf⟩
end Go.Proofs.Ytijceljhpbdnnaa
