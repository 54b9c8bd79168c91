/-
  What a clone of an order is: plain facts. No condition.
-/
import Derived.Test.YtijceljhpbdnnaaFew
namespace Go.Proofs.Ytijceljhpbdnnaa
open Go.RowKit

/-- A stamp but for its block. -/
def Stp.look (s : Stp) : Nat × Nat := (s.id, s.minor)
/-- A group but for its blocks. -/
def Grp.look (g : Grp) : Nat × List (Nat × Nat) × List Value := (g.tag, g.ss.map Stp.look, g.rest)
def setAll (P : List (Option Nat)) (ys : List Stp) : List (Option Nat) := ys.foldl (fun P s => P.set s.id (some s.b)) P
theorem setAll_nil (P : List (Option Nat)) : setAll P [] = P := rfl
theorem setAll_cons (P : List (Option Nat)) (s : Stp) (ys : List Stp) : setAll P (s :: ys) = setAll (P.set s.id (some s.b)) ys := rfl
theorem setAll_snoc (P : List (Option Nat)) (ys : List Stp) (s : Stp) : setAll P (ys ++ [s]) = (setAll P ys).set s.id (some s.b) := by
  unfold setAll
  rw [List.foldl_append]
  rfl
theorem setAll_length (P : List (Option Nat)) (ys : List Stp) : (setAll P ys).length = P.length := by
  induction ys generalizing P with
  | nil => rfl
  | cons s ys ih => rw [setAll_cons, ih, List.length_set]
theorem setAll_back {P : List (Option Nat)} {ys : List Stp} {i b : Nat} (h : (setAll P ys)[i]? = some (some b)) : P[i]? = some (some b) ∨ ∃ s, s ∈ ys ∧ s.id = i ∧ s.b = b := by
  induction ys generalizing P with
  | nil => exact .inl h
  | cons s ys ih =>
    rw [setAll_cons] at h
    rcases ih h with h | ⟨t, ht, h1, h2⟩
    · rw [List.getElem?_set] at h
      split at h
      · next e =>
        split at h
        · simp only [Option.some.injEq] at h
          exact .inr ⟨s, by simp, e, h⟩
        · cases h
      · exact .inl h
    · exact .inr ⟨t, by simp [ht], h1, h2⟩
theorem setAll_out {P : List (Option Nat)} {ys : List Stp} {i : Nat} (h : i ∉ ys.map (·.id)) : (setAll P ys)[i]? = P[i]? := by
  induction ys generalizing P with
  | nil => rfl
  | cons s ys ih =>
    simp only [List.map_cons, List.mem_cons, not_or] at h
    rw [setAll_cons, ih h.2, List.getElem?_set, if_neg (fun e => h.1 e.symm)]
theorem setAll_in {P : List (Option Nat)} {ys : List Stp} {s : Stp} (hnd : (ys.map (·.id)).Nodup) (hs : s ∈ ys) (hl : s.id < P.length) : (setAll P ys)[s.id]? = some (some s.b) := by
  induction ys generalizing P with
  | nil => simp at hs
  | cons t ys ih =>
    simp only [List.map_cons, List.nodup_cons] at hnd
    rw [setAll_cons]
    rcases List.mem_cons.1 hs with rfl | hs
    · rw [setAll_out hnd.1, List.getElem?_set, if_pos rfl, if_pos hl]
    · exact ih hnd.2 hs (by rw [List.length_set]; exact hl)
theorem looks_len {gs cs : List Grp} (h : cs.map Grp.look = gs.map Grp.look) : cs.length = gs.length := by simpa using congrArg List.length h
theorem looks_at {gs cs : List Grp} (h : cs.map Grp.look = gs.map Grp.look) {c : Grp} (hc : c ∈ cs) : ∃ g, g ∈ gs ∧ g.look = c.look := by
  have : c.look ∈ gs.map Grp.look := by rw [← h]; exact List.mem_map_of_mem hc
  exact List.mem_map.1 this
theorem looks_tags {gs cs : List Grp} (h : cs.map Grp.look = gs.map Grp.look) : cs.map (·.tag) = gs.map (·.tag) := by
  have := congrArg (List.map fun x : Nat × List (Nat × Nat) × List Value => x.1) h
  simpa [List.map_map, Function.comp_def, Grp.look] using this
theorem looks_stamps {gs cs : List Grp} (h : cs.map Grp.look = gs.map Grp.look) : (stampsOf cs).map Stp.look = (stampsOf gs).map Stp.look := by
  have := congrArg (List.flatMap fun x : Nat × List (Nat × Nat) × List Value => x.2.1) h
  simpa [List.flatMap_map, stampsOf, List.map_flatMap, Grp.look] using this
theorem looks_ids {gs cs : List Grp} (h : cs.map Grp.look = gs.map Grp.look) : idsOf cs = idsOf gs := by
  have := congrArg (List.map fun x : Nat × Nat => x.1) (looks_stamps h)
  simpa [List.map_map, Function.comp_def, Stp.look, idsOf] using this
theorem looks_over {gs cs : List Grp} (h : cs.map Grp.look = gs.map Grp.look) : over cs = over gs := by
  induction gs generalizing cs with
  | nil => cases cs with
    | nil => rfl
    | cons c cs => simp at h
  | cons g gs ih => cases cs with
    | nil => simp at h
    | cons c cs =>
      simp only [List.map_cons, List.cons.injEq] at h
      have h1 : c.ss.length = g.ss.length := by
        have := congrArg (fun x : Nat × List (Nat × Nat) × List Value => x.2.1.length) h.1
        simpa [Grp.look] using this
      rw [over_cons, over_cons, ih h.2, h1]
/-- The order that is cloned. -/
def Ord.cloned (O : Ord) (lb tb : Nat) (cs : List Grp) : Ord :=
  { lb := lb, all := .slice (some ⟨tb, 0, none⟩) O.P.length O.P.length, P := setAll (List.replicate O.P.length none) (stampsOf cs), gs := cs, moves := O.moves }
theorem Wf.cloned {O : Ord} (h : Wf O) {lb tb : Nat} {cs : List Grp} (hl : cs.map Grp.look = O.gs.map Grp.look) (hnd : (foot cs).Nodup) : Wf (O.cloned lb tb cs) := by
  have hids := looks_ids hl
  have hst := looks_stamps hl
  have hlen : (O.cloned lb tb cs).P.length = O.P.length := by simp [Ord.cloned, setAll_length]
  have hidl : ∀ s, s ∈ stampsOf cs → s.id < O.P.length := by
    intro s hs
    have : s.id ∈ idsOf O.gs := by rw [← hids]; exact List.mem_map_of_mem hs
    obtain ⟨t, ht, e⟩ := List.mem_map.1 this
    rw [← e]
    exact (List.getElem?_eq_some_iff.1 (h.tabled t ht)).1
  refine ⟨?_, hnd, ?_, ?_, ?_, ?_, ?_, ?_, ?_, ?_, by rw [hlen]; exact h.made, ?_⟩
  · intro c hc e
    obtain ⟨g, hg, eg⟩ := looks_at hl hc
    refine h.full g hg ?_
    have h1 : g.ss.map Stp.look = c.ss.map Stp.look := congrArg (fun x : Nat × List (Nat × Nat) × List Value => x.2.1) eg
    rw [e] at h1
    simpa using h1
  · show (idsOf cs).Nodup
    rw [hids]; exact h.ids
  · intro s hs
    refine setAll_in ?_ hs ?_
    · have := h.ids
      rw [← hids] at this
      exact this
    · rw [List.length_replicate]; exact hidl s hs
  · intro i b hb
    rcases setAll_back hb with hb | hb
    · rw [List.getElem?_replicate] at hb
      split at hb <;> simp at hb
    · exact hb
  · show (idsOf cs)[0]? = some 0
    rw [hids]; exact h.first
  · have h1 : (O.gs.map (·.tag)).Pairwise (· < ·) := List.pairwise_map.2 h.tags
    rw [← looks_tags hl] at h1
    exact List.pairwise_map.1 h1
  · intro c hc
    obtain ⟨g, hg, eg⟩ := looks_at hl hc
    have h1 : g.tag = c.tag := congrArg (fun x : Nat × List (Nat × Nat) × List Value => x.1) eg
    rw [← h1]; exact h.tagLt g hg
  · intro c hc
    obtain ⟨g, hg, eg⟩ := looks_at hl hc
    have h1 : g.ss.map Stp.look = c.ss.map Stp.look := congrArg (fun x : Nat × List (Nat × Nat) × List Value => x.2.1) eg
    have h2 := congrArg (List.map fun x : Nat × Nat => x.2) h1
    simp only [List.map_map, Function.comp_def, Stp.look] at h2
    have h3 : (g.ss.map fun s => s.minor).Pairwise (· < ·) := List.pairwise_map.2 (h.minors g hg)
    rw [h2] at h3
    exact List.pairwise_map.1 h3
  · intro s hs
    have : s.look ∈ (stampsOf O.gs).map Stp.look := by rw [← hst]; exact List.mem_map_of_mem hs
    obtain ⟨t, ht, e⟩ := List.mem_map.1 this
    have h1 : t.minor = s.minor := congrArg (fun x : Nat × Nat => x.2) e
    rw [← h1]; exact h.minorLt t ht
  · intro c hc v hv
    obtain ⟨g, hg, eg⟩ := looks_at hl hc
    have h1 : g.rest = c.rest := congrArg (fun x : Nat × List (Nat × Nat) × List Value => x.2.2) eg
    exact h.ones g hg v (by rw [h1]; exact hv)
theorem Few.cloned {O : Ord} {S p j : Nat} (h : Few O S p j) {lb tb : Nat} {cs : List Grp} (hl : cs.map Grp.look = O.gs.map Grp.look) : Few (O.cloned lb tb cs) S p j :=
  h.fewer (by simp [Ord.cloned, setAll_length]) rfl (by show (cs.map (·.tag)).Sublist _; rw [looks_tags hl]; exact List.Sublist.refl _) (by show over cs ≤ _; rw [looks_over hl]; exact Nat.le_refl _)
end Go.Proofs.Ytijceljhpbdnnaa
