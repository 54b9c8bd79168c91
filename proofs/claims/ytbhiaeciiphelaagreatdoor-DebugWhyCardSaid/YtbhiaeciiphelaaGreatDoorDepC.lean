/-
  DERIVED. Contract of the reference's rising: the addresses that are marked, rising. Condition: the marks lie in a row.
-/
import Derived.Test.YtbhiaeciiphelaaGreatDoorShelf
import Derived.Test.YtbhiaeciiphelaaGreatDoorEvM
import Derived.WalkMore
import Derived.Test.YtbhiaeciiphelaaGreatDoorDepD
import Derived.Test.YtbhiaeciiphelaaGreatDoorEvX
import Derived.Test.YtbhiaeciiphelaaGreatDoorDepK
namespace Go.Proofs.YtbhiaeciiphelaaGreatDoor
open Go.RowKit
theorem IsVis.uniq {sps : List Sp} {V V' : List (List Nat)} (h : IsVis sps V) (h' : IsVis sps V') (ho : ∀ (k : Nat) (p : Sp) (j : Nat), sps[k]? = some p → p.outer = some j → j < k) : V = V' := by
  have key : ∀ k : Nat, V[k]? = V'[k]? := by
    intro k
    induction k using Nat.strongRecOn with
    | _ k ih =>
      cases hp : sps[k]? with
      | none =>
        have hk := List.getElem?_eq_none_iff.1 hp
        rw [List.getElem?_eq_none (by rw [h.len]; exact hk), List.getElem?_eq_none (by rw [h'.len]; exact hk)]
      | some p =>
        rw [h.eq k p hp, h'.eq k p hp]
        cases hpo : p.outer with
        | none => rfl
        | some j => simp only [List.getD_eq_getElem?_getD, ih j (ho k p j hp hpo)]
  exact List.ext_getElem? key
open Classical in
noncomputable def visOf (f : St) : List (List Nat) := if h : ∃ V, IsVis f.sps V then h.choose else []
theorem visOf_eq {f : St} {V : List (List Nat)} (h : IsVis f.sps V) (ho : ∀ (k : Nat) (p : Sp) (j : Nat), f.sps[k]? = some p → p.outer = some j → j < k) : visOf f = V := by
  have hx : ∃ V, IsVis f.sps V := ⟨V, h⟩
  unfold visOf
  rw [dif_pos hx]
  exact hx.choose_spec.uniq h ho
noncomputable def seesOf (evs : List Ev) (f : St) (k : Nat) : List Int := ((visOf f).getD k []).map (addrAt evs)
theorem addr_all {evs : List Ev} {f : St} (hro : readOf evs = some f) (r : Nat) : 0 ≤ addrAt evs r ∧ addrAt evs r < 30000 := by
  unfold addrAt
  cases he : evs[r]? with
  | none => exact ⟨by decide, by decide⟩
  | some e =>
    have hr := (List.getElem?_eq_some_iff.1 he).1
    obtain ⟨s, st, wr, h1, _⟩ := momRun hro r (Nat.le_of_lt hr)
    cases hs : s.step r e with
    | none => have := read_stop h1 he hs; rw [hro] at this; cases this
    | some s' => exact form_addr (step_okform hs)
def idxOf (f : St) (y : Int) : Option Nat := f.sps.findIdx? fun p => p.addr == y
theorem idx_some {f : St} {y : Int} {k : Nat} (h : idxOf f y = some k) : ∃ p, f.sps[k]? = some p ∧ p.addr = y := by
  unfold idxOf at h
  obtain ⟨h1, h2, _⟩ := List.findIdx?_eq_some_iff_getElem.1 h
  exact ⟨_, List.getElem?_eq_getElem h1, by simpa using h2⟩
theorem idx_none {f : St} {y : Int} (h : idxOf f y = none) : f.sps.any (fun p => p.addr == y) = false := by
  unfold idxOf at h
  rw [List.any_eq_false]
  intro p hp
  have := List.findIdx?_eq_none_iff.1 h p hp
  simpa using this
end Go.Proofs.YtbhiaeciiphelaaGreatDoor
namespace Go.Proofs.YtbhiaeciiphelaaGreatDoor
open Go.RowKit
theorem vis_ex {sps : List Sp} (ho : ∀ (k : Nat) (p : Sp) (j : Nat), sps[k]? = some p → p.outer = some j → j < k) : ∃ V, IsVis sps V := by
  have key : ∀ n : Nat, n ≤ sps.length → ∃ V : List (List Nat), V.length = n ∧ ∀ (k : Nat) (p : Sp), k < n → sps[k]? = some p → V[k]? = some ((match p.outer with | some j => (V.getD j []).filter fun r => decide (r < p.frm) | none => []) ++ p.reads) := by
    intro n
    induction n with
    | zero => exact fun _ => ⟨[], rfl, fun k p hk => absurd hk (Nat.not_lt_zero _)⟩
    | succ n ih =>
      intro hn
      obtain ⟨V, hl, hV⟩ := ih (by omega)
      have hp := List.getElem?_eq_getElem (show n < sps.length by omega)
      have hget : ∀ (j : Nat) (y : List Nat), j < n → (V ++ [y]).getD j [] = V.getD j [] := by
        intro j y hj
        rw [List.getD_eq_getElem?_getD, List.getD_eq_getElem?_getD, List.getElem?_append_left (by omega)]
      refine ⟨V ++ [(match (sps[n]).outer with | some j => (V.getD j []).filter fun r => decide (r < (sps[n]).frm) | none => []) ++ (sps[n]).reads], by simp [hl], fun k p hk hkp => ?_⟩
      by_cases e : k < n
      · rw [List.getElem?_append_left (by omega), hV k p e hkp]
        cases hpo : p.outer with
        | none => rfl
        | some j => simp only [hget j _ (Nat.lt_trans (ho k p j hkp hpo) e)]
      · have : k = n := by omega
        subst this
        rw [hp] at hkp
        injection hkp with hkp
        subst hkp
        rw [List.getElem?_append_right (by omega), hl, Nat.sub_self, List.getElem?_cons_zero]
        cases hpo : (sps[k]).outer with
        | none => rfl
        | some j => simp only [hget j _ (ho k _ j hp hpo)]
  obtain ⟨V, hl, hV⟩ := key sps.length (Nat.le_refl _)
  exact ⟨V, hl, fun k p hp => hV k p (List.getElem?_eq_some_iff.1 hp).1 hp⟩
theorem frm_step {evs : List Ev} {i : Nat} {s s' : St} {e : Ev} (h : StOk evs i s) (hm : (s.sps.map (·.frm)).Pairwise (· < ·)) (hs : s.step i e = some s') : (s'.sps.map (·.frm)).Pairwise (· < ·) := by
  rcases step_cases hs with ⟨k1, hany, rfl⟩ | ⟨k, p, htop, hp, k2, rfl⟩ | ⟨k, p, htop, hp, k3, hpa, rfl⟩
  · rw [List.map_append, List.pairwise_append]
    refine ⟨hm, by simp, fun x hx y hy => ?_⟩
    simp at hy
    subst hy
    obtain ⟨q, hq, rfl⟩ := List.mem_map.1 hx
    obtain ⟨j, hj, hj2⟩ := List.getElem_of_mem hq
    exact (h.frm j q (by rw [List.getElem?_eq_getElem hj, hj2])).1
  · show ((s.sps.set k { p with reads := p.reads ++ [i] }).map (·.frm)).Pairwise (· < ·)
    rw [map_set_same (q := { p with reads := p.reads ++ [i] }) (·.frm) hp rfl]; exact hm
  · show ((s.sps.set k { p with to := i }).map (·.frm)).Pairwise (· < ·)
    rw [map_set_same (q := { p with to := i }) (·.frm) hp rfl]; exact hm
theorem frm_run {evs : List Ev} {f : St} (hro : readOf evs = some f) : ∀ i : Nat, i ≤ evs.length → ∃ s st wr, St.start.run 0 (evs.take i) = some s ∧ AtM evs i s st wr ∧ (s.sps.map (·.frm)).Pairwise (· < ·) := by
  intro i
  induction i with
  | zero => exact fun _ => ⟨St.start, [], [], rfl, .start evs, by simp [St.start]⟩
  | succ i ih =>
    intro hi
    obtain ⟨s, st, wr, h1, h2, h3⟩ := ih (by omega)
    have he := List.getElem?_eq_getElem (show i < evs.length by omega)
    cases hs : s.step i evs[i] with
    | none => have := read_stop h1 he hs; rw [hro] at this; cases this
    | some s' => exact ⟨s', _, _, (St.run_take _ _ _ _ _ h1 he).trans hs, h2.step he hs, frm_step h2.ok h3 hs⟩
theorem gath_sees {evs : List Ev} {f : St} (hro : readOf evs = some f) {k : Nat} (hk : k < f.sps.length) {wl : List (Nat × Nat)} (hw : Ways f.sps (some k) evs.length wl) : rise (gath evs f wl wl.length) = slots (seesOf evs f k) := by
  obtain ⟨s, st, wr, hr, ha, hfm⟩ := frm_run hro evs.length (Nat.le_refl _)
  rw [List.take_length] at hr
  obtain ⟨rfl, _⟩ := momEnd hro hr ha
  obtain ⟨V, hV⟩ := vis_ex ha.ok.outer
  have hlt := hV.lt (fun k p hp => (ha.rds k p hp).2) ha.ok.outer
  have hmem := hw.mem hV (fun k p hp => (ha.rds k p hp).1) (fun k j p q hp hpo hq => by
      have hjk := ha.ok.outer k p j hp hpo
      have h1 := (List.pairwise_iff_getElem.1 hfm) j k (by simpa using Nat.lt_trans hjk (List.getElem?_eq_some_iff.1 hp).1) (by simpa using (List.getElem?_eq_some_iff.1 hp).1) hjk
      simp only [List.getElem_map, (List.getElem?_eq_some_iff.1 hp).2, (List.getElem?_eq_some_iff.1 hq).2] at h1
      omega) (fun k p _ hp => Nat.le_of_lt (ha.ok.frm k p hp).1)
  have hall : ∀ a ∈ gath evs s wl wl.length, 0 ≤ a ∧ a < 30000 := by
    intro a h
    unfold gath at h
    obtain ⟨x, _, h2⟩ := List.mem_flatMap.1 h
    obtain ⟨r, _, rfl⟩ := List.mem_map.1 h2
    exact addr_all hro r
  rw [rise_slots hall]
  refine slots_congr fun a => ?_
  unfold gath seesOf
  rw [visOf_eq hV ha.ok.outer, List.take_length, List.mem_flatMap, List.mem_map]
  constructor
  · rintro ⟨x, hx, h2⟩
    obtain ⟨r, hr2, rfl⟩ := List.mem_map.1 h2
    obtain ⟨i, hi, hix⟩ := List.getElem_of_mem hx
    obtain ⟨p, hp, _⟩ := hw.step i x (by rw [List.getElem?_eq_getElem hi, hix])
    have h3 : r ∈ p.reads.take x.2 := by
      have : readsOf s x.1 = p.reads := by unfold readsOf; rw [hp]
      rw [this] at hr2; exact hr2
    obtain ⟨k', hk', h4⟩ := (hmem r).1 ⟨x, hx, p, hp, h3⟩
    injection hk' with hk'
    subst hk'
    exact ⟨r, (List.mem_filter.1 h4).1, rfl⟩
  · rintro ⟨r, hr2, rfl⟩
    obtain ⟨x, hx, p, hp, h3⟩ := (hmem r).2 ⟨k, rfl, List.mem_filter.2 ⟨hr2, by simpa using hlt k r hr2⟩⟩
    refine ⟨x, hx, List.mem_map.2 ⟨r, ?_, rfl⟩⟩
    have : readsOf s x.1 = p.reads := by unfold readsOf; rw [hp]
    rw [this]; exact h3
end Go.Proofs.YtbhiaeciiphelaaGreatDoor
namespace Go.Proofs.YtbhiaeciiphelaaGreatDoor
open Go.RowKit
noncomputable def sq (evs : List Ev) (f : St) (a : Int) : List Int := match idxOf f a with | some k => seesOf evs f k | none => []
theorem sees_at {wS W : World} {B : Nat} {F : Nat → Value} {C : Nat → List Int} {evs : List Ev} {f : St} (h : SeesMem wS W B (f.sps.map (·.addr)) F C) (hC : ∀ k, k < f.sps.length → C (k + 1) = seesOf evs f k) {a : Int} (h0 : 0 ≤ a) (h1 : a < 30000) :
    ∃ v, W.cell? ⟨B, a.toNat, none⟩ = some v ∧ W.ownsRow wS.heap.size 3 1 v (sq evs f a).length (ints (sq evs f a)) := by
  unfold sq
  cases hix : idxOf f a with
  | none =>
    have hna := not_in (idx_none hix)
    exact ⟨_, h.bare h0 h1 hna, World.ownsRow_nil _ _ _ _⟩
  | some k =>
    obtain ⟨p, hp, hpa⟩ := idx_some hix
    have hk := (List.getElem?_eq_some_iff.1 hp).1
    have hka : (f.sps.map (·.addr))[k]? = some a := by rw [List.getElem?_map, hp, ← hpa]; rfl
    have hr := h.fam.rows (k + 1) (by rw [List.length_map]; omega)
    rw [hC k hk] at hr
    exact ⟨_, h.cell hka, hr⟩
structure Reach (evs : List Ev) (f : St) (y : Int) (R : List Int) : Prop where
  first : ∀ z ∈ sq evs f y, z ∈ R
  next : ∀ x ∈ R, ∀ z ∈ sq evs f x, z ∈ R
  least : ∀ P : Int → Prop, (∀ z ∈ sq evs f y, P z) → (∀ x, P x → ∀ z ∈ sq evs f x, P z) → ∀ x ∈ R, P x
theorem Reach.same {evs : List Ev} {f : St} {y : Int} {R R' : List Int} (h : Reach evs f y R) (h' : Reach evs f y R') : ∀ x, x ∈ R ↔ x ∈ R' := fun x =>
  ⟨fun hx => h.least (· ∈ R') h'.first (fun a ha z hz => h'.next a ha z hz) x hx, fun hx => h'.least (· ∈ R) h.first (fun a ha z hz => h.next a ha z hz) x hx⟩
structure Todo (evs : List Ev) (f : St) (y : Int) (T R : List Int) : Prop where
  inT : ∀ x ∈ T, x = y ∨ x ∈ R
  done : ∀ x, x = y ∨ x ∈ R → x ∈ T ∨ ∀ z ∈ sq evs f x, z ∈ R
  least : ∀ P : Int → Prop, (∀ z ∈ sq evs f y, P z) → (∀ x, P x → ∀ z ∈ sq evs f x, P z) → ∀ x ∈ R, P x
  rng : ∀ x ∈ R, 0 ≤ x ∧ x < 30000
theorem Todo.start (evs : List Ev) (f : St) (y : Int) : Todo evs f y [y] [] := ⟨fun x hx => .inl (by simpa using hx), fun x hx => .inl (by simpa using hx), fun P _ _ x hx => by simp at hx, fun x hx => by simp at hx⟩
theorem Todo.fin {evs : List Ev} {f : St} {y : Int} {R : List Int} (h : Todo evs f y [] R) : Reach evs f y R :=
  ⟨fun z hz => (h.done y (.inl rfl)).elim (fun x => by simp at x) (fun x => x z hz), fun x hx z hz => (h.done x (.inr hx)).elim (fun x => by simp at x) (fun x => x z hz), h.least⟩
structure Doing (evs : List Ev) (f : St) (y a : Int) (i : Nat) (T R : List Int) : Prop where
  here : a = y ∨ a ∈ R
  inT : ∀ x ∈ T, x = y ∨ x ∈ R
  seen : ∀ (j : Nat) (z : Int), j < i → (sq evs f a)[j]? = some z → z ∈ R
  done : ∀ x, x = y ∨ x ∈ R → x = a ∨ x ∈ T ∨ ∀ z ∈ sq evs f x, z ∈ R
  least : ∀ P : Int → Prop, (∀ z ∈ sq evs f y, P z) → (∀ x, P x → ∀ z ∈ sq evs f x, P z) → ∀ x ∈ R, P x
  rng : ∀ x ∈ R, 0 ≤ x ∧ x < 30000
theorem Todo.take {evs : List Ev} {f : St} {y a : Int} {T R : List Int} (h : Todo evs f y (T ++ [a]) R) : Doing evs f y a 0 T R :=
  ⟨h.inT a (by simp), fun x hx => h.inT x (List.mem_append.2 (.inl hx)), fun j z hj => absurd hj (Nat.not_lt_zero _), fun x hx => (h.done x hx).elim (fun hm => (List.mem_append.1 hm).elim (fun hm => .inr (.inl hm)) (fun hm => .inl (by simpa using hm))) (fun hm => .inr (.inr hm)), h.least, h.rng⟩
theorem Doing.old {evs : List Ev} {f : St} {y a z : Int} {i : Nat} {T R : List Int} (h : Doing evs f y a i T R) (hz : (sq evs f a)[i]? = some z) (hm : z ∈ R) : Doing evs f y a (i + 1) T R :=
  ⟨h.here, h.inT, fun j x hj hx => by
    by_cases e : j = i
    · subst e; rw [hz] at hx; injection hx with hx; subst hx; exact hm
    · exact h.seen j x (by omega) hx, h.done, h.least, h.rng⟩
theorem Doing.new {evs : List Ev} {f : St} {y a z : Int} {i : Nat} {T R : List Int} (h : Doing evs f y a i T R) (hz : (sq evs f a)[i]? = some z) (h0 : 0 ≤ z ∧ z < 30000) : Doing evs f y a (i + 1) (T ++ [z]) (R ++ [z]) := by
  have hmem := List.mem_of_getElem? hz
  refine ⟨h.here.imp id (fun h => List.mem_append.2 (.inl h)), fun x hx => ?_, fun j x hj hx => ?_, fun x hx => ?_, fun P h1 h2 x hx => ?_, fun x hx => ?_⟩
  · rcases List.mem_append.1 hx with hx | hx
    · exact (h.inT x hx).imp id (fun h => List.mem_append.2 (.inl h))
    · exact .inr (List.mem_append.2 (.inr hx))
  · by_cases e : j = i
    · subst e; rw [hz] at hx; injection hx with hx; subst hx; simp
    · exact List.mem_append.2 (.inl (h.seen j x (by omega) hx))
  · rcases hx with hx | hx
    · rcases h.done x (.inl hx) with h3 | h3 | h3
      · exact .inl h3
      · exact .inr (.inl (List.mem_append.2 (.inl h3)))
      · exact .inr (.inr fun z hz => List.mem_append.2 (.inl (h3 z hz)))
    · rcases List.mem_append.1 hx with hx | hx
      · rcases h.done x (.inr hx) with h3 | h3 | h3
        · exact .inl h3
        · exact .inr (.inl (List.mem_append.2 (.inl h3)))
        · exact .inr (.inr fun z hz => List.mem_append.2 (.inl (h3 z hz)))
      · exact .inr (.inl (List.mem_append.2 (.inr hx)))
  · rcases List.mem_append.1 hx with hx | hx
    · exact h.least P h1 h2 x hx
    · rw [List.mem_singleton] at hx
      subst hx
      rcases h.here with e | e
      · subst e; exact h1 _ hmem
      · exact h2 a (h.least P h1 h2 a e) _ hmem
  · rcases List.mem_append.1 hx with hx | hx
    · exact h.rng x hx
    · rw [List.mem_singleton] at hx; subst hx; exact h0
theorem Doing.fin {evs : List Ev} {f : St} {y a : Int} {T R : List Int} (h : Doing evs f y a (sq evs f a).length T R) : Todo evs f y T R :=
  ⟨h.inT, fun x hx => by
    rcases h.done x hx with h3 | h3 | h3
    · subst h3
      refine .inr fun z hz => ?_
      obtain ⟨j, hj, e⟩ := List.getElem_of_mem hz
      exact h.seen j z hj (by rw [List.getElem?_eq_getElem hj, e])
    · exact .inl h3
    · exact .inr h3, h.least, h.rng⟩
open Classical in
noncomputable def unmarked (D : Nat) (W : World) : Nat := ((List.range 30000).filter fun a => decide (W.cell? ⟨D, a, none⟩ = some (.bool false))).length
theorem filt1 (p : Nat → Bool) (n : Nat) : ((List.range (n + 1)).filter p).length = ((List.range n).filter p).length + (if p n = true then 1 else 0) := by
  rw [List.range_succ, List.filter_append, List.length_append]
  by_cases h : p n = true
  · rw [if_pos h]; simp [h]
  · rw [if_neg h]; simp [h]
theorem filt_congr (p q : Nat → Bool) (n : Nat) (h : ∀ a, a < n → p a = q a) : ((List.range n).filter p).length = ((List.range n).filter q).length := by
  induction n with
  | zero => rfl
  | succ n ih => rw [filt1, filt1, ih (fun a ha => h a (by omega)), h n (by omega)]
theorem unmarked_is {w W : World} {D : Nat} {R : List Int} (h : Marked w W D R) : unmarked D W = ((List.range 30000).filter fun a : Nat => decide ((a : Int) ∉ R)).length := by
  unfold unmarked
  refine filt_congr _ _ _ fun a ha => ?_
  have h1 := h.cell (a := (a : Int)) (by omega) (by omega)
  simp only [Int.toNat_natCast] at h1
  rw [h1]
  by_cases hm : (a : Int) ∈ R <;> simp [hm]
theorem unmarked_less {w W W' : World} {D : Nat} {R : List Int} {z : Int} (h : Marked w W D R) (h' : Marked w W' D (R ++ [z])) (h0 : 0 ≤ z ∧ z < 30000) (hz : z ∉ R) : unmarked D W' + 1 ≤ unmarked D W := by
  rw [unmarked_is h, unmarked_is h']
  have key : ∀ n : Nat, ((List.range n).filter fun a : Nat => decide ((a : Int) ∉ R ++ [z])).length + (if z < (n : Int) then 1 else 0) ≤ ((List.range n).filter fun a : Nat => decide ((a : Int) ∉ R)).length := by
    intro n
    induction n with
    | zero => rw [if_neg (by omega)]; simp
    | succ n ih =>
      rw [filt1, filt1]
      by_cases e : z = (n : Int)
      · have ha : decide ((n : Int) ∉ R ++ [z]) = false := by simp [e]
        have hb : decide ((n : Int) ∉ R) = true := by rw [← e]; simp [hz]
        rw [ha, hb, if_neg (by simp), if_pos rfl, if_pos (by omega)]
        rw [if_neg (by omega)] at ih
        omega
      · have e2 : decide ((n : Int) ∉ R ++ [z]) = decide ((n : Int) ∉ R) := by
          have : ((n : Int) ∈ R ++ [z]) ↔ (n : Int) ∈ R := by
            rw [List.mem_append, List.mem_singleton]
            exact ⟨fun h => h.resolve_right (fun x => e x.symm), .inl⟩
          simp only [this]
        rw [e2]
        by_cases hl : z < (n : Int)
        · rw [if_pos hl] at ih
          rw [if_pos (show z < ((n + 1 : Nat) : Int) by omega)]
          omega
        · rw [if_neg hl] at ih
          rw [if_neg (show ¬ z < ((n + 1 : Nat) : Int) by omega)]
          omega
  have := key 30000
  rw [if_pos (by omega)] at this
  exact this
end Go.Proofs.YtbhiaeciiphelaaGreatDoor
namespace Go.Proofs.YtbhiaeciiphelaaGreatDoor
open Go.RowKit
def lenOf : Value → Nat
  | .slice _ n _ => n
  | _ => 0
theorem sq_rng {evs : List Ev} {f : St} (hro : readOf evs = some f) (a : Int) : ∀ z ∈ sq evs f a, 0 ≤ z ∧ z < 30000 := by
  intro z hz
  unfold sq at hz
  cases hix : idxOf f a with
  | none => rw [hix] at hz; simp at hz
  | some k =>
    rw [hix] at hz
    obtain ⟨r, _, rfl⟩ := List.mem_map.1 hz
    exact addr_all hro r
theorem unmarked_le (D : Nat) (W : World) : unmarked D W ≤ 30000 := by
  unfold unmarked
  exact Nat.le_trans (List.length_filter_le _ _) (by simp)
structure CloMem (wm wB W : World) (D : Nat) (tv : Value) (T R : List Int) : Prop where
  row : W.ownsRow wB.heap.size 3 1 tv T.length (ints T)
  mks : Marked wm W D R
  kept : Kept (fun b => b = D) wB W
section
variable {wm wB W W' : World} {D : Nat} {tv : Value} {T R : List Int}
theorem CloMem.mark (h : CloMem wm wB W D tv T R) {z : Int} (hz : 0 ≤ z ∧ z < 30000) : CloMem wm wB (W.setCell ⟨D, z.toNat, none⟩ (.bool true)) D tv T (R ++ [z]) := by
  refine ⟨row_same h.row fun g hg => heap_set_other _ fun e => ?_, h.mks.mark hz.1 hz.2, h.kept.one1 _ _⟩
  obtain ⟨cur, hc⟩ := row_block h.row hg
  obtain ⟨cu2, hc2, _⟩ := h.mks.row
  rw [e, hc2] at hc
  simp at hc
theorem CloMem.app (h : CloMem wm wB W D tv T R) {o : Obj} {v : Value} {z : Int} (hg : (W.alloc o).grownBy W' tv.ownBlock) (hr : W'.ownsRow wB.heap.size 3 1 v (T.length + 1) (ints T ++ [.int .i64 z])) : CloMem wm wB W' D v (T ++ [z]) R := by
  have hk : Kept (fun b => tv.ownBlock = some b) W W' := ((Kept.refl _ W).alloc o).grown hg (fun b hb _ => hb)
  have hne : tv.ownBlock ≠ some D := by
    intro e
    obtain ⟨cur, hc⟩ := row_block h.row e
    obtain ⟨cu2, hc2, _⟩ := h.mks.row
    rw [hc2] at hc
    simp at hc
  refine ⟨?_, h.mks.same fun o ho _ => hk.at ho hne, Kept.trans h.kept hk (fun b hb e => by have := (h.row.lt b e).1; omega)⟩
  have e1 : (T ++ [z]).length = T.length + 1 := by simp
  have e2 : ints (T ++ [z]) = ints T ++ [.int .i64 z] := by simp [ints]
  rw [e1, e2]; exact hr
end
end Go.Proofs.YtbhiaeciiphelaaGreatDoor
