/-
  DERIVED. The moment of events at a place, in plain Lean, and that what package debug gathers is it. No condition.
-/
import Derived.Test.YtbhiaeciiphelaaGreatDoorMomA
import Derived.Test.YtbhiaeciiphelaaGreatDoorMomB
namespace Go.Proofs.YtbhiaeciiphelaaGreatDoor
def addrOf (f : St) (k : Nat) : Int := match f.sps[k]? with | some p => p.addr | none => 0
def readsOf (f : St) (k : Nat) : List Nat := match f.sps[k]? with | some p => p.reads | none => []
def addrAt (evs : List Ev) (i : Nat) : Int := match evs[i]? with | some e => e.addr | none => 0
/-- The modifiables made by now that are open at moment x. -/
def openOf (f : St) (x m : Nat) : List Nat := (List.range m).filter fun k => decide (x ≤ toOf f k)
def seenOf (evs : List Ev) (f : St) (x k : Nat) : List Int := ((readsOf f k).filter fun r => decide (r < x)).map (addrAt evs)
/-- The addresses that are among these, rising. -/
def slots (wr : List Int) : List Int := ((List.range 30000).map fun a : Nat => (a : Int)).filter fun a => decide (a ∈ wr)
def momOf (evs : List Ev) (s : St) (st : List Nat) (wr : List Int) : Mom := ⟨st.reverse.map (addrOf s), slots wr, st.reverse.map fun k => (readsOf s k).map (addrAt evs)⟩
theorem Stack.uniq {sps : List Sp} : ∀ {o : Option Nat} {l l' : List Nat}, Stack sps o l → Stack sps o l' → l = l'
  | _, _, _, .nil, .nil => rfl
  | _, _, _, .cons h t, .cons h' t' => by
    rw [h] at h'
    injection h' with h'
    subst h'
    rw [t.uniq t']
theorem slots_congr {wr wr' : List Int} (h : ∀ a, a ∈ wr ↔ a ∈ wr') : slots wr = slots wr' := by
  unfold slots
  refine List.filter_congr fun a _ => ?_
  simp [h a]
theorem AtM.uniq {evs : List Ev} {i : Nat} {s : St} {st st' : List Nat} {wr wr' : List Int} (h : AtM evs i s st wr) (h' : AtM evs i s st' wr') : momOf evs s st wr = momOf evs s st' wr' := by
  have e := h.stack.uniq h'.stack
  subst e
  unfold momOf
  rw [slots_congr fun a => (h.wrm a).trans (h'.wrm a).symm]
theorem rising_eqI : ∀ {l l' : List Int}, l.Pairwise (· < ·) → l'.Pairwise (· < ·) → (∀ a, a ∈ l ↔ a ∈ l') → l = l'
  | [], [], _, _, _ => rfl
  | [], b :: l', _, _, h => ((List.not_mem_nil ((h b).2 List.mem_cons_self))).elim
  | a :: l, [], _, _, h => ((List.not_mem_nil ((h a).1 List.mem_cons_self))).elim
  | a :: l, b :: l', h1, h2, h => by
    rw [List.pairwise_cons] at h1 h2
    have hab : a = b := by
      rcases List.mem_cons.1 ((h a).1 List.mem_cons_self) with e | e
      · exact e
      · rcases List.mem_cons.1 ((h b).2 List.mem_cons_self) with e' | e'
        · exact e'.symm
        · have := h2.1 a e; have := h1.1 b e'; omega
    subst hab
    rw [rising_eqI h1.2 h2.2 fun x => ?_]
    constructor
    · intro hx
      rcases List.mem_cons.1 ((h x).1 (List.mem_cons_of_mem _ hx)) with e | e
      · subst e; have := h1.1 x hx; omega
      · exact e
    · intro hx
      rcases List.mem_cons.1 ((h x).2 (List.mem_cons_of_mem _ hx)) with e | e
      · subst e; have := h2.1 x hx; omega
      · exact e
theorem nums_rising : ∀ n : Nat, ((List.range n).map fun a : Nat => (a : Int)).Pairwise (· < ·) := by
  intro n
  rw [List.pairwise_map]
  exact List.pairwise_lt_range.imp (fun h => by omega)
theorem mem_slots {wr : List Int} {a : Int} : a ∈ slots wr ↔ (0 ≤ a ∧ a < 30000) ∧ a ∈ wr := by
  unfold slots
  rw [List.mem_filter, decide_eq_true_eq, List.mem_map]
  constructor
  · rintro ⟨⟨k, hk, rfl⟩, h2⟩
    rw [List.mem_range] at hk
    exact ⟨⟨by omega, by omega⟩, h2⟩
  · rintro ⟨⟨h0, h1⟩, h2⟩
    exact ⟨⟨a.toNat, by rw [List.mem_range]; omega, by omega⟩, h2⟩
theorem sort_slots {wr : List Int} (hn : wr.Nodup) (hr : ∀ a ∈ wr, 0 ≤ a ∧ a < 30000) : wr.mergeSort (fun x y => decide (x ≤ y)) = slots wr := by
  have hp := List.mergeSort_perm wr (fun x y => decide (x ≤ y))
  refine rising_eqI ?_ ((nums_rising _).filter _) fun a => ?_
  · have h1 := List.pairwise_mergeSort (le := fun x y : Int => decide (x ≤ y)) (fun a b c h1 h2 => by simp at *; omega) (fun a b => by simp; omega) wr
    have h2 : (wr.mergeSort (fun x y => decide (x ≤ y))).Nodup := hp.nodup_iff.2 hn
    exact (h1.and h2).imp (fun ⟨h, k⟩ => by simp at h k; omega)
  · rw [hp.mem_iff, mem_slots]
    exact ⟨fun h => ⟨hr a h, h⟩, fun h => h.2⟩
/-- The addresses of what is made are addresses. -/
def InB (s : St) : Prop := ∀ (k : Nat) (p : Sp), s.sps[k]? = some p → 0 ≤ p.addr ∧ p.addr < 30000
theorem step_okform {s s' : St} {i : Nat} {e : Ev} (h : s.step i e = some s') : e.form = true := by
  unfold St.step at h
  split at h
  · cases h
  · rename_i hf; simpa using hf
theorem InB.step {s s' : St} {i : Nat} {e : Ev} (h : InB s) (hs : s.step i e = some s') : InB s' := by
  have hf := form_addr (step_okform hs)
  rcases step_cases hs with ⟨k1, hany, rfl⟩ | ⟨k, p, htop, hp, k2, rfl⟩ | ⟨k, p, htop, hp, k3, hpa, rfl⟩
  · intro k p hp
    rcases split_new hp with ⟨_, hp⟩ | ⟨_, rfl⟩
    · exact h k p hp
    · exact hf
  · intro j q hq
    rcases set_at hp hq with ⟨rfl, rfl⟩ | ⟨_, hq⟩
    · exact h _ p hp
    · exact h j q hq
  · intro j q hq
    rcases set_at hp hq with ⟨rfl, rfl⟩ | ⟨_, hq⟩
    · exact h _ p hp
    · exact h j q hq
theorem InB.run : ∀ (l : List Ev) (s s' : St) (i : Nat), InB s → s.run i l = some s' → InB s'
  | [], s, s', i, h, hr => by
    injection hr with hr
    subst hr; exact h
  | e :: l, s, s', i, h, hr => by
    simp only [St.run] at hr
    cases hs : s.step i e with
    | none => rw [hs] at hr; cases hr
    | some s2 => rw [hs] at hr; exact InB.run l s2 s' (i + 1) (h.step hs) hr
theorem InB.start : InB St.start := fun k p h => by simp [St.start] at h
/-- What package debug gathers is the moment. -/
theorem state_mom {evs : List Ev} {f : St} (hf : readOf evs = some f) {x : Nat} {s : St} {st : List Nat} {wr : List Int} (hx : x ≤ evs.length) (hr : St.start.run 0 (evs.take x) = some s) (ha : AtM evs x s st wr) :
    (⟨(openOf f x s.sps.length).map (addrOf f), wr.mergeSort (fun x y => decide (x ≤ y)), (openOf f x s.sps.length).map (seenOf evs f x)⟩ : Mom) = momOf evs s st wr := by
  have he := ends_all hf (evs.length - x) x s st wr (by omega) hr ha
  have hb := InB.run _ _ _ _ InB.start hr
  have hop : openOf f x s.sps.length = st.reverse := open_is ha he
  have hin : ∀ k ∈ st.reverse, addrOf f k = addrOf s k ∧ seenOf evs f x k = (readsOf s k).map (addrAt evs) := by
    intro k hk
    rw [List.mem_reverse] at hk
    have hkl := ha.stack.lt k hk
    have hp := List.getElem?_eq_getElem hkl
    obtain ⟨p', h1, _, h3, ⟨more, h4, h5⟩, _⟩ := he.2.2 k _ hp
    refine ⟨by simp only [addrOf, h1, hp, h3], ?_⟩
    simp only [seenOf, readsOf, h1, hp, h4, List.filter_append]
    have e1 : (s.sps[k].reads).filter (fun r => decide (r < x)) = s.sps[k].reads := List.filter_eq_self.2 fun r hr2 => by simpa using (ha.rds k _ hp).2 r hr2
    have e2 : more.filter (fun r => decide (r < x)) = [] := List.filter_eq_nil_iff.2 fun r hr2 => by have := h5 r hr2; simp; omega
    rw [e1, e2, List.append_nil]
  have hsl : wr.mergeSort (fun x y => decide (x ≤ y)) = slots wr := sort_slots ha.wrnd fun a h => by
    obtain ⟨k, p, hp, _, hpa⟩ := (ha.wrm a).1 h
    rw [← hpa]; exact hb k p hp
  unfold momOf
  rw [hop, hsl, List.map_congr_left fun k hk => (hin k hk).1, List.map_congr_left fun k hk => (hin k hk).2]
open Classical in
/-- The moment. -/
noncomputable def theM (evs : List Ev) (x : Nat) : Mom := if h : ∃ m : Mom, ∃ s st wr, St.start.run 0 (evs.take x) = some s ∧ AtM evs x s st wr ∧ m = momOf evs s st wr then h.choose else ⟨[], [], []⟩
theorem theM_eq {evs : List Ev} {x : Nat} {s : St} {st : List Nat} {wr : List Int} (hr : St.start.run 0 (evs.take x) = some s) (ha : AtM evs x s st wr) : theM evs x = momOf evs s st wr := by
  have h : ∃ m : Mom, ∃ s st wr, St.start.run 0 (evs.take x) = some s ∧ AtM evs x s st wr ∧ m = momOf evs s st wr := ⟨_, s, st, wr, hr, ha, rfl⟩
  unfold theM
  rw [dif_pos h]
  obtain ⟨s2, st2, wr2, h1, h2, h3⟩ := h.choose_spec
  rw [hr] at h1
  injection h1 with h1
  subst h1
  rw [h3]
  exact h2.uniq ha
/-- No more than so many in each list of a moment. -/
structure Mom.le (m : Mom) (n : Nat) : Prop where
  opn : m.opn.length ≤ n
  written : m.written.length ≤ n
  reads : m.reads.length ≤ n
  each : ∀ x ∈ m.reads, x.length ≤ n
theorem AtM.stlen {evs : List Ev} {x : Nat} {s : St} {st : List Nat} {wr : List Int} (ha : AtM evs x s st wr) : st.length ≤ x := by
  have h2 := ha.ok.spsn
  have h4 : st.reverse.Pairwise (· < ·) := List.pairwise_reverse.2 ha.dec
  have h5 : st.reverse = (List.range s.sps.length).filter fun k => decide (k ∈ st) := rising_eq h4 (List.pairwise_lt_range.filter _) fun k => by
    rw [List.mem_reverse, List.mem_filter, List.mem_range, decide_eq_true_eq]
    exact ⟨fun h => ⟨ha.stack.lt k h, h⟩, fun h => h.2⟩
  have h6 := List.length_filter_le (fun k => decide (k ∈ st)) (List.range s.sps.length)
  rw [← h5] at h6
  simp only [List.length_reverse, List.length_range] at h6
  omega
theorem theM_le {evs : List Ev} {f : St} (hf : readOf evs = some f) {x : Nat} (hx : x ≤ evs.length) (hn : evs.length ≤ 60000) : (theM evs x).le 60000 := by
  obtain ⟨s, st, wr, hr, ha⟩ := momRun hf x hx
  rw [theM_eq hr ha]
  have hst := ha.stlen
  refine ⟨by simp [momOf]; omega, ?_, by simp [momOf]; omega, ?_⟩
  · have := List.length_filter_le (fun a => decide (a ∈ wr)) ((List.range 30000).map fun a : Nat => (a : Int))
    simp only [momOf, slots]
    simp only [List.length_map, List.length_range] at this
    omega
  · intro l hl
    simp only [momOf, List.mem_map] at hl
    obtain ⟨k, hk, rfl⟩ := hl
    rw [List.mem_reverse] at hk
    have hp := List.getElem?_eq_getElem (ha.stack.lt k hk)
    have := ha.ok.reads k _ hp
    simp only [readsOf, hp, List.length_map]
    omega
def zeroMom : Mom := ⟨[], [], []⟩
theorem zeroMom_at (w : World) : MomAt w (.agg #[.slice none 0 0, .slice none 0 0, .slice none 0 0]) zeroMom := ⟨_, _, _, rfl, ⟨none, 0, rfl, fun j x h => by simp [zeroMom] at h⟩, ⟨none, 0, rfl, fun j x h => by simp [zeroMom] at h⟩, ⟨none, 0, rfl, fun j x h => by simp [zeroMom] at h⟩⟩
/-- What At answers: the moment, and the error. -/
noncomputable def atP (evs : List Ev) (x : Int) : Mom × Int :=
  if readOf evs = none then (zeroMom, 250) else if x < 0 ∨ (evs.length : Int) < x then (zeroMom, 251) else (theM evs x.toNat, 0)
open Classical in
/-- What Back answers. -/
noncomputable def backP (evs : List Ev) (x : Int) (m : Mom) : Mom × Int :=
  if readOf evs = none then (zeroMom, 250) else if x < 1 ∨ (evs.length : Int) < x then (zeroMom, 251) else if theM evs x.toNat = m then (theM evs (x - 1).toNat, 0) else (zeroMom, 1)
theorem zeroMom_le (n : Nat) : zeroMom.le n := ⟨Nat.zero_le _, Nat.zero_le _, Nat.zero_le _, fun _x h => (List.not_mem_nil h).elim⟩
theorem atP_le {evs : List Ev} (x : Int) (hn : evs.length ≤ 60000) : (atP evs x).1.le 60000 := by
  unfold atP
  split
  · exact zeroMom_le _
  rename_i h1
  split
  · exact zeroMom_le _
  obtain ⟨f, hf⟩ := Option.ne_none_iff_exists'.1 h1
  exact theM_le hf (by omega) hn
theorem backP_le {evs : List Ev} (x : Int) (m : Mom) (hn : evs.length ≤ 60000) : (backP evs x m).1.le 60000 := by
  unfold backP
  split
  · exact zeroMom_le _
  rename_i h1
  split
  · exact zeroMom_le _
  split
  · obtain ⟨f, hf⟩ := Option.ne_none_iff_exists'.1 h1
    exact theM_le hf (by omega) hn
  · exact zeroMom_le _
end Go.Proofs.YtbhiaeciiphelaaGreatDoor
