/-
  DERIVED. What there is at a moment, in plain Lean: what is open, what is written, and how that stands to read's answer. No condition.
-/
import Derived.Test.YtbhiaeciiphelaaGreatDoorEvA
import Derived.Test.YtbhiaeciiphelaaGreatDoorEvX
namespace Go.Proofs.YtbhiaeciiphelaaGreatDoor
inductive Stack (sps : List Sp) : Option Nat → List Nat → Prop
  | nil : Stack sps none []
  | cons {k : Nat} {p : Sp} {l : List Nat} (h : sps[k]? = some p) (t : Stack sps p.outer l) : Stack sps (some k) (k :: l)
theorem Stack.mono {sps sps' : List Sp} (hs : ∀ (k : Nat) (p : Sp), sps[k]? = some p → ∃ p', sps'[k]? = some p' ∧ p'.outer = p.outer) : ∀ {o : Option Nat} {l : List Nat}, Stack sps o l → Stack sps' o l
  | _, _, .nil => .nil
  | _, _, .cons h t => by
    obtain ⟨p', h1, h3⟩ := hs _ _ h
    exact Stack.cons h1 (by rw [h3]; exact t.mono hs)
theorem Stack.lt {sps : List Sp} : ∀ {o : Option Nat} {l : List Nat}, Stack sps o l → ∀ k ∈ l, k < sps.length
  | _, _, .nil, k, hk => (List.not_mem_nil hk).elim
  | _, _, .cons h t, k, hk => by
    rcases List.mem_cons.1 hk with rfl | hk
    · exact (List.getElem?_eq_some_iff.1 h).1
    · exact t.lt k hk
theorem Stack.set {sps : List Sp} {k : Nat} {p q : Sp} (hp : sps[k]? = some p) (ho : q.outer = p.outer) {o : Option Nat} {l : List Nat} (h : Stack sps o l) : Stack (sps.set k q) o l := by
  refine h.mono fun j r hr => ?_
  by_cases e : k = j
  · subst e
    rw [hp] at hr; injection hr with hr; subst hr
    exact ⟨q, List.getElem?_set_self (List.getElem?_eq_some_iff.1 hp).1, ho⟩
  · exact ⟨r, by rw [List.getElem?_set_ne e]; exact hr, rfl⟩
structure AtM (evs : List Ev) (i : Nat) (s : St) (st : List Nat) (wr : List Int) : Prop where
  ok : StOk evs i s
  stack : Stack s.sps s.top st
  dec : st.Pairwise (fun a b => b < a)
  shut : ∀ (k : Nat) (p : Sp), s.sps[k]? = some p → k ∉ st → p.to < i
  wrm : ∀ a, a ∈ wr ↔ ∃ (k : Nat) (p : Sp), s.sps[k]? = some p ∧ k ∉ st ∧ p.addr = a
  wrnd : wr.Nodup
  made : ∀ (k : Nat) (p : Sp), s.sps[k]? = some p → ∃ e, evs[p.frm]? = some e ∧ e.kind = 1 ∧ e.addr = p.addr
  rds : ∀ (k : Nat) (p : Sp), s.sps[k]? = some p → p.reads.Pairwise (· < ·) ∧ ∀ r ∈ p.reads, r < i
theorem AtM.start (evs : List Ev) : AtM evs 0 St.start [] [] :=
  ⟨.start evs, .nil, .nil, fun k p h => by simp [St.start] at h, fun a => ⟨fun h => (List.not_mem_nil h).elim, fun ⟨k, p, h, _⟩ => by simp [St.start] at h⟩, List.nodup_nil, fun k p h => by simp [St.start] at h, fun k p h => by simp [St.start] at h⟩
def stStep (s : St) (e : Ev) (st : List Nat) : List Nat := if e.kind = 1 then s.sps.length :: st else if e.kind = 2 then st else st.tail
def wrStep (e : Ev) (wr : List Int) : List Int := if e.kind = 3 then wr ++ [e.addr] else wr
theorem split_new {sps : List Sp} {q : Sp} {k : Nat} {p : Sp} (hp : (sps ++ [q])[k]? = some p) : (k < sps.length ∧ sps[k]? = some p) ∨ (k = sps.length ∧ p = q) := by
  rcases Nat.lt_trichotomy k sps.length with hk | hk | hk
  · rw [List.getElem?_append_left hk] at hp; exact .inl ⟨hk, hp⟩
  · subst hk; simp at hp; exact .inr ⟨rfl, hp.symm⟩
  · rw [List.getElem?_append_right (by omega), List.getElem?_eq_none (by simp; omega)] at hp; cases hp
theorem step_cases {s s' : St} {i : Nat} {e : Ev} (h : s.step i e = some s') :
    (e.kind = 1 ∧ s.sps.any (fun p => p.addr == e.addr) = false ∧ s' = ⟨s.sps ++ [⟨i, 0, s.top, e.addr, []⟩], some s.sps.length, s.nodes + 1, s.within ++ [s.sps.length]⟩) ∨
    (∃ k p, s.top = some k ∧ s.sps[k]? = some p ∧ e.kind = 2 ∧ s' = ⟨s.sps.set k { p with reads := p.reads ++ [i] }, some k, s.nodes + 1, s.within ++ [k]⟩) ∨
    (∃ k p, s.top = some k ∧ s.sps[k]? = some p ∧ e.kind = 3 ∧ p.addr = e.addr ∧ s' = ⟨s.sps.set k { p with to := i }, p.outer, s.nodes, s.within ++ [k]⟩) := by
  unfold St.step at h
  split at h
  · cases h
  rename_i hform
  split at h
  · rename_i k1
    split at h
    · cases h
    rename_i hany
    injection h with h
    exact .inl ⟨k1, by simpa using hany, h.symm⟩
  · rename_i k1
    split at h
    · cases h
    rename_i k htop
    split at h
    · cases h
    rename_i p hp
    split at h
    · rename_i k2
      injection h with h
      exact .inr (.inl ⟨k, p, htop, hp, k2, h.symm⟩)
    · rename_i k2
      split at h
      · rename_i hpa
        injection h with h
        have k3 : e.kind = 3 := by
          unfold Ev.form at hform
          apply Classical.byContradiction
          intro k3
          simp [k1, k2, k3] at hform
        exact .inr (.inr ⟨k, p, htop, hp, k3, hpa, h.symm⟩)
      · cases h
theorem Stack.top {sps : List Sp} {o : Option Nat} {l : List Nat} (h : Stack sps o l) {k : Nat} (ho : o = some k) {p : Sp} (hp : sps[k]? = some p) : ∃ l', l = k :: l' ∧ Stack sps p.outer l' := by
  cases h with
  | nil => cases ho
  | @cons k' p' l' h t =>
    injection ho with ho
    subst ho
    rw [h] at hp
    injection hp with hp
    subst hp
    exact ⟨l', rfl, t⟩
theorem AtM.step {evs : List Ev} {i : Nat} {s s' : St} {e : Ev} {st : List Nat} {wr : List Int} (h : AtM evs i s st wr) (he : evs[i]? = some e) (hs : s.step i e = some s') : AtM evs (i + 1) s' (stStep s e st) (wrStep e wr) := by
  have hok := h.ok.step he hs
  have huniq : ∀ (j k : Nat) (p q : Sp), s.sps[j]? = some p → s.sps[k]? = some q → p.addr = q.addr → j = k := by
    intro j k p q hp hq hpq
    have e1 : (s.sps.map (·.addr))[j]? = some p.addr := by rw [List.getElem?_map, hp]; rfl
    have e2 : (s.sps.map (·.addr))[k]? = some p.addr := by rw [List.getElem?_map, hq, hpq]; rfl
    exact (List.getElem?_inj (List.getElem?_eq_some_iff.1 e1).1 h.ok.nd).1 (e1.trans e2.symm)
  rcases step_cases hs with ⟨k1, hany, rfl⟩ | ⟨k, p, htop, hp, k2, rfl⟩ | ⟨k, p, htop, hp, k3, hpa, rfl⟩
  · have hst : stStep s e st = s.sps.length :: st := by simp [stStep, k1]
    have hwr : wrStep e wr = wr := by simp [wrStep, k1]
    rw [hst, hwr]
    have hnot : s.sps.length ∉ st := fun hm => Nat.lt_irrefl _ (h.stack.lt _ hm)
    refine ⟨hok, ?_, ?_, ?_, ?_, h.wrnd, ?_, ?_⟩
    · refine Stack.cons (p := ⟨i, 0, s.top, e.addr, []⟩) (by simp) (h.stack.mono fun j q hq => ⟨q, ?_, rfl⟩)
      rw [List.getElem?_append_left (List.getElem?_eq_some_iff.1 hq).1]; exact hq
    · exact List.pairwise_cons.2 ⟨fun b hb => h.stack.lt b hb, h.dec⟩
    · intro j q hq hj
      rcases split_new hq with ⟨hjl, hq⟩ | ⟨rfl, rfl⟩
      · have := h.shut j q hq (fun hm => hj (List.mem_cons_of_mem _ hm)); omega
      · exact absurd (List.mem_cons_self) hj
    · intro a
      rw [h.wrm]
      constructor
      · rintro ⟨j, q, hq, hj, ha⟩
        have hjl := (List.getElem?_eq_some_iff.1 hq).1
        refine ⟨j, q, by rw [List.getElem?_append_left hjl]; exact hq, ?_, ha⟩
        intro hm
        rcases List.mem_cons.1 hm with e | hm
        · omega
        · exact hj hm
      · rintro ⟨j, q, hq, hj, ha⟩
        rcases split_new hq with ⟨hjl, hq⟩ | ⟨rfl, rfl⟩
        · exact ⟨j, q, hq, fun hm => hj (List.mem_cons_of_mem _ hm), ha⟩
        · exact absurd (List.mem_cons_self) hj
    · intro j q hq
      rcases split_new hq with ⟨hjl, hq⟩ | ⟨rfl, rfl⟩
      · exact h.made j q hq
      · exact ⟨e, he, k1, rfl⟩
    · intro j q hq
      rcases split_new hq with ⟨hjl, hq⟩ | ⟨rfl, rfl⟩
      · exact ⟨(h.rds j q hq).1, fun r hr => by have := (h.rds j q hq).2 r hr; omega⟩
      · exact ⟨List.Pairwise.nil, fun r hr => (List.not_mem_nil hr).elim⟩
  · have hst : stStep s e st = st := by simp [stStep, k2]
    have hwr : wrStep e wr = wr := by simp [wrStep, k2]
    rw [hst, hwr]
    refine ⟨hok, ?_, h.dec, ?_, ?_, h.wrnd, ?_, ?_⟩
    · have := h.stack.set (q := { p with reads := p.reads ++ [i] }) hp rfl
      rw [htop] at this; exact this
    · intro j q hq hj
      rcases set_at hp hq with ⟨rfl, rfl⟩ | ⟨_, hq⟩
      · have := h.shut _ p hp hj; simp; omega
      · have := h.shut j q hq hj; omega
    · intro a
      rw [h.wrm]
      constructor
      · rintro ⟨j, q, hq, hj, ha⟩
        by_cases hjk : k = j
        · subst hjk
          rw [hp] at hq; injection hq with hq; subst hq
          exact ⟨k, _, List.getElem?_set_self (List.getElem?_eq_some_iff.1 hp).1, hj, ha⟩
        · exact ⟨j, q, by rw [List.getElem?_set_ne hjk]; exact hq, hj, ha⟩
      · rintro ⟨j, q, hq, hj, ha⟩
        rcases set_at hp hq with ⟨rfl, rfl⟩ | ⟨_, hq⟩
        · exact ⟨_, p, hp, hj, ha⟩
        · exact ⟨j, q, hq, hj, ha⟩
    · intro j q hq
      rcases set_at hp hq with ⟨rfl, rfl⟩ | ⟨_, hq⟩
      · exact h.made _ p hp
      · exact h.made j q hq
    · intro j q hq
      rcases set_at hp hq with ⟨rfl, rfl⟩ | ⟨_, hq⟩
      · obtain ⟨h1, h2⟩ := h.rds _ p hp
        refine ⟨?_, fun r hr => ?_⟩
        · show (p.reads ++ [i]).Pairwise (· < ·)
          rw [List.pairwise_append]
          exact ⟨h1, by simp, fun x hx y hy => by rw [List.mem_singleton] at hy; subst hy; exact h2 x hx⟩
        · rcases List.mem_append.1 hr with hr | hr
          · have := h2 r hr; omega
          · rw [List.mem_singleton] at hr; omega
      · exact ⟨(h.rds j q hq).1, fun r hr => by have := (h.rds j q hq).2 r hr; omega⟩
  · obtain ⟨l', hl, ht⟩ := h.stack.top htop hp
    have hst : stStep s e st = l' := by simp [stStep, k3, hl]
    have hwr : wrStep e wr = wr ++ [e.addr] := by simp [wrStep, k3]
    rw [hst, hwr]
    have hdec := h.dec
    rw [hl, List.pairwise_cons] at hdec
    have hkn : k ∉ l' := fun hm => Nat.lt_irrefl _ (hdec.1 k hm)
    refine ⟨hok, Stack.set (q := { p with to := i }) hp rfl ht, hdec.2, ?_, ?_, ?_, ?_, ?_⟩
    · intro j q hq hj
      rcases set_at hp hq with ⟨rfl, rfl⟩ | ⟨hjk, hq⟩
      · simp
      · have := h.shut j q hq (fun hm => by rw [hl] at hm; rcases List.mem_cons.1 hm with e | hm; exact hjk e; exact hj hm); omega
    · intro a
      rw [List.mem_append, h.wrm, List.mem_singleton]
      constructor
      · rintro (⟨j, q, hq, hj, ha⟩ | rfl)
        · have hjk : k ≠ j := fun e => hj (by rw [hl, ← e]; exact List.mem_cons_self)
          exact ⟨j, q, by rw [List.getElem?_set_ne hjk]; exact hq, fun hm => hj (by rw [hl]; exact List.mem_cons_of_mem _ hm), ha⟩
        · exact ⟨k, _, List.getElem?_set_self (List.getElem?_eq_some_iff.1 hp).1, hkn, hpa⟩
      · rintro ⟨j, q, hq, hj, ha⟩
        rcases set_at hp hq with ⟨rfl, rfl⟩ | ⟨hjk, hq⟩
        · exact .inr (ha.symm.trans hpa)
        · exact .inl ⟨j, q, hq, fun hm => by rw [hl] at hm; rcases List.mem_cons.1 hm with e | hm; exact hjk e; exact hj hm, ha⟩
    · rw [List.nodup_append]
      refine ⟨h.wrnd, by simp, ?_⟩
      intro a ha b hb hab
      rw [List.mem_singleton] at hb
      subst hb; subst hab
      obtain ⟨j, q, hq, hj, hqa⟩ := (h.wrm _).1 ha
      have := huniq j k q p hq hp (hqa.trans hpa.symm)
      exact hj (by rw [hl, this]; exact List.mem_cons_self)
    · intro j q hq
      rcases set_at hp hq with ⟨rfl, rfl⟩ | ⟨_, hq⟩
      · exact h.made _ p hp
      · exact h.made j q hq
    · intro j q hq
      rcases set_at hp hq with ⟨rfl, rfl⟩ | ⟨_, hq⟩
      · exact ⟨(h.rds _ p hp).1, fun r hr => by have := (h.rds _ p hp).2 r hr; omega⟩
      · exact ⟨(h.rds j q hq).1, fun r hr => by have := (h.rds j q hq).2 r hr; omega⟩
def Ends (i : Nat) (s : St) (st : List Nat) (f : St) : Prop :=
  (∃ more, f.within = s.within ++ more) ∧ s.sps.length ≤ f.sps.length ∧ ∀ (k : Nat) (p : Sp), s.sps[k]? = some p → ∃ p', f.sps[k]? = some p' ∧ p'.frm = p.frm ∧ p'.addr = p.addr ∧ (∃ more, p'.reads = p.reads ++ more ∧ ∀ r ∈ more, i ≤ r) ∧ (k ∈ st → i ≤ p'.to) ∧ (k ∉ st → p'.to = p.to)
theorem Ends.refl (i : Nat) (s : St) : Ends i s [] s := ⟨⟨[], by simp⟩, Nat.le_refl _, fun k p hp => ⟨p, hp, rfl, rfl, ⟨[], by simp, fun r hr => (List.not_mem_nil hr).elim⟩, fun h => (List.not_mem_nil h).elim, fun _ => rfl⟩⟩
theorem Ends.back {evs : List Ev} {i : Nat} {s s' f : St} {e : Ev} {st : List Nat} {wr : List Int} (h : AtM evs i s st wr) (hs : s.step i e = some s') (hf : Ends (i + 1) s' (stStep s e st) f) : Ends i s st f := by
  obtain ⟨⟨wm, hw⟩, hlen, hf⟩ := hf
  rcases step_cases hs with ⟨k1, hany, rfl⟩ | ⟨k, p, htop, hp, k2, rfl⟩ | ⟨k, p, htop, hp, k3, hpa, rfl⟩
  · have hst : stStep s e st = s.sps.length :: st := by simp [stStep, k1]
    rw [hst] at hf
    refine ⟨⟨s.sps.length :: wm, by rw [hw]; simp⟩, by simp at hlen; omega, fun j q hq => ?_⟩
    have hjl := (List.getElem?_eq_some_iff.1 hq).1
    obtain ⟨q', h1, h2, h3, ⟨more, h4, h5⟩, h6, h7⟩ := hf j q (by rw [List.getElem?_append_left hjl]; exact hq)
    exact ⟨q', h1, h2, h3, ⟨more, h4, fun r hr => by have := h5 r hr; omega⟩, fun hm => by have := h6 (List.mem_cons_of_mem _ hm); omega, fun hm => h7 (fun hm2 => by rcases List.mem_cons.1 hm2 with e | hm2; omega; exact hm hm2)⟩
  · have hst : stStep s e st = st := by simp [stStep, k2]
    rw [hst] at hf
    refine ⟨⟨k :: wm, by rw [hw]; simp⟩, by simpa using hlen, fun j q hq => ?_⟩
    by_cases hjk : k = j
    · subst hjk
      rw [hp] at hq; injection hq with hq; subst hq
      obtain ⟨q', h1, h2, h3, ⟨more, h4, h5⟩, h6, h7⟩ := hf k _ (List.getElem?_set_self (List.getElem?_eq_some_iff.1 hp).1)
      exact ⟨q', h1, h2, h3, ⟨i :: more, by rw [h4]; simp, fun r hr => by rcases List.mem_cons.1 hr with rfl | hr; exact Nat.le_refl _; have := h5 r hr; omega⟩, fun hm => by have := h6 hm; omega, h7⟩
    · obtain ⟨q', h1, h2, h3, ⟨more, h4, h5⟩, h6, h7⟩ := hf j q (by rw [List.getElem?_set_ne hjk]; exact hq)
      exact ⟨q', h1, h2, h3, ⟨more, h4, fun r hr => by have := h5 r hr; omega⟩, fun hm => by have := h6 hm; omega, h7⟩
  · obtain ⟨l', hl, ht⟩ := h.stack.top htop hp
    have hst : stStep s e st = l' := by simp [stStep, k3, hl]
    have hdec := h.dec
    rw [hl, List.pairwise_cons] at hdec
    have hkn : k ∉ l' := fun hm => Nat.lt_irrefl _ (hdec.1 k hm)
    rw [hst] at hf
    refine ⟨⟨k :: wm, by rw [hw]; simp⟩, by simpa using hlen, fun j q hq => ?_⟩
    by_cases hjk : k = j
    · subst hjk
      rw [hp] at hq; injection hq with hq; subst hq
      obtain ⟨q', h1, h2, h3, ⟨more, h4, h5⟩, h6, h7⟩ := hf k _ (List.getElem?_set_self (List.getElem?_eq_some_iff.1 hp).1)
      exact ⟨q', h1, h2, h3, ⟨more, h4, fun r hr => by have := h5 r hr; omega⟩, fun _ => by rw [h7 hkn]; exact Nat.le_refl _, fun hm => absurd (by rw [hl]; exact List.mem_cons_self) hm⟩
    · obtain ⟨q', h1, h2, h3, ⟨more, h4, h5⟩, h6, h7⟩ := hf j q (by rw [List.getElem?_set_ne hjk]; exact hq)
      refine ⟨q', h1, h2, h3, ⟨more, h4, fun r hr => by have := h5 r hr; omega⟩, fun hm => ?_, fun hm => h7 (fun hm2 => hm (by rw [hl]; exact List.mem_cons_of_mem _ hm2))⟩
      rw [hl] at hm
      rcases List.mem_cons.1 hm with e | hm
      · exact absurd e.symm hjk
      · have := h6 hm; omega
theorem momRun {evs : List Ev} {f : St} (hf : readOf evs = some f) : ∀ (n : Nat), n ≤ evs.length → ∃ s st wr, St.start.run 0 (evs.take n) = some s ∧ AtM evs n s st wr := by
  intro n
  induction n with
  | zero => exact fun _ => ⟨St.start, [], [], rfl, .start evs⟩
  | succ n ih =>
    intro hn
    obtain ⟨s, st, wr, h1, h2⟩ := ih (by omega)
    have he := List.getElem?_eq_getElem (show n < evs.length by omega)
    have hstep := St.run_take _ _ _ _ _ h1 he
    cases hs : s.step n evs[n] with
    | none =>
      exfalso
      rw [hs] at hstep
      have h3 := St.run_append St.start 0 (evs.take (n + 1)) (evs.drop (n + 1))
      rw [List.take_append_drop, hstep] at h3
      unfold readOf at hf
      rw [h3] at hf
      cases hf
    | some s' => exact ⟨s', _, _, hstep.trans hs, h2.step he hs⟩
theorem momEnd {evs : List Ev} {f : St} (hf : readOf evs = some f) {s : St} {st : List Nat} {wr : List Int} (h1 : St.start.run 0 evs = some s) (h2 : AtM evs evs.length s st wr) : s = f ∧ st = [] := by
  unfold readOf at hf
  rw [h1] at hf
  simp only at hf
  split at hf
  · rename_i hc
    injection hf with hf
    refine ⟨hf, ?_⟩
    have := h2.stack
    rw [hc.1] at this
    cases this
    rfl
  · cases hf
theorem rising_eq : ∀ {l l' : List Nat}, l.Pairwise (· < ·) → l'.Pairwise (· < ·) → (∀ a, a ∈ l ↔ a ∈ l') → l = l'
  | [], [], _, _, _ => rfl
  | [], b :: l', _, _, h => ((List.not_mem_nil ((h b).2 List.mem_cons_self))).elim
  | a :: l, [], _, _, h => ((List.not_mem_nil ((h a).1 List.mem_cons_self))).elim
  | a :: l, b :: l', h1, h2, h => by
    rw [List.pairwise_cons] at h1 h2
    have hab : a = b := by
      rcases List.mem_cons.1 ((h a).1 List.mem_cons_self) with e | hm
      · exact e
      · rcases List.mem_cons.1 ((h b).2 List.mem_cons_self) with e | hm'
        · exact e.symm
        · have := h1.1 b hm'; have := h2.1 a hm; omega
    subst hab
    rw [rising_eq h1.2 h2.2 fun c => ?_]
    constructor
    · intro hc
      rcases List.mem_cons.1 ((h c).1 (List.mem_cons_of_mem _ hc)) with e | hm
      · have := h1.1 c hc; omega
      · exact hm
    · intro hc
      rcases List.mem_cons.1 ((h c).2 (List.mem_cons_of_mem _ hc)) with e | hm
      · have := h2.1 c hc; omega
      · exact hm
def toOf (f : St) (k : Nat) : Nat := match f.sps[k]? with | some p => p.to | none => 0
end Go.Proofs.YtbhiaeciiphelaaGreatDoor
namespace Go.Proofs.YtbhiaeciiphelaaGreatDoor
open Go.RowKit
def IntsAt (w : World) (v : Value) (l : List Int) : Prop := ∃ p c, v = .slice p l.length c ∧ ∀ (j : Nat) (x : Int), l[j]? = some x → ∃ g o, p = some ⟨g, o, none⟩ ∧ w.cell? ⟨g, o + j, none⟩ = some (.int .i64 x)
def RowsAt (w : World) (v : Value) (ll : List (List Int)) : Prop := ∃ p c, v = .slice p ll.length c ∧ ∀ (j : Nat) (l : List Int), ll[j]? = some l → ∃ g o u, p = some ⟨g, o, none⟩ ∧ w.cell? ⟨g, o + j, none⟩ = some u ∧ IntsAt w u l
theorem cell_keeps {w w' : World} (hk : Keeps w w') {a : Addr} {v : Value} (h : w.cell? a = some v) : w'.cell? a = some v := by
  rw [World.cell?_of_block (w' := w') (w := w) (hk.block a.block (World.block_lt_of_cell? w _ h) (fun x => x))]
  exact h
theorem IntsAt.keeps {w w' : World} {v : Value} {l : List Int} (h : IntsAt w v l) (hk : Keeps w w') : IntsAt w' v l := by
  obtain ⟨p, c, rfl, h⟩ := h
  refine ⟨p, c, rfl, fun j x hj => ?_⟩
  obtain ⟨g, o, h1, h2⟩ := h j x hj
  exact ⟨g, o, h1, cell_keeps hk h2⟩
theorem RowsAt.keeps {w w' : World} {v : Value} {l : List (List Int)} (h : RowsAt w v l) (hk : Keeps w w') : RowsAt w' v l := by
  obtain ⟨p, c, rfl, h⟩ := h
  refine ⟨p, c, rfl, fun j x hj => ?_⟩
  obtain ⟨g, o, u, h1, h2, h3⟩ := h j x hj
  exact ⟨g, o, u, h1, cell_keeps hk h2, h3.keeps hk⟩
structure Mom where
  opn : List Int
  written : List Int
  reads : List (List Int)
  deriving DecidableEq
def MomAt (w : World) (v : Value) (m : Mom) : Prop := ∃ a b c, v = .agg #[a, b, c] ∧ IntsAt w a m.opn ∧ IntsAt w b m.written ∧ RowsAt w c m.reads
theorem MomAt.keeps {w w' : World} {v : Value} {m : Mom} (h : MomAt w v m) (hk : Keeps w w') : MomAt w' v m := by
  obtain ⟨a, b, c, rfl, h1, h2, h3⟩ := h
  exact ⟨a, b, c, rfl, h1.keeps hk, h2.keeps hk, h3.keeps hk⟩
theorem lists_ne {α : Type} {l l' : List α} {j : Nat} {x y : α} (h : l[j]? = some x) (h' : l'[j]? = some y) (hxy : x ≠ y) : l ≠ l' := fun e => hxy (by rw [e, h'] at h; exact (Option.some.inj h).symm)
theorem lists_eq {α : Type} {l l' : List α} (hl : l.length = l'.length) (h : ∀ (j : Nat) (x y : α), l[j]? = some x → l'[j]? = some y → x = y) : l = l' := by
  apply List.ext_getElem hl
  intro i h1 h2
  exact h i _ _ (List.getElem?_eq_getElem h1) (List.getElem?_eq_getElem h2)
theorem bool_retq {b b' : Bool} {w w' : World} (h : b' = b) (hk : ∃ k, w' = w.drewN k) : Ending.returned (.bool b) = .returned (.bool b') ∧ ∃ k, w' = w.drewN k := ⟨by rw [h], hk⟩
set_option maxHeartbeats 4000000 in
set_option maxRecDepth 100000 in
theorem intsSame_q (w : World) (u v : Value) (l l' : List Int) (h : IntsAt w u l) (h' : IntsAt w v l') (hlen : l.length ≤ 1000000) :
    Calls Tryz.prog 20 #[u, v] w fun e w' => e = .returned (.bool (decide (l = l'))) ∧ ∃ k, w' = w.drewN k := by
  obtain ⟨p, c, rfl, h⟩ := h
  obtain ⟨q, d, rfl, h'⟩ := h'
  by_cases hll : l.length = l'.length
  · obtain ⟨n, hn⟩ : ∃ n, n = l.length := ⟨_, rfl⟩
    rw [← hll, ← hn]
    rw [← hn] at hlen
    have Hn := Lib.hid hn
    have HL := Lib.hid hll
    have H1 := Lib.hid h
    have H2 := Lib.hid h'
    clear h h' hn hll
    go_enter Tryz.func20, Tryz.ntmps20
    go_wp2
    go_loopw [5] (fun q wr => ∃ j m : Nat, j ≤ n ∧ q = .int .i64 j ∧ wr = w.drewN m ∧ ∀ (i : Nat) (x y : Int), i < j → l[i]? = some x → l'[i]? = some y → x = y) (fun q _ => n - (intOf q).toNat)
    case atStart => exact ⟨0, 0, Nat.zero_le _, rfl, rfl, fun i x y hi => absurd hi (Nat.not_lt_zero _)⟩
    case round =>
      obtain ⟨j, m, hj, rfl, rfl, hall⟩ := hrel
      have HA := Lib.hid hall
      clear hall
      by_cases hjn : j < n
      · obtain ⟨x, hx⟩ : ∃ x, l[j]? = some x := ⟨l[j]'(by rw [← Hn.out]; omega), List.getElem?_eq_getElem _⟩
        obtain ⟨y, hy⟩ : ∃ y, l'[j]? = some y := ⟨l'[j]'(by rw [← HL.out, ← Hn.out]; omega), List.getElem?_eq_getElem _⟩
        obtain ⟨g, o, rfl, c1⟩ := H1.out j x hx
        obtain ⟨g', o', rfl, c2⟩ := H2.out j y hy
        have k1 : (j : Int) < n := by omega
        have k2 : (0 : Int) ≤ j := by omega
        have HX := Lib.hid hx
        have HY := Lib.hid hy
        clear hx hy
        by_cases hxy : x = y
        · subst hxy
          go_wp2_with fail
          go_quiet (fail)
          go_wp2
          go_roundw
          case rel =>
            refine ⟨j + 1, _, by omega, by go_num, rfl, fun i x' y' hi h1 h2 => ?_⟩
            by_cases e : i < j
            · exact HA.out i x' y' e h1 h2
            · obtain rfl : i = j := by omega
              rw [HX.out] at h1; rw [HY.out] at h2
              exact (Option.some.inj h1).symm.trans (Option.some.inj h2)
          case measure => simp [intOf] <;> omega
        · go_wp2_with fail
          go_quiet (fail)
          go_wp2
          go_ret
          exact bool_retq (decide_eq_false (lists_ne HX.out HY.out hxy)) ⟨_, World.drewN_drewN _ _ _⟩
      · obtain rfl : j = n := by omega
        go_wp2
        go_ret
        exact bool_retq (decide_eq_true (lists_eq HL.out fun i x y h1 h2 => HA.out i x y (by rw [Hn.out]; exact (List.getElem?_eq_some_iff.1 h1).1) h1 h2)) ⟨_, rfl⟩
  · have hne : l ≠ l' := fun e => hll (by rw [e])
    rw [decide_eq_false hne]
    generalize l.length = n at *
    generalize l'.length = n' at *
    have k1 : ¬ (n : Int) = n' := by omega
    clear h h' hne
    go_enter Tryz.func20, Tryz.ntmps20
    go_wp2
    go_ret
    exact ⟨rfl, 0, rfl⟩
theorem intsSame_of (w : World) (u v : Value) (l l' : List Int) (h : IntsAt w u l) (h' : IntsAt w v l') (hlen : l.length ≤ 1000000) :
    Calls Tryz.prog 20 #[u, v] w fun e w' => e = .returned (.bool (decide (l = l'))) ∧ Keeps w w' :=
  (intsSame_q w u v l l' h h' hlen).mono (fun _ _ h => ⟨h.1, by obtain ⟨k, h2⟩ := h.2; rw [h2]; exact Keeps.drewN _ _⟩)
end Go.Proofs.YtbhiaeciiphelaaGreatDoor
namespace Go.Proofs.YtbhiaeciiphelaaGreatDoor
def addrOf (f : St) (k : Nat) : Int := match f.sps[k]? with | some p => p.addr | none => 0
def readsOf (f : St) (k : Nat) : List Nat := match f.sps[k]? with | some p => p.reads | none => []
def addrAt (evs : List Ev) (i : Nat) : Int := match evs[i]? with | some e => e.addr | none => 0
def openOf (f : St) (x m : Nat) : List Nat := (List.range m).filter fun k => decide (x ≤ toOf f k)
def seenOf (evs : List Ev) (f : St) (x k : Nat) : List Int := ((readsOf f k).filter fun r => decide (r < x)).map (addrAt evs)
def slots (wr : List Int) : List Int := ((List.range 30000).map fun a : Nat => (a : Int)).filter fun a => decide (a ∈ wr)
def momOf (evs : List Ev) (s : St) (st : List Nat) (wr : List Int) : Mom := ⟨st.reverse.map (addrOf s), slots wr, st.reverse.map fun k => (readsOf s k).map (addrAt evs)⟩
theorem Stack.uniq {sps : List Sp} : ∀ {o : Option Nat} {l l' : List Nat}, Stack sps o l → Stack sps o l' → l = l'
  | _, _, _, .nil, .nil => rfl
  | _, _, _, .cons h t, .cons h' t' => by
    rw [h] at h'
    injection h' with h'
    subst h'
    rw [t.uniq t']
theorem slots_congr {wr wr' : List Int} (h : ∀ a, a ∈ wr ↔ a ∈ wr') : slots wr = slots wr' := by
  unfold slots
  refine List.filter_congr fun a _ => ?_
  simp [h a]
theorem AtM.uniq {evs : List Ev} {i : Nat} {s : St} {st st' : List Nat} {wr wr' : List Int} (h : AtM evs i s st wr) (h' : AtM evs i s st' wr') : momOf evs s st wr = momOf evs s st' wr' := by
  have e := h.stack.uniq h'.stack
  subst e
  unfold momOf
  rw [slots_congr fun a => (h.wrm a).trans (h'.wrm a).symm]
theorem rising_eqI : ∀ {l l' : List Int}, l.Pairwise (· < ·) → l'.Pairwise (· < ·) → (∀ a, a ∈ l ↔ a ∈ l') → l = l'
  | [], [], _, _, _ => rfl
  | [], b :: l', _, _, h => ((List.not_mem_nil ((h b).2 List.mem_cons_self))).elim
  | a :: l, [], _, _, h => ((List.not_mem_nil ((h a).1 List.mem_cons_self))).elim
  | a :: l, b :: l', h1, h2, h => by
    rw [List.pairwise_cons] at h1 h2
    have hab : a = b := by
      rcases List.mem_cons.1 ((h a).1 List.mem_cons_self) with e | e
      · exact e
      · rcases List.mem_cons.1 ((h b).2 List.mem_cons_self) with e' | e'
        · exact e'.symm
        · have := h2.1 a e; have := h1.1 b e'; omega
    subst hab
    rw [rising_eqI h1.2 h2.2 fun x => ?_]
    constructor
    · intro hx
      rcases List.mem_cons.1 ((h x).1 (List.mem_cons_of_mem _ hx)) with e | e
      · subst e; have := h1.1 x hx; omega
      · exact e
    · intro hx
      rcases List.mem_cons.1 ((h x).2 (List.mem_cons_of_mem _ hx)) with e | e
      · subst e; have := h2.1 x hx; omega
      · exact e
theorem nums_rising : ∀ n : Nat, ((List.range n).map fun a : Nat => (a : Int)).Pairwise (· < ·) := by
  intro n
  rw [List.pairwise_map]
  exact List.pairwise_lt_range.imp (fun h => by omega)
theorem mem_slots {wr : List Int} {a : Int} : a ∈ slots wr ↔ (0 ≤ a ∧ a < 30000) ∧ a ∈ wr := by
  unfold slots
  rw [List.mem_filter, decide_eq_true_eq, List.mem_map]
  constructor
  · rintro ⟨⟨k, hk, rfl⟩, h2⟩
    rw [List.mem_range] at hk
    exact ⟨⟨by omega, by omega⟩, h2⟩
  · rintro ⟨⟨h0, h1⟩, h2⟩
    exact ⟨⟨a.toNat, by rw [List.mem_range]; omega, by omega⟩, h2⟩
def InB (s : St) : Prop := ∀ (k : Nat) (p : Sp), s.sps[k]? = some p → 0 ≤ p.addr ∧ p.addr < 30000
theorem step_okform {s s' : St} {i : Nat} {e : Ev} (h : s.step i e = some s') : e.form = true := by
  unfold St.step at h
  split at h
  · cases h
  · rename_i hf; simpa using hf
theorem InB.step {s s' : St} {i : Nat} {e : Ev} (h : InB s) (hs : s.step i e = some s') : InB s' := by
  have hf := form_addr (step_okform hs)
  rcases step_cases hs with ⟨k1, hany, rfl⟩ | ⟨k, p, htop, hp, k2, rfl⟩ | ⟨k, p, htop, hp, k3, hpa, rfl⟩
  · intro k p hp
    rcases split_new hp with ⟨_, hp⟩ | ⟨_, rfl⟩
    · exact h k p hp
    · exact hf
  · intro j q hq
    rcases set_at hp hq with ⟨rfl, rfl⟩ | ⟨_, hq⟩
    · exact h _ p hp
    · exact h j q hq
  · intro j q hq
    rcases set_at hp hq with ⟨rfl, rfl⟩ | ⟨_, hq⟩
    · exact h _ p hp
    · exact h j q hq
theorem InB.run : ∀ (l : List Ev) (s s' : St) (i : Nat), InB s → s.run i l = some s' → InB s'
  | [], s, s', i, h, hr => by
    injection hr with hr
    subst hr; exact h
  | e :: l, s, s', i, h, hr => by
    simp only [St.run] at hr
    cases hs : s.step i e with
    | none => rw [hs] at hr; cases hr
    | some s2 => rw [hs] at hr; exact InB.run l s2 s' (i + 1) (h.step hs) hr
theorem InB.start : InB St.start := fun k p h => by simp [St.start] at h
structure Mom.le (m : Mom) (n : Nat) : Prop where
  opn : m.opn.length ≤ n
  written : m.written.length ≤ n
  reads : m.reads.length ≤ n
  each : ∀ x ∈ m.reads, x.length ≤ n
theorem AtM.stlen {evs : List Ev} {x : Nat} {s : St} {st : List Nat} {wr : List Int} (ha : AtM evs x s st wr) : st.length ≤ x := by
  have h2 := ha.ok.spsn
  have h4 : st.reverse.Pairwise (· < ·) := List.pairwise_reverse.2 ha.dec
  have h5 : st.reverse = (List.range s.sps.length).filter fun k => decide (k ∈ st) := rising_eq h4 (List.pairwise_lt_range.filter _) fun k => by
    rw [List.mem_reverse, List.mem_filter, List.mem_range, decide_eq_true_eq]
    exact ⟨fun h => ⟨ha.stack.lt k h, h⟩, fun h => h.2⟩
  have h6 := List.length_filter_le (fun k => decide (k ∈ st)) (List.range s.sps.length)
  rw [← h5] at h6
  simp only [List.length_reverse, List.length_range] at h6
  omega
end Go.Proofs.YtbhiaeciiphelaaGreatDoor
