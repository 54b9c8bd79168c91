/-
  DERIVED. What there is at a moment, in plain Lean: what is open, what is written, and how that stands to read's answer. No condition.
-/
import Derived.Test.YtbhiaeciiphelaaGreatDoorEvA
import Derived.Test.YtbhiaeciiphelaaGreatDoorEvX
import Derived.Test.YtbhiaeciiphelaaGreatDoorShelf
namespace Go.Proofs.YtbhiaeciiphelaaGreatDoor
inductive Stack (sps : List Sp) : Option Nat → List Nat → Prop
  | nil : Stack sps none []
  | cons {k : Nat} {p : Sp} {l : List Nat} (h : sps[k]? = some p) (t : Stack sps p.outer l) : Stack sps (some k) (k :: l)
theorem Stack.mono {sps sps' : List Sp} (hs : ∀ (k : Nat) (p : Sp), sps[k]? = some p → ∃ p', sps'[k]? = some p' ∧ p'.outer = p.outer) : ∀ {o : Option Nat} {l : List Nat}, Stack sps o l → Stack sps' o l
  | _, _, .nil => .nil
  | _, _, .cons h t => by
    obtain ⟨p', h1, h3⟩ := hs _ _ h
    exact Stack.cons h1 (by rw [h3]; exact t.mono hs)
theorem Stack.lt {sps : List Sp} : ∀ {o : Option Nat} {l : List Nat}, Stack sps o l → ∀ k ∈ l, k < sps.length
  | _, _, .nil, k, hk => (List.not_mem_nil hk).elim
  | _, _, .cons h t, k, hk => by
    rcases List.mem_cons.1 hk with rfl | hk
    · exact (List.getElem?_eq_some_iff.1 h).1
    · exact t.lt k hk
theorem Stack.set {sps : List Sp} {k : Nat} {p q : Sp} (hp : sps[k]? = some p) (ho : q.outer = p.outer) {o : Option Nat} {l : List Nat} (h : Stack sps o l) : Stack (sps.set k q) o l := by
  refine h.mono fun j r hr => ?_
  by_cases e : k = j
  · subst e
    rw [hp] at hr; injection hr with hr; subst hr
    exact ⟨q, List.getElem?_set_self (List.getElem?_eq_some_iff.1 hp).1, ho⟩
  · exact ⟨r, by rw [List.getElem?_set_ne e]; exact hr, rfl⟩
structure AtM (evs : List Ev) (i : Nat) (s : St) (st : List Nat) (wr : List Int) : Prop where
  ok : StOk evs i s
  stack : Stack s.sps s.top st
  dec : st.Pairwise (fun a b => b < a)
  shut : ∀ (k : Nat) (p : Sp), s.sps[k]? = some p → k ∉ st → p.to < i
  wrm : ∀ a, a ∈ wr ↔ ∃ (k : Nat) (p : Sp), s.sps[k]? = some p ∧ k ∉ st ∧ p.addr = a
  wrnd : wr.Nodup
  made : ∀ (k : Nat) (p : Sp), s.sps[k]? = some p → ∃ e, evs[p.frm]? = some e ∧ e.kind = 1 ∧ e.addr = p.addr
  rds : ∀ (k : Nat) (p : Sp), s.sps[k]? = some p → p.reads.Pairwise (· < ·) ∧ ∀ r ∈ p.reads, r < i
theorem AtM.start (evs : List Ev) : AtM evs 0 St.start [] [] :=
  ⟨.start evs, .nil, .nil, fun k p h => by simp [St.start] at h, fun a => ⟨fun h => (List.not_mem_nil h).elim, fun ⟨k, p, h, _⟩ => by simp [St.start] at h⟩, List.nodup_nil, fun k p h => by simp [St.start] at h, fun k p h => by simp [St.start] at h⟩
def stStep (s : St) (e : Ev) (st : List Nat) : List Nat := if e.kind = 1 then s.sps.length :: st else if e.kind = 2 then st else st.tail
def wrStep (e : Ev) (wr : List Int) : List Int := if e.kind = 3 then wr ++ [e.addr] else wr
theorem split_new {sps : List Sp} {q : Sp} {k : Nat} {p : Sp} (hp : (sps ++ [q])[k]? = some p) : (k < sps.length ∧ sps[k]? = some p) ∨ (k = sps.length ∧ p = q) := by
  rcases Nat.lt_trichotomy k sps.length with hk | hk | hk
  · rw [List.getElem?_append_left hk] at hp; exact .inl ⟨hk, hp⟩
  · subst hk; simp at hp; exact .inr ⟨rfl, hp.symm⟩
  · rw [List.getElem?_append_right (by omega), List.getElem?_eq_none (by simp; omega)] at hp; cases hp
theorem step_cases {s s' : St} {i : Nat} {e : Ev} (h : s.step i e = some s') :
    (e.kind = 1 ∧ s.sps.any (fun p => p.addr == e.addr) = false ∧ s' = ⟨s.sps ++ [⟨i, 0, s.top, e.addr, []⟩], some s.sps.length, s.nodes + 1, s.within ++ [s.sps.length]⟩) ∨
    (∃ k p, s.top = some k ∧ s.sps[k]? = some p ∧ e.kind = 2 ∧ s' = ⟨s.sps.set k { p with reads := p.reads ++ [i] }, some k, s.nodes + 1, s.within ++ [k]⟩) ∨
    (∃ k p, s.top = some k ∧ s.sps[k]? = some p ∧ e.kind = 3 ∧ p.addr = e.addr ∧ s' = ⟨s.sps.set k { p with to := i }, p.outer, s.nodes, s.within ++ [k]⟩) := by
  unfold St.step at h
  split at h
  · cases h
  rename_i hform
  split at h
  · rename_i k1
    split at h
    · cases h
    rename_i hany
    injection h with h
    exact .inl ⟨k1, by simpa using hany, h.symm⟩
  · rename_i k1
    split at h
    · cases h
    rename_i k htop
    split at h
    · cases h
    rename_i p hp
    split at h
    · rename_i k2
      injection h with h
      exact .inr (.inl ⟨k, p, htop, hp, k2, h.symm⟩)
    · rename_i k2
      split at h
      · rename_i hpa
        injection h with h
        have k3 : e.kind = 3 := by
          unfold Ev.form at hform
          apply Classical.byContradiction
          intro k3
          simp [k1, k2, k3] at hform
        exact .inr (.inr ⟨k, p, htop, hp, k3, hpa, h.symm⟩)
      · cases h
theorem Stack.top {sps : List Sp} {o : Option Nat} {l : List Nat} (h : Stack sps o l) {k : Nat} (ho : o = some k) {p : Sp} (hp : sps[k]? = some p) : ∃ l', l = k :: l' ∧ Stack sps p.outer l' := by
  cases h with
  | nil => cases ho
  | @cons k' p' l' h t =>
    injection ho with ho
    subst ho
    rw [h] at hp
    injection hp with hp
    subst hp
    exact ⟨l', rfl, t⟩
theorem AtM.step {evs : List Ev} {i : Nat} {s s' : St} {e : Ev} {st : List Nat} {wr : List Int} (h : AtM evs i s st wr) (he : evs[i]? = some e) (hs : s.step i e = some s') : AtM evs (i + 1) s' (stStep s e st) (wrStep e wr) := by
  have hok := h.ok.step he hs
  have huniq : ∀ (j k : Nat) (p q : Sp), s.sps[j]? = some p → s.sps[k]? = some q → p.addr = q.addr → j = k := by
    intro j k p q hp hq hpq
    have e1 : (s.sps.map (·.addr))[j]? = some p.addr := by rw [List.getElem?_map, hp]; rfl
    have e2 : (s.sps.map (·.addr))[k]? = some p.addr := by rw [List.getElem?_map, hq, hpq]; rfl
    exact (List.getElem?_inj (List.getElem?_eq_some_iff.1 e1).1 h.ok.nd).1 (e1.trans e2.symm)
  rcases step_cases hs with ⟨k1, hany, rfl⟩ | ⟨k, p, htop, hp, k2, rfl⟩ | ⟨k, p, htop, hp, k3, hpa, rfl⟩
  · have hst : stStep s e st = s.sps.length :: st := by simp [stStep, k1]
    have hwr : wrStep e wr = wr := by simp [wrStep, k1]
    rw [hst, hwr]
    have hnot : s.sps.length ∉ st := fun hm => Nat.lt_irrefl _ (h.stack.lt _ hm)
    refine ⟨hok, ?_, ?_, ?_, ?_, h.wrnd, ?_, ?_⟩
    · refine Stack.cons (p := ⟨i, 0, s.top, e.addr, []⟩) (by simp) (h.stack.mono fun j q hq => ⟨q, ?_, rfl⟩)
      rw [List.getElem?_append_left (List.getElem?_eq_some_iff.1 hq).1]; exact hq
    · exact List.pairwise_cons.2 ⟨fun b hb => h.stack.lt b hb, h.dec⟩
    · intro j q hq hj
      rcases split_new hq with ⟨hjl, hq⟩ | ⟨rfl, rfl⟩
      · have := h.shut j q hq (fun hm => hj (List.mem_cons_of_mem _ hm)); omega
      · exact absurd (List.mem_cons_self) hj
    · intro a
      rw [h.wrm]
      constructor
      · rintro ⟨j, q, hq, hj, ha⟩
        have hjl := (List.getElem?_eq_some_iff.1 hq).1
        refine ⟨j, q, by rw [List.getElem?_append_left hjl]; exact hq, ?_, ha⟩
        intro hm
        rcases List.mem_cons.1 hm with e | hm
        · omega
        · exact hj hm
      · rintro ⟨j, q, hq, hj, ha⟩
        rcases split_new hq with ⟨hjl, hq⟩ | ⟨rfl, rfl⟩
        · exact ⟨j, q, hq, fun hm => hj (List.mem_cons_of_mem _ hm), ha⟩
        · exact absurd (List.mem_cons_self) hj
    · intro j q hq
      rcases split_new hq with ⟨hjl, hq⟩ | ⟨rfl, rfl⟩
      · exact h.made j q hq
      · exact ⟨e, he, k1, rfl⟩
    · intro j q hq
      rcases split_new hq with ⟨hjl, hq⟩ | ⟨rfl, rfl⟩
      · exact ⟨(h.rds j q hq).1, fun r hr => by have := (h.rds j q hq).2 r hr; omega⟩
      · exact ⟨List.Pairwise.nil, fun r hr => (List.not_mem_nil hr).elim⟩
  · have hst : stStep s e st = st := by simp [stStep, k2]
    have hwr : wrStep e wr = wr := by simp [wrStep, k2]
    rw [hst, hwr]
    refine ⟨hok, ?_, h.dec, ?_, ?_, h.wrnd, ?_, ?_⟩
    · have := h.stack.set (q := { p with reads := p.reads ++ [i] }) hp rfl
      rw [htop] at this; exact this
    · intro j q hq hj
      rcases set_at hp hq with ⟨rfl, rfl⟩ | ⟨_, hq⟩
      · have := h.shut _ p hp hj; simp; omega
      · have := h.shut j q hq hj; omega
    · intro a
      rw [h.wrm]
      constructor
      · rintro ⟨j, q, hq, hj, ha⟩
        by_cases hjk : k = j
        · subst hjk
          rw [hp] at hq; injection hq with hq; subst hq
          exact ⟨k, _, List.getElem?_set_self (List.getElem?_eq_some_iff.1 hp).1, hj, ha⟩
        · exact ⟨j, q, by rw [List.getElem?_set_ne hjk]; exact hq, hj, ha⟩
      · rintro ⟨j, q, hq, hj, ha⟩
        rcases set_at hp hq with ⟨rfl, rfl⟩ | ⟨_, hq⟩
        · exact ⟨_, p, hp, hj, ha⟩
        · exact ⟨j, q, hq, hj, ha⟩
    · intro j q hq
      rcases set_at hp hq with ⟨rfl, rfl⟩ | ⟨_, hq⟩
      · exact h.made _ p hp
      · exact h.made j q hq
    · intro j q hq
      rcases set_at hp hq with ⟨rfl, rfl⟩ | ⟨_, hq⟩
      · obtain ⟨h1, h2⟩ := h.rds _ p hp
        refine ⟨?_, fun r hr => ?_⟩
        · show (p.reads ++ [i]).Pairwise (· < ·)
          rw [List.pairwise_append]
          exact ⟨h1, by simp, fun x hx y hy => by rw [List.mem_singleton] at hy; subst hy; exact h2 x hx⟩
        · rcases List.mem_append.1 hr with hr | hr
          · have := h2 r hr; omega
          · rw [List.mem_singleton] at hr; omega
      · exact ⟨(h.rds j q hq).1, fun r hr => by have := (h.rds j q hq).2 r hr; omega⟩
  · obtain ⟨l', hl, ht⟩ := h.stack.top htop hp
    have hst : stStep s e st = l' := by simp [stStep, k3, hl]
    have hwr : wrStep e wr = wr ++ [e.addr] := by simp [wrStep, k3]
    rw [hst, hwr]
    have hdec := h.dec
    rw [hl, List.pairwise_cons] at hdec
    have hkn : k ∉ l' := fun hm => Nat.lt_irrefl _ (hdec.1 k hm)
    refine ⟨hok, Stack.set (q := { p with to := i }) hp rfl ht, hdec.2, ?_, ?_, ?_, ?_, ?_⟩
    · intro j q hq hj
      rcases set_at hp hq with ⟨rfl, rfl⟩ | ⟨hjk, hq⟩
      · simp
      · have := h.shut j q hq (fun hm => by rw [hl] at hm; rcases List.mem_cons.1 hm with e | hm; exact hjk e; exact hj hm); omega
    · intro a
      rw [List.mem_append, h.wrm, List.mem_singleton]
      constructor
      · rintro (⟨j, q, hq, hj, ha⟩ | rfl)
        · have hjk : k ≠ j := fun e => hj (by rw [hl, ← e]; exact List.mem_cons_self)
          exact ⟨j, q, by rw [List.getElem?_set_ne hjk]; exact hq, fun hm => hj (by rw [hl]; exact List.mem_cons_of_mem _ hm), ha⟩
        · exact ⟨k, _, List.getElem?_set_self (List.getElem?_eq_some_iff.1 hp).1, hkn, hpa⟩
      · rintro ⟨j, q, hq, hj, ha⟩
        rcases set_at hp hq with ⟨rfl, rfl⟩ | ⟨hjk, hq⟩
        · exact .inr (ha.symm.trans hpa)
        · exact .inl ⟨j, q, hq, fun hm => by rw [hl] at hm; rcases List.mem_cons.1 hm with e | hm; exact hjk e; exact hj hm, ha⟩
    · rw [List.nodup_append]
      refine ⟨h.wrnd, by simp, ?_⟩
      intro a ha b hb hab
      rw [List.mem_singleton] at hb
      subst hb; subst hab
      obtain ⟨j, q, hq, hj, hqa⟩ := (h.wrm _).1 ha
      have := huniq j k q p hq hp (hqa.trans hpa.symm)
      exact hj (by rw [hl, this]; exact List.mem_cons_self)
    · intro j q hq
      rcases set_at hp hq with ⟨rfl, rfl⟩ | ⟨_, hq⟩
      · exact h.made _ p hp
      · exact h.made j q hq
    · intro j q hq
      rcases set_at hp hq with ⟨rfl, rfl⟩ | ⟨_, hq⟩
      · exact ⟨(h.rds _ p hp).1, fun r hr => by have := (h.rds _ p hp).2 r hr; omega⟩
      · exact ⟨(h.rds j q hq).1, fun r hr => by have := (h.rds j q hq).2 r hr; omega⟩
def Ends (i : Nat) (s : St) (st : List Nat) (f : St) : Prop :=
  (∃ more, f.within = s.within ++ more) ∧ s.sps.length ≤ f.sps.length ∧ ∀ (k : Nat) (p : Sp), s.sps[k]? = some p → ∃ p', f.sps[k]? = some p' ∧ p'.frm = p.frm ∧ p'.addr = p.addr ∧ (∃ more, p'.reads = p.reads ++ more ∧ ∀ r ∈ more, i ≤ r) ∧ (k ∈ st → i ≤ p'.to) ∧ (k ∉ st → p'.to = p.to)
theorem Ends.refl (i : Nat) (s : St) : Ends i s [] s := ⟨⟨[], by simp⟩, Nat.le_refl _, fun k p hp => ⟨p, hp, rfl, rfl, ⟨[], by simp, fun r hr => (List.not_mem_nil hr).elim⟩, fun h => (List.not_mem_nil h).elim, fun _ => rfl⟩⟩
theorem Ends.back {evs : List Ev} {i : Nat} {s s' f : St} {e : Ev} {st : List Nat} {wr : List Int} (h : AtM evs i s st wr) (hs : s.step i e = some s') (hf : Ends (i + 1) s' (stStep s e st) f) : Ends i s st f := by
  obtain ⟨⟨wm, hw⟩, hlen, hf⟩ := hf
  rcases step_cases hs with ⟨k1, hany, rfl⟩ | ⟨k, p, htop, hp, k2, rfl⟩ | ⟨k, p, htop, hp, k3, hpa, rfl⟩
  · have hst : stStep s e st = s.sps.length :: st := by simp [stStep, k1]
    rw [hst] at hf
    refine ⟨⟨s.sps.length :: wm, by rw [hw]; simp⟩, by simp at hlen; omega, fun j q hq => ?_⟩
    have hjl := (List.getElem?_eq_some_iff.1 hq).1
    obtain ⟨q', h1, h2, h3, ⟨more, h4, h5⟩, h6, h7⟩ := hf j q (by rw [List.getElem?_append_left hjl]; exact hq)
    exact ⟨q', h1, h2, h3, ⟨more, h4, fun r hr => by have := h5 r hr; omega⟩, fun hm => by have := h6 (List.mem_cons_of_mem _ hm); omega, fun hm => h7 (fun hm2 => by rcases List.mem_cons.1 hm2 with e | hm2; omega; exact hm hm2)⟩
  · have hst : stStep s e st = st := by simp [stStep, k2]
    rw [hst] at hf
    refine ⟨⟨k :: wm, by rw [hw]; simp⟩, by simpa using hlen, fun j q hq => ?_⟩
    by_cases hjk : k = j
    · subst hjk
      rw [hp] at hq; injection hq with hq; subst hq
      obtain ⟨q', h1, h2, h3, ⟨more, h4, h5⟩, h6, h7⟩ := hf k _ (List.getElem?_set_self (List.getElem?_eq_some_iff.1 hp).1)
      exact ⟨q', h1, h2, h3, ⟨i :: more, by rw [h4]; simp, fun r hr => by rcases List.mem_cons.1 hr with rfl | hr; exact Nat.le_refl _; have := h5 r hr; omega⟩, fun hm => by have := h6 hm; omega, h7⟩
    · obtain ⟨q', h1, h2, h3, ⟨more, h4, h5⟩, h6, h7⟩ := hf j q (by rw [List.getElem?_set_ne hjk]; exact hq)
      exact ⟨q', h1, h2, h3, ⟨more, h4, fun r hr => by have := h5 r hr; omega⟩, fun hm => by have := h6 hm; omega, h7⟩
  · obtain ⟨l', hl, ht⟩ := h.stack.top htop hp
    have hst : stStep s e st = l' := by simp [stStep, k3, hl]
    have hdec := h.dec
    rw [hl, List.pairwise_cons] at hdec
    have hkn : k ∉ l' := fun hm => Nat.lt_irrefl _ (hdec.1 k hm)
    rw [hst] at hf
    refine ⟨⟨k :: wm, by rw [hw]; simp⟩, by simpa using hlen, fun j q hq => ?_⟩
    by_cases hjk : k = j
    · subst hjk
      rw [hp] at hq; injection hq with hq; subst hq
      obtain ⟨q', h1, h2, h3, ⟨more, h4, h5⟩, h6, h7⟩ := hf k _ (List.getElem?_set_self (List.getElem?_eq_some_iff.1 hp).1)
      exact ⟨q', h1, h2, h3, ⟨more, h4, fun r hr => by have := h5 r hr; omega⟩, fun _ => by rw [h7 hkn]; exact Nat.le_refl _, fun hm => absurd (by rw [hl]; exact List.mem_cons_self) hm⟩
    · obtain ⟨q', h1, h2, h3, ⟨more, h4, h5⟩, h6, h7⟩ := hf j q (by rw [List.getElem?_set_ne hjk]; exact hq)
      refine ⟨q', h1, h2, h3, ⟨more, h4, fun r hr => by have := h5 r hr; omega⟩, fun hm => ?_, fun hm => h7 (fun hm2 => hm (by rw [hl]; exact List.mem_cons_of_mem _ hm2))⟩
      rw [hl] at hm
      rcases List.mem_cons.1 hm with e | hm
      · exact absurd e.symm hjk
      · have := h6 hm; omega
end Go.Proofs.YtbhiaeciiphelaaGreatDoor
namespace Go.Proofs.YtbhiaeciiphelaaGreatDoor
open Go.RowKit
def IntsAt (w : World) (v : Value) (l : List Int) : Prop := ∃ p c, v = .slice p l.length c ∧ ∀ (j : Nat) (x : Int), l[j]? = some x → ∃ g o, p = some ⟨g, o, none⟩ ∧ w.cell? ⟨g, o + j, none⟩ = some (.int .i64 x)
def RowsAt (w : World) (v : Value) (ll : List (List Int)) : Prop := ∃ p c, v = .slice p ll.length c ∧ ∀ (j : Nat) (l : List Int), ll[j]? = some l → ∃ g o u, p = some ⟨g, o, none⟩ ∧ w.cell? ⟨g, o + j, none⟩ = some u ∧ IntsAt w u l
theorem cell_keeps {w w' : World} (hk : Keeps w w') {a : Addr} {v : Value} (h : w.cell? a = some v) : w'.cell? a = some v := by
  rw [World.cell?_of_block (w' := w') (w := w) (hk.block a.block (World.block_lt_of_cell? w _ h) (fun x => x))]
  exact h
theorem IntsAt.keeps {w w' : World} {v : Value} {l : List Int} (h : IntsAt w v l) (hk : Keeps w w') : IntsAt w' v l := by
  obtain ⟨p, c, rfl, h⟩ := h
  refine ⟨p, c, rfl, fun j x hj => ?_⟩
  obtain ⟨g, o, h1, h2⟩ := h j x hj
  exact ⟨g, o, h1, cell_keeps hk h2⟩
theorem RowsAt.keeps {w w' : World} {v : Value} {l : List (List Int)} (h : RowsAt w v l) (hk : Keeps w w') : RowsAt w' v l := by
  obtain ⟨p, c, rfl, h⟩ := h
  refine ⟨p, c, rfl, fun j x hj => ?_⟩
  obtain ⟨g, o, u, h1, h2, h3⟩ := h j x hj
  exact ⟨g, o, u, h1, cell_keeps hk h2, h3.keeps hk⟩
structure Mom where
  opn : List Int
  written : List Int
  reads : List (List Int)
  deriving DecidableEq
def MomAt (w : World) (v : Value) (m : Mom) : Prop := ∃ a b c, v = .agg #[a, b, c] ∧ IntsAt w a m.opn ∧ IntsAt w b m.written ∧ RowsAt w c m.reads
theorem MomAt.keeps {w w' : World} {v : Value} {m : Mom} (h : MomAt w v m) (hk : Keeps w w') : MomAt w' v m := by
  obtain ⟨a, b, c, rfl, h1, h2, h3⟩ := h
  exact ⟨a, b, c, rfl, h1.keeps hk, h2.keeps hk, h3.keeps hk⟩
end Go.Proofs.YtbhiaeciiphelaaGreatDoor
namespace Go.Proofs.YtbhiaeciiphelaaGreatDoor
open Go.RowKit
theorem Kept.one1 {B : Nat} {W W' : World} (h : Kept (fun b => b = B) W W') (o : Nat) (v : Value) : Kept (fun b => b = B) W (W'.setCell ⟨B, o, none⟩ v) := h.setCell (p := ⟨B, o, none⟩) (fun _ => rfl) v
theorem Kept.one0 {B : Nat} {W W' : World} (h : Keeps W W') (hB : W.heap.size ≤ B) (o : Nat) (v : Value) : Keeps W (W'.setCell ⟨B, o, none⟩ v) := h.setCell (p := ⟨B, o, none⟩) (fun h => absurd h (Nat.not_lt.2 hB)) v
structure Fam (base : Nat) (W : World) (F : Nat → Value) (C : Nat → List Int) (n : Nat) : Prop where
  rows : ∀ k, k < n → W.ownsRow base 3 1 (F k) (C k).length (ints (C k))
  apart : ∀ (j k b : Nat), j < n → k < n → j ≠ k → (F j).ownBlock = some b → (F k).ownBlock ≠ some b
section
variable {base n : Nat} {W W' : World} {F : Nat → Value} {C : Nat → List Int}
theorem Fam.block (h : Fam base W F C n) {k b : Nat} (hk : k < n) (hb : (F k).ownBlock = some b) : (∃ cur, W.heap[b]? = some (.cells cur 3 (0, 0))) ∧ base ≤ b := ⟨row_block (h.rows k hk) hb, ((h.rows k hk).lt b hb).1⟩
theorem Fam.keep {S : Nat → Prop} (h : Fam base W F C n) (hk : Kept S W W') (hS : ∀ (k b : Nat), k < n → (F k).ownBlock = some b → ¬ S b) : Fam base W' F C n :=
  ⟨fun k hkn => row_same (h.rows k hkn) fun g hg => hk.block g ((h.rows k hkn).lt g hg).2 (hS k g hkn hg), h.apart⟩
theorem Fam.keeps (h : Fam base W F C n) (hk : Keeps W W') : Fam base W' F C n := h.keep hk (fun _ _ _ _ x => x)
theorem Fam.other (h : Fam base W F C n) {B : Nat} {c : Array Value} {t : TypeId} {fr : Nat × Nat} (hB : W.heap[B]? = some (.cells c t fr)) (ht : t ≠ 3) (hk : Kept (fun b => b = B) W W') : Fam base W' F C n :=
  h.keep hk fun k b hkn hb e => by
    obtain ⟨⟨cur, hc⟩, _⟩ := h.block hkn hb
    rw [e, hB] at hc
    simp at hc
    exact ht hc.2.1
theorem Fam.add (h : Fam base W F C n) : Fam base W (fun k => if k = n then .slice none 0 0 else F k) (fun k => if k = n then [] else C k) (n + 1) := by
  refine ⟨fun k hk => ?_, fun j k b hj hk hjk hb => ?_⟩
  · by_cases e : k = n
    · simp only [e, if_true]; exact World.ownsRow_nil _ _ _ _
    · simp only [e, if_false]; exact h.rows k (by omega)
  · by_cases e : j = n
    · simp only [e, if_true] at hb; simp [Value.ownBlock] at hb
    · simp only [e, if_false] at hb
      by_cases e2 : k = n
      · simp only [e2, if_true]; simp [Value.ownBlock]
      · simp only [e2, if_false]; exact h.apart j k b (by omega) (by omega) hjk hb
theorem Fam.app (h : Fam base W F C n) {j : Nat} {v : Value} {x : Int} (hj : j < n) (hk : Kept (fun b => (F j).ownBlock = some b) W W') (hr : W'.ownsRow base 3 1 v ((C j).length + 1) (ints (C j) ++ [.int .i64 x]))
    (hat : v.ownBlock = (F j).ownBlock ∨ ∃ g, v.ownBlock = some g ∧ W.heap.size ≤ g) : Fam base W' (fun k => if k = j then v else F k) (fun k => if k = j then C j ++ [x] else C k) n := by
  refine ⟨fun k hkn => ?_, fun i k b hi hkn hik hb => ?_⟩
  · by_cases e : k = j
    · simp only [e, if_true]
      have e1 : (C j ++ [x]).length = (C j).length + 1 := by simp
      have e2 : ints (C j ++ [x]) = ints (C j) ++ [.int .i64 x] := by simp [ints]
      rw [e1, e2]; exact hr
    · simp only [e, if_false]
      exact row_same (h.rows k hkn) fun g hg => hk.block g ((h.rows k hkn).lt g hg).2 fun hg2 => h.apart k j g hkn hj e hg hg2
  · by_cases e : i = j
    · simp only [e, if_true] at hb
      have e2 : ¬ k = j := fun e2 => hik (by rw [e, e2])
      simp only [e2, if_false]
      rcases hat with hat | ⟨g, hg, hl⟩
      · exact h.apart j k b hj hkn (fun x => e2 x.symm) (hat ▸ hb)
      · intro hkb
        rw [hg] at hb
        injection hb with hb
        have := ((h.rows k hkn).lt b hkb).2
        omega
    · simp only [e, if_false] at hb
      by_cases e2 : k = j
      · simp only [e2, if_true]
        rcases hat with hat | ⟨g, hg, hl⟩
        · rw [hat]; exact h.apart i j b hi hj e hb
        · intro hkb
          rw [hg] at hkb
          injection hkb with hkb
          have := ((h.rows i hi).lt b hb).2
          omega
      · simp only [e2, if_false]
        exact h.apart i k b hi hkn hik hb
theorem ints_at {v : Value} {l : List Int} (h : W.ownsRow base 3 1 v l.length (ints l)) : IntsAt W v l := by
  rcases h.2 with ⟨h1, h2⟩ | ⟨g, cap, cur, hv, _, hg, hc, _⟩
  · refine ⟨none, 0, by rw [h1, h2], fun j x hj => ?_⟩
    have := (List.getElem?_eq_some_iff.1 hj).1
    omega
  · refine ⟨some ⟨g, 0, none⟩, cap, hv, fun j x hj => ⟨g, 0, rfl, ?_⟩⟩
    have h3 := h.cells (g := g) (by rw [hv]; rfl) j (.int .i64 x) (by simp [ints, hj])
    rw [Nat.zero_add]
    by_cases e : j = 0
    · subst e; simpa [Addr.add] using h3
    · simpa [Addr.add, e] using h3
end
structure MomMem (w W : World) (B : Nat) (F : Nat → Value) (C : Nat → List Int) (rv : Value) (r m : Nat) : Prop where
  kept : Keeps w W
  nB : w.heap.size ≤ B
  blk : W.heap[B]? = some (.cells #[F 0, F 1, rv] 61 (0, 0))
  fam : Fam w.heap.size W F C m
  le : r + 2 ≤ m
  outer : W.ownsRow w.heap.size 35 1 rv r ((List.range r).map fun j => F (j + 2))
section
variable {w W W' : World} {B r m : Nat} {F : Nat → Value} {C : Nat → List Int} {rv : Value}
theorem MomMem.neF (h : MomMem w W B F C rv r m) {k b : Nat} (hk : k < m) (hb : (F k).ownBlock = some b) : b ≠ B ∧ rv.ownBlock ≠ some b := by
  obtain ⟨⟨cur, hc⟩, _⟩ := h.fam.block hk hb
  refine ⟨fun e => ?_, fun e => ?_⟩
  · rw [e, h.blk] at hc; simp at hc
  · obtain ⟨c2, hc2⟩ := row_block h.outer e
    rw [hc] at hc2; simp at hc2
theorem MomMem.neR (h : MomMem w W B F C rv r m) {b : Nat} (hb : rv.ownBlock = some b) : b ≠ B := by
  obtain ⟨c2, hc2⟩ := row_block h.outer hb
  intro e
  rw [e, h.blk] at hc2; simp at hc2
theorem MomMem.keeps (h : MomMem w W B F C rv r m) (hk : Keeps W W') : MomMem w W' B F C rv r m :=
  ⟨Keeps.trans h.kept hk, h.nB, hk.at h.blk (fun x => x), h.fam.keeps hk, h.le, row_same h.outer fun g hg => hk.block g (h.outer.lt g hg).2 (fun x => x)⟩
theorem MomMem.add (h : MomMem w W B F C rv r m) : MomMem w W B (fun k => if k = m then .slice none 0 0 else F k) (fun k => if k = m then [] else C k) rv r (m + 1) := by
  have hle := h.le
  refine ⟨h.kept, h.nB, ?_, h.fam.add, by omega, ?_⟩
  · rw [if_neg (by omega), if_neg (by omega)]; exact h.blk
  · have : ((List.range r).map fun j => if j + 2 = m then (.slice none 0 0 : Value) else F (j + 2)) = (List.range r).map fun j => F (j + 2) := by
      refine List.map_congr_left fun j hj => ?_
      rw [List.mem_range] at hj
      rw [if_neg (by omega)]
    rw [this]; exact h.outer
def Calm (o : Obj) : Prop := ∀ cur, o ≠ .cells cur 3 (0, 0) ∧ o ≠ .cells cur 35 (0, 0)
theorem MomMem.top (h : MomMem w W B F C rv r m) {j : Nat} {v : Value} {x : Int} {o : Obj} (hj : j < 2) (hg : (W.alloc o).grownBy W' (F j).ownBlock) (hr : W'.ownsRow w.heap.size 3 1 v ((C j).length + 1) (ints (C j) ++ [.int .i64 x]))
    (hat : v.ownBlock = (F j).ownBlock ∨ v.ownBlock = some (W.alloc o).heap.size) : MomMem w (W'.setCell ⟨B, j, none⟩ v) B (fun k => if k = j then v else F k) (fun k => if k = j then C j ++ [x] else C k) rv r m ∧ W'.heap[B]? = some (.cells #[F 0, F 1, rv] 61 (0, 0)) ∧ ∀ (b : Nat) (o' : Obj), W.heap[b]? = some o' → Calm o' → b ≠ B → (W'.setCell ⟨B, j, none⟩ v).heap[b]? = some o' := by
  have hle := h.le
  have hjm : j < m := by omega
  have hk : Kept (fun b => (F j).ownBlock = some b) W W' := ((Kept.refl _ W).alloc o).grown hg (fun b hb _ => hb)
  have hat' : v.ownBlock = (F j).ownBlock ∨ ∃ g, v.ownBlock = some g ∧ W.heap.size ≤ g := by
    rcases hat with e | e
    · exact .inl e
    · exact .inr ⟨_, e, by rw [World.size_alloc]; exact Nat.le_succ _⟩
  have hB : W'.heap[B]? = some (.cells #[F 0, F 1, rv] 61 (0, 0)) := hk.at h.blk (fun e => (h.neF hjm e).1 rfl)
  have hfam := h.fam.app hjm hk hr hat'
  have hks : Kept (fun b => b = B) W' (W'.setCell ⟨B, j, none⟩ v) := (Kept.refl (fun b => b = B) W').one1 j v
  refine ⟨⟨?_, h.nB, ?_, hfam.other hB (by decide) hks, h.le, ?_⟩, hB, fun b o' hb hc hne => hks.at (hk.at hb fun e => by obtain ⟨⟨cur, h1⟩, _⟩ := h.fam.block hjm e; rw [h1] at hb; injection hb with hb; exact (hc cur).1 hb.symm) hne⟩
  · exact Kept.one0 (Kept.trans h.kept hk (fun b hb hb2 => by have := (h.fam.block hjm hb2).2; omega)) h.nB _ _
  · rw [heap_set_same hB]
    rcases (show j = 0 ∨ j = 1 by omega) with rfl | rfl <;> rfl
  · have : ((List.range r).map fun i => if i + 2 = j then v else F (i + 2)) = (List.range r).map fun j => F (j + 2) := by
      refine List.map_congr_left fun i hi => ?_
      rw [if_neg (by omega)]
    rw [this]
    refine row_same h.outer fun g hg' => ?_
    rw [heap_set_other _ (h.neR hg')]
    exact hk.block g (h.outer.lt g hg').2 fun e => (h.neF hjm e).2 hg'
theorem MomMem.push (h : MomMem w W B F C rv r m) {v : Value} {o : Obj} (hm : r + 3 ≤ m) (hg : (W.alloc o).grownBy W' rv.ownBlock) (hr : W'.ownsRow w.heap.size 35 1 v (r + 1) (((List.range r).map fun j => F (j + 2)) ++ [F (r + 2)])) :
    MomMem w (W'.setCell ⟨B, 2, none⟩ v) B F C v (r + 1) m ∧ W'.heap[B]? = some (.cells #[F 0, F 1, rv] 61 (0, 0)) ∧ ∀ (b : Nat) (o' : Obj), W.heap[b]? = some o' → Calm o' → b ≠ B → (W'.setCell ⟨B, 2, none⟩ v).heap[b]? = some o' := by
  have hk : Kept (fun b => rv.ownBlock = some b) W W' := ((Kept.refl _ W).alloc o).grown hg (fun b hb _ => hb)
  have hB : W'.heap[B]? = some (.cells #[F 0, F 1, rv] 61 (0, 0)) := hk.at h.blk (fun e => h.neR e rfl)
  have hfam : Fam w.heap.size W' F C m := h.fam.keep hk fun k b hk2 hb hb2 => (h.neF hk2 hb).2 hb2
  have hks : Kept (fun b => b = B) W' (W'.setCell ⟨B, 2, none⟩ v) := (Kept.refl (fun b => b = B) W').one1 2 v
  refine ⟨⟨?_, h.nB, ?_, hfam.other hB (by decide) hks, by omega, ?_⟩, hB, fun b o' hb hc hne => hks.at (hk.at hb fun e => by obtain ⟨cur, h1⟩ := row_block h.outer e; rw [h1] at hb; injection hb with hb; exact (hc cur).2 hb.symm) hne⟩
  · exact Kept.one0 (Kept.trans h.kept hk (fun b hb hb2 => by have := (h.outer.lt b hb2).1; omega)) h.nB _ _
  · rw [heap_set_same hB]; rfl
  · have : (List.range (r + 1)).map (fun j => F (j + 2)) = ((List.range r).map fun j => F (j + 2)) ++ [F (r + 2)] := by simp [List.range_succ]
    rw [this]
    refine row_same hr fun g hg' => heap_set_other _ ?_
    obtain ⟨cur, hc⟩ := row_block hr hg'
    intro e
    rw [e, hB] at hc; simp at hc
theorem MomMem.done (h : MomMem w W B F C rv r m) : MomAt W (.agg #[F 0, F 1, rv]) ⟨C 0, C 1, (List.range r).map fun j => C (j + 2)⟩ := by
  have hle := h.le
  refine ⟨_, _, _, rfl, ints_at (h.fam.rows 0 (by omega)), ints_at (h.fam.rows 1 (by omega)), ?_⟩
  have hlen : ((List.range r).map fun j => C (j + 2)).length = r := by simp
  have key : ∀ (j : Nat) (l : List Int), ((List.range r).map fun j => C (j + 2))[j]? = some l → j < r ∧ l = C (j + 2) := by
    intro j l hj
    rw [List.getElem?_map] at hj
    cases hr : (List.range r)[j]? with
    | none => rw [hr] at hj; cases hj
    | some i =>
      rw [hr] at hj
      obtain ⟨h1, h2⟩ := List.getElem?_eq_some_iff.1 hr
      simp at h1 h2
      subst h2
      injection hj with hj
      exact ⟨h1, hj.symm⟩
  rcases h.outer.2 with ⟨h1, h2⟩ | ⟨g, cap, cur, hv, _, hg, hc, _⟩
  · refine ⟨none, 0, by rw [h1]; simp [h2], fun j l hj => ?_⟩
    have := (key j l hj).1
    omega
  · refine ⟨some ⟨g, 0, none⟩, cap, by rw [hv]; simp, fun j l hj => ?_⟩
    obtain ⟨hjr, rfl⟩ := key j l hj
    refine ⟨g, 0, F (j + 2), rfl, ?_, ints_at (h.fam.rows (j + 2) (by omega))⟩
    have h3 := h.outer.cells (g := g) (by rw [hv]; rfl) j (F (j + 2)) (by simp [hjr])
    rw [Nat.zero_add]
    by_cases e : j = 0
    · subst e; simpa [Addr.add] using h3
    · simpa [Addr.add, e] using h3
end
end Go.Proofs.YtbhiaeciiphelaaGreatDoor
