/-
  DERIVED. Contracts of the small functions on events: few, isNothing, zero. No condition.
-/
import Derived.Test.YtbhiaeciiphelaaGreatDoorProg
import Derived.WalkKit
import Derived.WalkSpells
import Derived.WalkLawsBesides
import Derived.Handy
import Derived.Deep.QuietTactic
import Derived.BigQuiet
import Derived.LaidEqlPtr
import Derived.Lib.Hide
import Derived.Below
import Derived.Maps.AppendAt
namespace Go.Proofs.YtbhiaeciiphelaaGreatDoor
open Go.RowKit
def nothing (k m : Int) (s : ByteArray) (n : Nat) : Bool := decide (k = 0 ∧ m = 0 ∧ s.toList = [] ∧ n = 0)
set_option maxHeartbeats 800000 in
theorem isNothing_of (k m : Int) (s : ByteArray) (a : Option Addr) (n c : Nat) (w : World) :
    Calls Tryz.prog 122 #[.agg #[.int .i64 k, .int .i64 m, .string s, .slice a n c]] w fun e w' => e = .returned (.bool (nothing k m s n)) ∧ ∃ o, w' = w.alloc o := by
  go_enter Tryz.func122, Tryz.ntmps122
  go_wp2
  all_goals go_ret
  all_goals refine ⟨?_, _, rfl⟩
  all_goals simp [nothing, *]
  all_goals first | done | (by_cases h : n = 0 <;> simp [h])
set_option maxHeartbeats 800000 in
theorem zero_of (k m : Int) (s : ByteArray) (a : Option Addr) (n c : Nat) (w : World) :
    Calls Tryz.prog 57 #[.agg #[.int .i64 k, .int .i64 m, .string s, .slice a n c]] w fun e w' => e = .returned (.bool (nothing k m s n)) ∧ ∃ o, w' = w.alloc o := by
  go_enter Tryz.func57, Tryz.ntmps57
  go_wp2
  all_goals go_ret
  all_goals refine ⟨?_, _, rfl⟩
  all_goals simp [nothing, *]
  all_goals first | done | (by_cases h : n = 0 <;> simp [h])
end Go.Proofs.YtbhiaeciiphelaaGreatDoor
namespace Go.Proofs.YtbhiaeciiphelaaGreatDoor
open Go.RowKit
structure Kept (S : Nat → Prop) (w w' : World) : Prop where
  os : w'.os = w.os
  tape : w'.tape = w.tape
  output : w'.output = w.output
  size : w.heap.size ≤ w'.heap.size
  block : ∀ k, k < w.heap.size → ¬ S k → w'.heap[k]? = w.heap[k]?
theorem Kept.refl (S : Nat → Prop) (w : World) : Kept S w w := ⟨rfl, rfl, rfl, Nat.le_refl _, fun _ _ _ => rfl⟩
theorem Kept.trans {S T : Nat → Prop} {a b c : World} (h : Kept S a b) (k : Kept T b c) (hT : ∀ x, x < a.heap.size → T x → S x) : Kept S a c :=
  ⟨k.os.trans h.os, k.tape.trans h.tape, k.output.trans h.output, Nat.le_trans h.size k.size,
    fun i hi hn => (k.block i (Nat.lt_of_lt_of_le hi h.size) (fun t => hn (hT i hi t))).trans (h.block i hi hn)⟩
theorem Kept.mono {S T : Nat → Prop} {a b : World} (h : Kept S a b) (hT : ∀ x, x < a.heap.size → S x → T x) : Kept T a b :=
  ⟨h.os, h.tape, h.output, h.size, fun i hi hn => h.block i hi (fun s => hn (hT i hi s))⟩
theorem Kept.drewN {S : Nat → Prop} {a b : World} (h : Kept S a b) (n : Nat) : Kept S a (b.drewN n) := ⟨h.os, h.tape, h.output, h.size, h.block⟩
theorem Kept.drew {S : Nat → Prop} {a b : World} (h : Kept S a b) : Kept S a b.drew := ⟨h.os, h.tape, h.output, h.size, h.block⟩
theorem Kept.alloc {S : Nat → Prop} {a b : World} (h : Kept S a b) (o : Obj) : Kept S a (b.alloc o) :=
  ⟨h.os, h.tape, h.output, Nat.le_trans h.size (by simp), fun i hi hn => (Below.heap_alloc _ _ _ (Nat.lt_of_lt_of_le hi h.size)).trans (h.block i hi hn)⟩
theorem Kept.setCell {S : Nat → Prop} {a b : World} (h : Kept S a b) {p : Addr} (hp : p.block < a.heap.size → S p.block) (u : Value) : Kept S a (b.setCell p u) :=
  ⟨h.os, h.tape, h.output, Nat.le_trans h.size (by simp [World.setCell]), fun i hi hn => (Below.heap_setCell _ _ _ _ (fun e => hn (by rw [e]; exact hp (e ▸ hi)))).trans (h.block i hi hn)⟩
theorem Kept.putObj {S : Nat → Prop} {a b : World} (h : Kept S a b) {p : Nat} (hp : p < a.heap.size → S p) (o : Obj) : Kept S a { b with heap := b.heap.setIfInBounds p o } :=
  ⟨h.os, h.tape, h.output, Nat.le_trans h.size (by simp), fun i hi hn => (show (b.heap.setIfInBounds p o)[i]? = b.heap[i]? from Array.getElem?_setIfInBounds_ne (fun e => hn (by rw [← e]; exact hp (e ▸ hi)))).trans (h.block i hi hn)⟩
theorem Kept.grown {S : Nat → Prop} {a b c : World} {row : Option Nat} (h : Kept S a b) (hg : b.grownBy c row) (hr : ∀ k, row = some k → k < a.heap.size → S k) : Kept S a c :=
  ⟨hg.os.trans h.os, hg.tape.trans h.tape, hg.output.trans h.output, Nat.le_trans h.size hg.size,
    fun i hi hn => (hg.block i (Nat.lt_of_lt_of_le hi h.size) (fun e => hn (hr i e.symm hi))).trans (h.block i hi hn)⟩
theorem Kept.below {S : Nat → Prop} {a b : World} {B : Nat} (h : Kept S a b) (hB : B ≤ a.heap.size) (hS : ∀ k, S k → B ≤ k) : Below B a b :=
  ⟨h.os, h.tape, h.output, h.size, fun k hk => h.block k (by omega) (fun s => by have := hS k s; omega)⟩
abbrev Keeps (w w' : World) : Prop := Kept (fun _ => False) w w'
theorem Keeps.refl (w : World) : Keeps w w := Kept.refl _ w
theorem Keeps.trans {w w' w'' : World} (h : Keeps w w') (h' : Keeps w' w'') : Keeps w w'' := Kept.trans h h' (fun _ _ x => x)
theorem Keeps.alloc (w : World) (o : Obj) : Keeps w (w.alloc o) := (Kept.refl _ w).alloc o
theorem Keeps.drew (w : World) : Keeps w w.drew := (Kept.refl _ w).drew
theorem Keeps.drewN (w : World) (n : Nat) : Keeps w (w.drewN n) := (Kept.refl _ w).drewN n
theorem heap_lt {w : World} {b : Nat} {o : Obj} (h : w.heap[b]? = some o) : b < w.heap.size := (Array.getElem?_eq_some_iff.1 h).1
theorem heap_set_same {w : World} {b o : Nat} {c : Array Value} {t : TypeId} {fr : Nat × Nat} (h : w.heap[b]? = some (.cells c t fr)) (v : Value) :
    (w.setCell ⟨b, o, none⟩ v).heap[b]? = some (.cells (c.setIfInBounds o v) t fr) := by
  have hlt := heap_lt h
  have h' : w.heap[b] = .cells c t fr := by simpa [Array.getElem?_eq_getElem hlt] using h
  show (w.heap.modify b _)[b]? = _
  rw [Array.getElem?_eq_getElem (by simpa using hlt), Array.getElem_modify_self, h']
  rfl
theorem heap_set_other {w : World} {b o k : Nat} (v : Value) (hne : k ≠ b) : (w.setCell ⟨b, o, none⟩ v).heap[k]? = w.heap[k]? := Below.heap_setCell _ _ _ _ hne
theorem heap_alloc_old {w : World} {k : Nat} {x : Obj} (o : Obj) (h : w.heap[k]? = some x) : (w.alloc o).heap[k]? = some x := by rw [Below.heap_alloc _ _ _ (heap_lt h), h]
theorem heap_alloc_at (w : World) (o : Obj) : (w.alloc o).heap[w.heap.size]? = some o := by
  show (w.heap.push o)[w.heap.size]? = _
  simp
theorem cell_of_block {w : World} {b : Nat} {c : Array Value} {t : TypeId} {fr : Nat × Nat} (h : w.heap[b]? = some (.cells c t fr)) (o : Nat) : w.cell? ⟨b, o, none⟩ = c[o]? := by simp [World.cell?, h]
theorem free_of_block {w : World} {b : Nat} {c : Array Value} {t : TypeId} (h : w.heap[b]? = some (.cells c t (0, 0))) (o : Nat) : w.frozen? ⟨b, o, none⟩ = false := by simp [World.frozen?, h]
theorem Kept.at {S : Nat → Prop} {w w' : World} (h : Kept S w w') {b : Nat} {o : Obj} (hb : w.heap[b]? = some o) (hS : ¬ S b) : w'.heap[b]? = some o := by rw [h.block b (heap_lt hb) hS, hb]
theorem row_same {w w' : World} {base : Nat} {e : TypeId} {size : Nat} {v : Value} {n : Nat} {xs : List Value} (h : w.ownsRow base e size v n xs) (hs : ∀ g, v.ownBlock = some g → w'.heap[g]? = w.heap[g]?) : w'.ownsRow base e size v n xs := by
  refine ⟨h.1, ?_⟩
  rcases h.2 with h | ⟨g, cap, cur, hv, hb, hg, r⟩
  · exact .inl h
  · exact .inr ⟨g, cap, cur, hv, hb, by rw [hs g (by rw [hv]; rfl)]; exact hg, r⟩
theorem row_block {w : World} {base : Nat} {e : TypeId} {size : Nat} {v : Value} {n : Nat} {xs : List Value} (h : w.ownsRow base e size v n xs) {g : Nat} (hg : v.ownBlock = some g) : ∃ cur, w.heap[g]? = some (.cells cur e (0, 0)) := by
  rcases h.2 with ⟨h, _⟩ | ⟨g', cap, cur, hv, hb, hg', r⟩
  · rw [h] at hg; cases hg
  · rw [hv] at hg; injection hg with hg; subst hg; exact ⟨cur, hg'⟩
end Go.Proofs.YtbhiaeciiphelaaGreatDoor
namespace Go.Proofs.YtbhiaeciiphelaaGreatDoor
open Go.RowKit
structure Ev where
  kind : Int
  site : Int
  addr : Int
  args : Option Addr
  argn : Nat
  argc : Nat
  vk : Int
  vn : Int
  vs : ByteArray
  va : Option Addr
  van : Nat
  vac : Nat
def Ev.cells (e : Ev) : List Value := [.int .i64 e.kind, .int .i64 e.site, .int .i64 e.addr, .slice e.args e.argn e.argc, .int .i64 e.vk, .int .i64 e.vn, .string e.vs, .slice e.va e.van e.vac]
def Ev.zero (e : Ev) : Bool := nothing e.vk e.vn e.vs e.van
def Ev.form (e : Ev) : Bool := decide (0 ≤ e.addr) && (decide (e.addr < 30000) &&
  (if e.kind = 1 then e.zero else if e.kind = 2 then decide (e.argn = 0) else if e.kind = 3 then decide (e.site = 0) && decide (e.argn = 0) else false))
set_option maxHeartbeats 1600000 in
theorem isForm_of (e : Ev) (w : World) :
    Calls Tryz.prog 86 #[.agg e.cells.toArray] w fun x w' => x = .returned (.bool e.form) ∧ Keeps w w' := by
  obtain ⟨kind, site, addr, args, argn, argc, vk, vn, vs, va, van, vac⟩ := e
  simp only [Ev.cells]
  have Hn := Lib.hid (isNothing_of vk vn vs va van vac)
  go_enter Tryz.func86, Tryz.ntmps86
  go_wp2_with (go_at_call 122; refine (Hn.out _).mono ?_; rintro e w' ⟨rfl, o, rfl⟩)
  all_goals go_ret
  all_goals refine ⟨?_, by first | exact Keeps.alloc _ _ | exact (Keeps.alloc _ _).trans (Keeps.alloc _ _)⟩
  all_goals simp_all [Ev.form, Ev.zero]
  all_goals first | done | (intros; exfalso; omega) | (rcases argn with _ | n <;> simp <;> omega)
end Go.Proofs.YtbhiaeciiphelaaGreatDoor
namespace Go.Proofs.YtbhiaeciiphelaaGreatDoor
structure Sp where
  frm : Nat
  to : Nat
  outer : Option Nat
  addr : Int
  reads : List Nat
structure St where
  sps : List Sp
  top : Option Nat
  nodes : Nat
  within : List Nat
def St.step (s : St) (i : Nat) (e : Ev) : Option St :=
  if e.form = false then none
  else if e.kind = 1 then
    (if s.sps.any (fun p => p.addr == e.addr) then none else some ⟨s.sps ++ [⟨i, 0, s.top, e.addr, []⟩], some s.sps.length, s.nodes + 1, s.within ++ [s.sps.length]⟩)
  else match s.top with
    | none => none
    | some k => match s.sps[k]? with
      | none => none
      | some p =>
        if e.kind = 2 then some ⟨s.sps.set k { p with reads := p.reads ++ [i] }, some k, s.nodes + 1, s.within ++ [k]⟩
        else if p.addr = e.addr then some ⟨s.sps.set k { p with to := i }, p.outer, s.nodes, s.within ++ [k]⟩ else none
def St.run (s : St) (i : Nat) : List Ev → Option St
  | [] => some s
  | e :: l => match s.step i e with
    | some s' => s'.run (i + 1) l
    | none => none
def St.start : St := ⟨[], none, 0, []⟩
def readOf (l : List Ev) : Option St := match St.start.run 0 l with
  | some s => if s.top = none ∧ s.nodes ≤ 30000 then some s else none
  | none => none
theorem St.run_append (s : St) (i : Nat) (l l' : List Ev) : s.run i (l ++ l') = (s.run i l).bind fun s' => s'.run (i + l.length) l' := by
  induction l generalizing s i with
  | nil => rfl
  | cons e l ih =>
    simp only [List.cons_append, St.run]
    cases h : s.step i e with
    | none => rfl
    | some s' => simp only [ih, List.length_cons]; rw [show i + 1 + l.length = i + (l.length + 1) by omega]
theorem St.run_take (s s' : St) (l : List Ev) (i : Nat) (e : Ev) (h : s.run 0 (l.take i) = some s') (he : l[i]? = some e) : s.run 0 (l.take (i + 1)) = s'.step i e := by
  have hi := List.getElem?_eq_some_iff.1 he
  obtain ⟨hi, e1⟩ := hi
  rw [List.take_succ_eq_append_getElem hi, St.run_append, h, e1]
  simp only [Option.bind_some, List.length_take, Nat.zero_add, Nat.min_eq_left (Nat.le_of_lt hi), St.run]
  cases s'.step i e <;> rfl
structure StOk (evs : List Ev) (i : Nat) (s : St) : Prop where
  top : ∀ k, s.top = some k → k < s.sps.length
  outer : ∀ (k : Nat) (p : Sp) (j : Nat), s.sps[k]? = some p → p.outer = some j → j < k
  frm : ∀ (k : Nat) (p : Sp), s.sps[k]? = some p → p.frm < i ∧ ∃ e, evs[p.frm]? = some e ∧ e.addr = p.addr
  nd : (s.sps.map (·.addr)).Nodup
  spsn : s.sps.length ≤ i
  nodes : s.nodes ≤ i
  win : s.within.length = i
  reads : ∀ (k : Nat) (p : Sp), s.sps[k]? = some p → p.reads.length ≤ i
theorem StOk.start (evs : List Ev) : StOk evs 0 St.start :=
  ⟨fun k h => by simp [St.start] at h, fun k p j h => by simp [St.start] at h, fun k p h => by simp [St.start] at h, List.nodup_nil, Nat.le_refl _, Nat.le_refl _, rfl, fun k p h => by simp [St.start] at h⟩
theorem set_at {α : Type} {l : List α} {k j : Nat} {p q r : α} (hp : l[k]? = some p) (h : (l.set k q)[j]? = some r) : (j = k ∧ r = q) ∨ (j ≠ k ∧ l[j]? = some r) := by
  have hk := (List.getElem?_eq_some_iff.1 hp).1
  by_cases e : k = j
  · subst e
    rw [List.getElem?_set_self hk] at h
    exact .inl ⟨rfl, (Option.some.inj h).symm⟩
  · rw [List.getElem?_set_ne e] at h
    exact .inr ⟨fun x => e x.symm, h⟩
theorem map_set_same {α β : Type} {l : List α} {k : Nat} {p q : α} (f : α → β) (hp : l[k]? = some p) (h : f q = f p) : (l.set k q).map f = l.map f := by
  apply List.ext_getElem?
  intro j
  rw [List.getElem?_map, List.getElem?_map]
  by_cases e : k = j
  · subst e
    rw [List.getElem?_set_self (List.getElem?_eq_some_iff.1 hp).1, hp]
    simp [h]
  · rw [List.getElem?_set_ne e]
theorem StOk.step {evs : List Ev} {i : Nat} {s s' : St} {e : Ev} (h : StOk evs i s) (he : evs[i]? = some e) (hs : s.step i e = some s') : StOk evs (i + 1) s' := by
  unfold St.step at hs
  split at hs
  · cases hs
  split at hs
  · split at hs
    · cases hs
    rename_i hany
    injection hs with hs
    subst hs
    have key : ∀ (k : Nat) (p : Sp), (s.sps ++ [⟨i, 0, s.top, e.addr, []⟩])[k]? = some p → s.sps[k]? = some p ∨ (k = s.sps.length ∧ p = ⟨i, 0, s.top, e.addr, []⟩) := by
      intro k p hp
      rcases Nat.lt_trichotomy k s.sps.length with hk | hk | hk
      · rw [List.getElem?_append_left hk] at hp; exact .inl hp
      · subst hk; simp at hp; exact .inr ⟨rfl, hp.symm⟩
      · rw [List.getElem?_append_right (by omega)] at hp
        rw [List.getElem?_eq_none (by simp; omega)] at hp; cases hp
    refine ⟨fun k hk => ?_, fun k p j hp ho => ?_, fun k p hp => ?_, ?_, ?_, ?_, ?_, fun k p hp => ?_⟩
    · injection hk with hk; subst hk; simp
    · rcases key k p hp with hp | ⟨rfl, rfl⟩
      · exact h.outer k p j hp ho
      · exact h.top j ho
    · rcases key k p hp with hp | ⟨rfl, rfl⟩
      · obtain ⟨h1, h2⟩ := h.frm k p hp; exact ⟨by omega, h2⟩
      · exact ⟨by simp, e, he, rfl⟩
    · rw [List.map_append, List.nodup_append]
      refine ⟨h.nd, by simp, ?_⟩
      intro a ha b hb hab
      simp only [List.map_cons, List.map_nil, List.mem_singleton] at hb
      subst hb; subst hab
      obtain ⟨p, hp, hpa⟩ := List.mem_map.1 ha
      exact hany (List.any_eq_true.2 ⟨p, hp, by simp [hpa]⟩)
    · have := h.spsn; simp; omega
    · have := h.nodes; simp; omega
    · simp [h.win]
    · rcases key k p hp with hp | ⟨rfl, rfl⟩
      · have := h.reads k p hp; omega
      · simp
  · split at hs
    · cases hs
    rename_i k htop
    split at hs
    · cases hs
    rename_i p hp
    have hk := (List.getElem?_eq_some_iff.1 hp).1
    split at hs
    · injection hs with hs
      subst hs
      refine ⟨fun j hj => ?_, fun j q o hq ho => ?_, fun j q hq => ?_, ?_, ?_, ?_, ?_, fun j q hq => ?_⟩
      · injection hj with hj; subst hj; simpa using hk
      · rcases set_at hp hq with ⟨rfl, rfl⟩ | ⟨hj, hq⟩
        · exact h.outer _ p o hp ho
        · exact h.outer j q o hq ho
      · rcases set_at hp hq with ⟨rfl, rfl⟩ | ⟨hj, hq⟩
        · obtain ⟨h1, h2⟩ := h.frm _ p hp; exact ⟨by simp; omega, h2⟩
        · obtain ⟨h1, h2⟩ := h.frm j q hq; exact ⟨by omega, h2⟩
      · have := map_set_same (q := { p with reads := p.reads ++ [i] }) (·.addr) hp rfl
        rw [this]; exact h.nd
      · have := h.spsn; simp; omega
      · have := h.nodes; simp; omega
      · simp [h.win]
      · rcases set_at hp hq with ⟨rfl, rfl⟩ | ⟨hj, hq⟩
        · have := h.reads _ p hp; simp; omega
        · have := h.reads j q hq; omega
    · split at hs
      · injection hs with hs
        subst hs
        refine ⟨fun j hj => ?_, fun j q o hq ho => ?_, fun j q hq => ?_, ?_, ?_, ?_, ?_, fun j q hq => ?_⟩
        · have := h.outer _ p j hp hj; simp; omega
        · rcases set_at hp hq with ⟨rfl, rfl⟩ | ⟨hj, hq⟩
          · exact h.outer _ p o hp ho
          · exact h.outer j q o hq ho
        · rcases set_at hp hq with ⟨rfl, rfl⟩ | ⟨hj, hq⟩
          · obtain ⟨h1, h2⟩ := h.frm _ p hp; exact ⟨by simp; omega, h2⟩
          · obtain ⟨h1, h2⟩ := h.frm j q hq; exact ⟨by omega, h2⟩
        · have := map_set_same (q := { p with to := i }) (·.addr) hp rfl
          rw [this]; exact h.nd
        · have := h.spsn; simp; omega
        · have := h.nodes; simp; omega
        · simp [h.win]
        · rcases set_at hp hq with ⟨rfl, rfl⟩ | ⟨hj, hq⟩
          · have := h.reads _ p hp; simp; omega
          · have := h.reads j q hq; omega
      · cases hs
end Go.Proofs.YtbhiaeciiphelaaGreatDoor
namespace Go.Proofs.YtbhiaeciiphelaaGreatDoor
structure Rt where
  made : List Int
  opn : List Int
  n : Nat
def Rt.step (r : Rt) (e : Ev) : Option Rt :=
  if e.addr < 0 ∨ 30000 ≤ e.addr then none
  else if e.kind = 1 then (if r.made.contains e.addr ∨ e.zero = false then none else some ⟨e.addr :: r.made, e.addr :: r.opn, r.n + 1⟩)
  else if e.kind = 2 then (if r.opn = [] ∨ 0 < e.argn then none else some { r with n := r.n + 1 })
  else if e.kind = 3 then (match r.opn with
    | [] => none
    | a :: l => if a ≠ e.addr ∨ e.site ≠ 0 ∨ 0 < e.argn then none else some { r with opn := l })
  else none
def Rt.run (r : Rt) : List Ev → Option Rt
  | [] => some r
  | e :: l => match r.step e with
    | some r' => r'.run l
    | none => none
def Rt.start : Rt := ⟨[], [], 0⟩
def rightOf (l : List Ev) : Bool := match Rt.start.run l with
  | some r => decide (r.opn = [] ∧ r.n ≤ 30000)
  | none => false
theorem Rt.run_append (r : Rt) (l l' : List Ev) : r.run (l ++ l') = (r.run l).bind fun r' => r'.run l' := by
  induction l generalizing r with
  | nil => rfl
  | cons e l ih =>
    simp only [List.cons_append, Rt.run]
    cases h : r.step e with
    | none => rfl
    | some r' => simp only [ih]
theorem Rt.run_take (r r' : Rt) (l : List Ev) (i : Nat) (e : Ev) (h : r.run (l.take i) = some r') (he : l[i]? = some e) : r.run (l.take (i + 1)) = r'.step e := by
  obtain ⟨hi, e1⟩ := List.getElem?_eq_some_iff.1 he
  rw [List.take_succ_eq_append_getElem hi, Rt.run_append, h, e1]
  simp only [Option.bind_some, Rt.run]
  cases r'.step e <;> rfl
inductive Chain (sps : List Sp) : Option Nat → List Int → Prop
  | nil : Chain sps none []
  | cons {k : Nat} {p : Sp} {l : List Int} (h : sps[k]? = some p) (t : Chain sps p.outer l) : Chain sps (some k) (p.addr :: l)
theorem Chain.mono {sps sps' : List Sp} (hs : ∀ (k : Nat) (p : Sp), sps[k]? = some p → ∃ p', sps'[k]? = some p' ∧ p'.addr = p.addr ∧ p'.outer = p.outer) : ∀ {o : Option Nat} {l : List Int}, Chain sps o l → Chain sps' o l
  | _, _, .nil => .nil
  | _, _, .cons h t => by
    obtain ⟨p', h1, h2, h3⟩ := hs _ _ h
    have := Chain.cons h1 (by rw [h3]; exact t.mono hs)
    rw [h2] at this
    exact this
theorem Chain.set {sps : List Sp} {k : Nat} {p q : Sp} (hp : sps[k]? = some p) (ha : q.addr = p.addr) (ho : q.outer = p.outer) {o : Option Nat} {l : List Int} (h : Chain sps o l) : Chain (sps.set k q) o l := by
  refine h.mono fun j r hr => ?_
  by_cases e : k = j
  · subst e
    rw [hp] at hr; injection hr with hr; subst hr
    exact ⟨q, List.getElem?_set_self (List.getElem?_eq_some_iff.1 hp).1, ha, ho⟩
  · exact ⟨r, by rw [List.getElem?_set_ne e]; exact hr, rfl, rfl⟩
structure Agree (s : St) (r : Rt) : Prop where
  made : ∀ a, a ∈ r.made ↔ ∃ p ∈ s.sps, p.addr = a
  opn : Chain s.sps s.top r.opn
  n : s.nodes = r.n
theorem mem_set_addr {sps : List Sp} {k : Nat} {p q : Sp} (hp : sps[k]? = some p) (ha : q.addr = p.addr) (a : Int) : (∃ p ∈ sps.set k q, p.addr = a) ↔ ∃ p ∈ sps, p.addr = a := by
  have h := map_set_same (·.addr) hp ha
  have h1 : ∀ l : List Sp, (∃ p ∈ l, p.addr = a) ↔ a ∈ l.map (·.addr) := fun l => by rw [List.mem_map]
  rw [h1, h1, h]
theorem step_agree {s : St} {r : Rt} (h : Agree s r) (i : Nat) (e : Ev) : match s.step i e, r.step e with
    | some s', some r' => Agree s' r'
    | none, none => True
    | _, _ => False := by
  unfold St.step Rt.step Ev.form
  by_cases ha : e.addr < 0 ∨ 30000 ≤ e.addr
  · rw [if_pos ha, if_pos]
    · trivial
    · rcases ha with ha | ha
      · simp [show ¬ 0 ≤ e.addr by omega]
      · simp [show ¬ e.addr < 30000 by omega]
  rw [if_neg ha]
  have h0 : 0 ≤ e.addr := by omega
  have h1 : e.addr < 30000 := by omega
  simp only [h0, h1, decide_true, Bool.true_and]
  by_cases k1 : e.kind = 1
  · simp only [k1, if_pos]
    have hm : s.sps.any (fun p => p.addr == e.addr) = r.made.contains e.addr := by
      rw [Bool.eq_iff_iff, List.any_eq_true, List.contains_iff_mem, h.made]
      constructor
      · rintro ⟨p, hp, hpe⟩; exact ⟨p, hp, by simpa using hpe⟩
      · rintro ⟨p, hp, hpe⟩; exact ⟨p, hp, by simpa using hpe⟩
    cases hz : e.zero with
    | false => simp
    | true =>
      rw [hm]
      cases hc : r.made.contains e.addr with
      | true => simp
      | false =>
        simp only [Bool.true_eq_false, if_false, Bool.false_eq_true, or_self]
        refine ⟨fun a => ?_, ?_, by simp [h.n]⟩
        · rw [List.mem_cons, h.made]
          constructor
          · rintro (rfl | ⟨p, hp, he⟩)
            · exact ⟨_, List.mem_append_right _ (List.mem_singleton.2 rfl), rfl⟩
            · exact ⟨p, List.mem_append_left _ hp, he⟩
          · rintro ⟨p, hp, he⟩
            rcases List.mem_append.1 hp with hp | hp
            · exact .inr ⟨p, hp, he⟩
            · rw [List.mem_singleton] at hp; subst hp; exact .inl he.symm
        · have hk : (s.sps ++ [⟨i, 0, s.top, e.addr, []⟩])[s.sps.length]? = some (Sp.mk i 0 s.top e.addr []) := by simp
          refine Chain.cons hk (h.opn.mono fun k p hp => ⟨p, ?_, rfl, rfl⟩)
          rw [List.getElem?_append_left (List.getElem?_eq_some_iff.1 hp).1]
          exact hp
  simp only [k1, if_false]
  have h2 := h.opn
  by_cases k2 : e.kind = 2
  · simp only [k2, if_true]
    by_cases hn : e.argn = 0
    · simp only [hn, decide_true, Bool.true_eq_false, if_false]
      generalize hr : r.opn = q at h2
      generalize ht : s.top = o at h2
      cases h2 with
      | nil => simp
      | @cons k p l hp t =>
        have hc := h.opn.set (q := { p with reads := p.reads ++ [i] }) hp rfl rfl
        simp only [hp, List.cons_ne_nil, Nat.lt_irrefl, or_self, if_false]
        rw [hr, ht] at hc
        exact ⟨fun a => (h.made a).trans (mem_set_addr (q := { p with reads := p.reads ++ [i] }) hp rfl a).symm, hc, by simp [h.n]⟩
    · have : 0 < e.argn := by omega
      simp [hn, this]
  · simp only [k2, if_false]
    by_cases k3 : e.kind = 3
    · simp only [k3, if_true]
      by_cases hn : e.site = 0 ∧ e.argn = 0
      · obtain ⟨hs, hn⟩ := hn
        simp only [hs, hn, decide_true, Bool.and_self, Bool.true_eq_false, if_false]
        generalize hr : r.opn = q at h2
        generalize ht : s.top = o at h2
        cases h2 with
        | nil => simp
        | @cons k p l hp t =>
          have hc := t.set (q := { p with to := i }) hp rfl rfl
          by_cases hpa : p.addr = e.addr
          · simp only [hp, hpa, if_true, Nat.lt_irrefl, ne_eq, not_true_eq_false, or_self, if_false]
            rw [← hpa]
            exact ⟨fun a => (h.made a).trans (mem_set_addr (q := { p with to := i }) hp rfl a).symm, hc, by simp [h.n]⟩
          · simp [hp, hpa]
      · have hb : (decide (e.site = 0) && decide (e.argn = 0)) = false := by
          simp; intro h; omega
        rw [hb, if_pos rfl]
        cases hr : r.opn with
        | nil => simp
        | cons a l =>
          have : a ≠ e.addr ∨ e.site ≠ 0 ∨ 0 < e.argn := by omega
          simp only [if_pos this]
    · simp [k3]
theorem run_agree {s : St} {r : Rt} (h : Agree s r) (i : Nat) (l : List Ev) : match s.run i l, r.run l with
    | some s', some r' => Agree s' r'
    | none, none => True
    | _, _ => False := by
  induction l generalizing s r i with
  | nil => exact h
  | cons e l ih =>
    have h1 := step_agree h i e
    unfold St.run Rt.run
    cases hs : s.step i e with
    | none =>
      cases hr : r.step e with
      | none => trivial
      | some r' => rw [hs, hr] at h1; exact h1.elim
    | some s' =>
      cases hr : r.step e with
      | none => rw [hs, hr] at h1; exact h1.elim
      | some r' => rw [hs, hr] at h1; exact ih h1 (i + 1)
theorem agree_start : Agree St.start Rt.start := ⟨fun a => by simp [Rt.start, St.start], .nil, rfl⟩
theorem right_read (l : List Ev) : rightOf l = (readOf l).isSome := by
  have h := run_agree agree_start 0 l
  unfold rightOf readOf
  cases hs : St.start.run 0 l with
  | none =>
    cases hr : Rt.start.run l with
    | none => rfl
    | some r => rw [hs, hr] at h; exact h.elim
  | some s =>
    cases hr : Rt.start.run l with
    | none => rw [hs, hr] at h; exact h.elim
    | some r =>
      rw [hs, hr] at h
      have ho := h.opn
      have : (s.top = none) ↔ r.opn = [] := by
        generalize r.opn = q at ho
        generalize s.top = o at ho
        cases ho <;> simp
      simp only [this, h.n]
      by_cases hc : r.opn = [] ∧ r.n ≤ 30000 <;> simp [hc]
structure Spn where
  frm : Nat
  to : Nat
  is : Bool
def Spn.step (a : Int) (s : Spn) (i : Nat) (e : Ev) : Spn :=
  if e.addr = a then (if e.kind = 1 then ⟨i, s.to, true⟩ else if e.kind = 3 then ⟨s.frm, i, s.is⟩ else s) else s
def Spn.run (a : Int) (s : Spn) (i : Nat) : List Ev → Spn
  | [] => s
  | e :: l => (s.step a i e).run a (i + 1) l
theorem Spn.run_append (a : Int) (s : Spn) (i : Nat) (l l' : List Ev) : s.run a i (l ++ l') = (s.run a i l).run a (i + l.length) l' := by
  induction l generalizing s i with
  | nil => rfl
  | cons e l ih => simp only [List.cons_append, Spn.run, ih, List.length_cons]; rw [show i + 1 + l.length = i + (l.length + 1) by omega]
theorem Spn.run_take (a : Int) (s : Spn) (l : List Ev) (i : Nat) (e : Ev) (he : l[i]? = some e) : s.run a 0 (l.take (i + 1)) = (s.run a 0 (l.take i)).step a i e := by
  obtain ⟨hi, e1⟩ := List.getElem?_eq_some_iff.1 he
  rw [List.take_succ_eq_append_getElem hi, Spn.run_append, e1]
  simp only [List.length_take, Nat.zero_add, Nat.min_eq_left (Nat.le_of_lt hi), Spn.run]
def SpAgree (a : Int) (sps : List Sp) (x : Spn) : Prop :=
  (∀ p ∈ sps, p.addr = a → x = ⟨p.frm, p.to, true⟩) ∧ ((∀ p ∈ sps, p.addr ≠ a) → x = ⟨0, 0, false⟩)
theorem span_step {a : Int} {s s' : St} {x : Spn} {i : Nat} {e : Ev} (hnd : (s.sps.map (·.addr)).Nodup) (h : SpAgree a s.sps x) (hs : s.step i e = some s') : SpAgree a s'.sps (x.step a i e) := by
  unfold St.step at hs
  unfold Spn.step
  split at hs
  · cases hs
  rename_i hform
  have huniq : ∀ (j k : Nat) (p q : Sp), s.sps[j]? = some p → s.sps[k]? = some q → p.addr = q.addr → j = k := by
    intro j k p q hp hq hpq
    have e1 : (s.sps.map (·.addr))[j]? = some p.addr := by rw [List.getElem?_map, hp]; rfl
    have e2 : (s.sps.map (·.addr))[k]? = some p.addr := by rw [List.getElem?_map, hq, hpq]; rfl
    exact (List.getElem?_inj (List.getElem?_eq_some_iff.1 e1).1 hnd).1 (e1.trans e2.symm)
  split at hs
  · rename_i k1
    split at hs
    · cases hs
    rename_i hany
    injection hs with hs
    subst hs
    simp only [k1, if_true]
    by_cases hea : e.addr = a
    · simp only [hea, if_true]
      have hno : ∀ p ∈ s.sps, p.addr ≠ a := fun p hp hpa => hany (List.any_eq_true.2 ⟨p, hp, by simp [hpa, hea]⟩)
      have hx := h.2 hno
      refine ⟨fun p hp hpa => ?_, fun hall => ?_⟩
      · rcases List.mem_append.1 hp with hp | hp
        · exact absurd hpa (hno p hp)
        · rw [List.mem_singleton] at hp; subst hp; simp [hx]
      · exact absurd rfl (hall _ (List.mem_append_right _ (List.mem_singleton.2 rfl)))
    · simp only [hea, if_false]
      refine ⟨fun p hp hpa => ?_, fun hall => h.2 fun p hp => hall p (List.mem_append_left _ hp)⟩
      rcases List.mem_append.1 hp with hp | hp
      · exact h.1 p hp hpa
      · rw [List.mem_singleton] at hp; subst hp; exact absurd hpa hea
  · rename_i k1
    split at hs
    · cases hs
    rename_i k htop
    split at hs
    · cases hs
    rename_i p hp
    split at hs
    · rename_i k2
      injection hs with hs
      subst hs
      have hxs : (if e.addr = a then (if e.kind = 1 then (⟨i, x.to, true⟩ : Spn) else if e.kind = 3 then ⟨x.frm, i, x.is⟩ else x) else x) = x := by
        simp [k2]
      rw [hxs]
      refine ⟨fun q hq hqa => ?_, fun hall => h.2 fun q hq hqa => ?_⟩
      · obtain ⟨j, hj⟩ := List.mem_iff_getElem?.1 hq
        rcases set_at hp hj with ⟨rfl, rfl⟩ | ⟨_, hj⟩
        · exact h.1 p (List.mem_of_getElem? hp) hqa
        · exact h.1 q (List.mem_of_getElem? hj) hqa
      · obtain ⟨r, hr, hra⟩ := (mem_set_addr (q := { p with reads := p.reads ++ [i] }) hp rfl a).2 ⟨q, hq, hqa⟩
        exact hall r hr hra
    · rename_i k2
      split at hs
      · rename_i hpa
        injection hs with hs
        subst hs
        have k3 : e.kind = 3 := by
          unfold Ev.form at hform
          apply Classical.byContradiction
          intro k3
          simp [k1, k2, k3] at hform
        simp only [k3, show (3 : Int) = 1 ↔ False by decide, if_false, if_true]
        have hmem := List.mem_of_getElem? hp
        by_cases hea : e.addr = a
        · simp only [hea, if_true]
          have hx := h.1 p hmem (hpa.trans hea)
          refine ⟨fun q hq hqa => ?_, fun hall => ?_⟩
          · obtain ⟨j, hj⟩ := List.mem_iff_getElem?.1 hq
            rcases set_at hp hj with ⟨rfl, rfl⟩ | ⟨hjk, hj⟩
            · simp [hx]
            · exact absurd (huniq j k q p hj hp (hqa.trans (hpa.trans hea).symm)) hjk
          · have := (mem_set_addr (q := { p with to := i }) hp rfl a).2 ⟨p, hmem, hpa.trans hea⟩
            obtain ⟨r, hr, hra⟩ := this
            exact absurd hra (hall r hr)
        · simp only [hea, if_false]
          refine ⟨fun q hq hqa => ?_, fun hall => h.2 fun q hq hqa => ?_⟩
          · obtain ⟨j, hj⟩ := List.mem_iff_getElem?.1 hq
            rcases set_at hp hj with ⟨rfl, rfl⟩ | ⟨_, hj⟩
            · exact absurd (hpa.symm.trans hqa) hea
            · exact h.1 q (List.mem_of_getElem? hj) hqa
          · obtain ⟨r, hr, hra⟩ := (mem_set_addr (q := { p with to := i }) hp rfl a).2 ⟨q, hq, hqa⟩
            exact hall r hr hra
      · cases hs
theorem run_ok {evs : List Ev} (i : Nat) (hi : i ≤ evs.length) {s : St} (h : St.start.run 0 (evs.take i) = some s) : StOk evs i s ∧ ∀ a, SpAgree a s.sps ((Spn.mk 0 0 false).run a 0 (evs.take i)) := by
  induction i generalizing s with
  | zero =>
    simp only [List.take_zero, St.run] at h
    injection h with h
    subst h
    exact ⟨.start evs, fun a => ⟨fun p hp => (List.not_mem_nil hp).elim, fun _ => rfl⟩⟩
  | succ i ih =>
    have hl : i < evs.length := hi
    have he := List.getElem?_eq_getElem hl
    have h1 : ∃ s0, St.start.run 0 (evs.take i) = some s0 := by
      rw [List.take_succ_eq_append_getElem hl, St.run_append] at h
      cases hr : St.start.run 0 (evs.take i) with
      | none => rw [hr] at h; cases h
      | some s0 => exact ⟨s0, rfl⟩
    obtain ⟨s0, h1⟩ := h1
    obtain ⟨ok, sp⟩ := ih (Nat.le_of_lt hl) h1
    have hstep := (St.run_take _ _ _ _ _ h1 he).symm.trans h
    exact ⟨ok.step he hstep, fun a => by rw [Spn.run_take a _ _ _ _ he]; exact span_step ok.nd (sp a) hstep⟩
end Go.Proofs.YtbhiaeciiphelaaGreatDoor
namespace Go.Proofs.YtbhiaeciiphelaaGreatDoor
open Go.RowKit
def ints (l : List Int) : List Value := l.map fun i => .int .i64 i
structure RtMem (w W : World) (B : Nat) (ov : Value) (r : Rt) : Prop where
  kept : Keeps w W
  nB : w.heap.size ≤ B
  made : ∃ cur, W.heap[B]? = some (.cells cur 4 (0, 0)) ∧ cur.size = 30000 ∧ ∀ a : Nat, a < 30000 → cur[a]? = some (.bool (r.made.contains (a : Int)))
  opn : W.ownsRow w.heap.size 3 1 ov r.opn.length (ints r.opn.reverse)
section
variable {w W W' : World} {B : Nat} {ov : Value} {r : Rt}
theorem RtMem.keeps (h : RtMem w W B ov r) (hk : Keeps W W') : RtMem w W' B ov r := by
  obtain ⟨cur, h1, h2, h3⟩ := h.made
  exact ⟨Keeps.trans h.kept hk, h.nB, ⟨cur, hk.at h1 (fun x => x), h2, h3⟩, row_same h.opn fun g hg => hk.block g (h.opn.lt g hg).2 (fun x => x)⟩
theorem RtMem.cell (h : RtMem w W B ov r) {a : Int} (h0 : 0 ≤ a) (h1 : a < 30000) : W.cell? ⟨B, a.toNat, none⟩ = some (.bool (r.made.contains a)) := by
  obtain ⟨cur, k1, k2, k3⟩ := h.made
  rw [cell_of_block k1, k3 a.toNat (by omega), Int.toNat_of_nonneg h0]
theorem RtMem.free (h : RtMem w W B ov r) (o : Nat) : W.frozen? ⟨B, o, none⟩ = false := by
  obtain ⟨cur, k1, k2, k3⟩ := h.made
  exact free_of_block k1 o
theorem RtMem.ne (h : RtMem w W B ov r) {g : Nat} (hg : ov.ownBlock = some g) : g ≠ B := by
  obtain ⟨cur, k1, k2, k3⟩ := h.made
  obtain ⟨c, hc⟩ := row_block h.opn hg
  intro e
  rw [e, k1] at hc
  simp at hc
theorem RtMem.mark (h : RtMem w W B ov r) {a : Int} (h0 : 0 ≤ a) (h1 : a < 30000) : RtMem w (W.setCell ⟨B, a.toNat, none⟩ (.bool true)) B ov { r with made := a :: r.made } := by
  obtain ⟨cur, k1, k2, k3⟩ := h.made
  have hk : Kept (fun b => b = B) W (W.setCell ⟨B, a.toNat, none⟩ (.bool true)) := (Kept.refl (fun b => b = B) W).setCell (p := ⟨B, a.toNat, none⟩) (fun _ => rfl) _
  refine ⟨Kept.trans h.kept hk (fun x hx e => by have := h.nB; omega), h.nB, ⟨_, heap_set_same k1 _, by simp [k2], ?_⟩, row_same h.opn fun g hg => hk.block g (h.opn.lt g hg).2 (h.ne hg)⟩
  intro b hb
  rw [Array.getElem?_setIfInBounds]
  by_cases e : a.toNat = b
  · rw [if_pos e, if_pos (by omega)]
    have : (b : Int) = a := by omega
    simp [this]
  · rw [if_neg e, k3 b hb]
    have : ¬ ((b : Int) = a) := by omega
    simp [this]
theorem RtMem.push (h : RtMem w W B ov r) {v : Value} {a : Int} (hk : Kept (fun b => ov.ownBlock = some b) W W') (hr : W'.ownsRow w.heap.size 3 1 v (r.opn.length + 1) (ints r.opn.reverse ++ [.int .i64 a])) (n : Nat) : RtMem w W' B v { r with opn := a :: r.opn, n := n } := by
  obtain ⟨cur, k1, k2, k3⟩ := h.made
  refine ⟨Kept.trans h.kept hk (fun x hx e => by have := (h.opn.lt x e).1; omega), h.nB, ⟨cur, hk.at k1 (fun e => h.ne e rfl), k2, k3⟩, ?_⟩
  have e : ints (a :: r.opn).reverse = ints r.opn.reverse ++ [.int .i64 a] := by simp [ints]
  show W'.ownsRow _ _ _ _ (a :: r.opn).length (ints (a :: r.opn).reverse)
  rw [e]
  exact hr
theorem RtMem.count (h : RtMem w W B ov r) (n : Nat) : RtMem w W B ov { r with n := n } := ⟨h.kept, h.nB, h.made, h.opn⟩
theorem RtMem.pop (h : RtMem w W B ov r) {a : Int} {l : List Int} (ho : r.opn = a :: l) : ∃ g cap, ov = .slice (some ⟨g, 0, none⟩) (l.length + 1) cap ∧ l.length + 1 ≤ cap ∧ cap ≤ maxLen ∧ W.cell? ⟨g, l.length, none⟩ = some (.int .i64 a) ∧ RtMem w W B (.slice (some ⟨g, 0, none⟩) l.length cap) { r with opn := l } := by
  obtain ⟨hlen, ho2⟩ := h.opn
  rw [ho] at hlen ho2
  rcases ho2 with ⟨_, hn⟩ | ⟨g, cap, cur, hv, hb, hg, hnc, hcm, hcs, htake⟩
  · simp at hn
  · simp only [List.length_cons, Nat.mul_one] at hv hnc htake hcs
    have e : ints (a :: l).reverse = ints l.reverse ++ [.int .i64 a] := by simp [ints]
    rw [e] at htake
    have hl : (ints l.reverse).length = l.length := by simp [ints]
    refine ⟨g, cap, hv, hnc, hcm, ?_, ⟨h.kept, h.nB, h.made, ?_⟩⟩
    · rw [cell_of_block hg]
      have := congrArg (fun x => x[l.length]?) htake
      rw [List.getElem?_append_right (by omega), List.getElem?_take] at this
      simp [hl] at this
      simpa using this
    · refine ⟨by simp [ints], .inr ⟨g, cap, cur, rfl, hb, hg, Nat.le_of_succ_le hnc, hcm, by simp [hcs], ?_⟩⟩
      have := congrArg (List.take l.length) htake
      rw [List.take_take, Nat.min_eq_left (Nat.le_succ _), List.take_append_of_le_length (by omega), ← hl, List.take_length] at this
      simp only [Nat.mul_one]
      rw [← hl]
      exact this
theorem RtMem.empty (h : RtMem w W B ov r) (ho : r.opn = []) : ∃ p c, ov = .slice p 0 c := by
  rcases h.opn.2 with ⟨h, _⟩ | ⟨g, cap, cur, hv, _⟩
  · exact ⟨_, _, h⟩
  · rw [ho] at hv; exact ⟨_, _, hv⟩
end
end Go.Proofs.YtbhiaeciiphelaaGreatDoor
