/-
  DERIVED. A map from integers to pointers that the call makes: looking up, writing a new key. No condition.
-/
import Derived.Test.YtbhiaeciiphelaaGreatDoorEvC
import Derived.Test.YtbhiaeciiphelaaGreatDoorXc
namespace Go.Proofs.YtbhiaeciiphelaaGreatDoor
open Go.RowKit

/-- A block is a map that holds just these keys, in this order, each with a pointer to a whole block. -/
def MapP (w : World) (M : Nat) (m : List (Int × Nat)) : Prop :=
  ∃ es cl, w.heap[M]? = some (.map es cl) ∧ es.toList.map (fun e => (e.key, e.val)) = m.map (fun p => (Value.int .i64 p.1, Value.pointer (some ⟨p.2, 0, none⟩)))

def lookP (m : List (Int × Nat)) (k : Int) : Option Addr := (m.find? fun p => p.1 == k).map fun p => ⟨p.2, 0, none⟩

theorem kd3 : Ex.KD Tryz.prog 3 0 := ⟨.i64, Tryz.underlying3⟩

theorem cmp_keys {w : World} {es : List MapEntry} {m : List (Int × Nat)} (h : es.map (fun e => (e.key, e.val)) = m.map (fun p => (Value.int .i64 p.1, Value.pointer (some ⟨p.2, 0, none⟩)))) (k : Int) :
    ∀ e ∈ es, ∃ b, Ex.Cmp Tryz.prog w 3 0 (.int .i64 k) e.key b := by
  intro e he
  have hm : (e.key, e.val) ∈ m.map (fun p => (Value.int .i64 p.1, Value.pointer (some ⟨p.2, 0, none⟩))) := h ▸ List.mem_map.2 ⟨e, he, rfl⟩
  obtain ⟨p, _, hp⟩ := List.mem_map.1 hm
  injection hp with hp _
  refine ⟨decide (k = p.1), ⟨?_, fun _ d hd => ?_, fun h3 => by cases h3⟩⟩
  · rw [← hp]; simp
  · rw [Tryz.underlying3] at hd
    injection hd with hd
    subst hd
    rw [← hp]
    simp [Instr.sameNow]
    rw [Bool.eq_iff_iff]; simp

theorem find_key {w : World} {es : List MapEntry} {m : List (Int × Nat)} (h : es.map (fun e => (e.key, e.val)) = m.map (fun p => (Value.int .i64 p.1, Value.pointer (some ⟨p.2, 0, none⟩)))) (hd : (m.map (·.1)).Nodup) (k : Int) :
    ∃ r, (Instr.findKey 3 (.int .i64 k) es).run Tryz.prog w = .ok r w ∧ r.map (·.2) = (lookP m k).map fun a => Value.pointer (some a) := by
  obtain ⟨r, h1, h2⟩ := Ex.findKey_run (P := Tryz.prog) (w := w) kd3 es (cmp_keys h k)
  refine ⟨r, h1, ?_⟩
  cases r with
  | none =>
    have : lookP m k = none := by
      unfold lookP
      rw [List.find?_eq_none.2]
      · rfl
      · intro p hp hk
        have hk' : p.1 = k := by simpa using hk
        have hm : (Value.int .i64 p.1, Value.pointer (some ⟨p.2, 0, none⟩)) ∈ es.map (fun e => (e.key, e.val)) := h ▸ List.mem_map.2 ⟨p, hp, rfl⟩
        obtain ⟨e, he, hee⟩ := List.mem_map.1 hm
        injection hee with q1 q2
        exact h2 e he (by rw [q1, hk'])
    rw [this]; rfl
  | some ju =>
    obtain ⟨j, u⟩ := ju
    obtain ⟨e, he, hk, hu⟩ := h2
    have hj := congrArg (fun l => l[j]?) h
    simp only [List.getElem?_map, he, Option.map_some] at hj
    cases hm : m[j]? with
    | none => rw [hm] at hj; cases hj
    | some p =>
      rw [hm] at hj
      simp only [Option.map_some, Option.some.injEq, Prod.mk.injEq] at hj
      have hpk : p.1 = k := ((Value.int.injEq _ _ _ _).mp (hk.symm.trans hj.1)).2.symm
      have hf : m.find? (fun p => p.1 == k) = some p := by
        cases hf : m.find? (fun p => p.1 == k) with
        | none => exact absurd (beq_iff_eq.2 hpk) (List.find?_eq_none.1 hf p (List.mem_of_getElem? hm))
        | some q =>
          have hq : q.1 = k := by simpa using List.find?_some hf
          obtain ⟨i, hi⟩ := List.mem_iff_getElem?.1 (List.mem_of_find?_eq_some hf)
          have e1 : (m.map (·.1))[i]? = some k := by rw [List.getElem?_map, hi]; simp [hq]
          have e2 : (m.map (·.1))[j]? = some k := by rw [List.getElem?_map, hm]; simp [hpk]
          have hlt : i < (m.map (·.1)).length := (List.getElem?_eq_some_iff.1 e1).1
          have : i = j := (List.getElem?_inj hlt hd).1 (e1.trans e2.symm)
          subst this
          rw [hi] at hm
          exact hm
      unfold lookP
      rw [hf]
      simp only [Option.map_some]
      rw [← hu, hj.2]

theorem MapP.look {w : World} {M : Nat} {m : List (Int × Nat)} (h : MapP w M m) (hd : (m.map (·.1)).Nodup) (k : Int) :
    (Instr.lookup 127 (.map (some M)) (.int .i64 k) false).run Tryz.prog w = .ok (.pointer (lookP m k)) w := by
  obtain ⟨es, cl, h1, h2⟩ := h
  obtain ⟨r, h3, h4⟩ := find_key (w := w) h2 hd k
  have hck := Ex.checkKey_run (P := Tryz.prog) (w := w) kd3 es.isEmpty (.int .i64 k)
  have hz : (zeroValue 99).run Tryz.prog w = .ok (.pointer none) w := by kernel_rfl
  simp only [Instr.lookup, Sem.run_bind, run_underlying Tryz.underlying127, Result.andThen_ok, Ex.run_getMap h1, Sem.run_pure, hck, h3]
  cases r with
  | none =>
    cases hl : lookP m k with
    | none => simp [hz]
    | some a => rw [hl] at h4; cases h4
  | some ju =>
    cases hl : lookP m k with
    | none => rw [hl] at h4; cases h4
    | some a =>
      rw [hl] at h4
      simp only [Option.map_some, Option.some.injEq] at h4
      simp [h4]

theorem MapP.put {w : World} {M : Nat} {m : List (Int × Nat)} (h : MapP w M m) (hd : (m.map (·.1)).Nodup) (k : Int) (b : Nat) (hk : lookP m k = none) :
    ∃ o, (Instr.mapUpdate 127 (.map (some M)) (.int .i64 k) (.pointer (some ⟨b, 0, none⟩))).run Tryz.prog w = .ok () { w with heap := w.heap.setIfInBounds M o } ∧
      MapP { w with heap := w.heap.setIfInBounds M o } M (m ++ [(k, b)]) := by
  obtain ⟨es, cl, h1, h2⟩ := h
  obtain ⟨r, h3, h4⟩ := find_key (w := w) h2 hd k
  have hck := Ex.checkKey_run (P := Tryz.prog) (w := w) kd3 false (.int .i64 k)
  have hlt : M < w.heap.size := by
    rcases Nat.lt_or_ge M w.heap.size with h | h
    · exact h
    · rw [Array.getElem?_eq_none h] at h1; cases h1
  refine ⟨.map (es.push { key := .int .i64 k, val := .pointer (some ⟨b, 0, none⟩), born := cl }) (cl + 1), ?_, _, _, Array.getElem?_setIfInBounds_self_of_lt hlt, ?_⟩
  · cases r with
    | some ju => rw [hk] at h4; cases h4
    | none =>
      simp only [Instr.mapUpdate, Sem.run_bind, run_underlying Tryz.underlying127, Result.andThen_ok, Ex.run_getMap h1, hck, h3, Ex.run_setMap _ h1]
  · simp [h2]
theorem MapP.add {w : World} {M : Nat} {m : List (Int × Nat)} (h : MapP w M m) (hd : (m.map (·.1)).Nodup) (k : Int) (b : Nat) (hk : lookP m k = none) :
    ∃ w', (Instr.mapUpdate 127 (.map (some M)) (.int .i64 k) (.pointer (some ⟨b, 0, none⟩))).run Tryz.prog w = .ok () w' ∧ Kept (fun x => x = M) w w' ∧ MapP w' M (m ++ [(k, b)]) := by
  obtain ⟨o, h1, h2⟩ := h.put hd k b hk
  exact ⟨_, h1, (Kept.refl (fun x => x = M) w).putObj (fun _ => rfl) o, h2⟩
end Go.Proofs.YtbhiaeciiphelaaGreatDoor
namespace Go.Proofs.YtbhiaeciiphelaaGreatDoor
open Go.RowKit

theorem MapP.same {w w' : World} {M : Nat} {m : List (Int × Nat)} (h : MapP w M m) (hs : w'.heap[M]? = w.heap[M]?) : MapP w' M m := by
  obtain ⟨es, cl, h1, h2⟩ := h
  exact ⟨es, cl, hs.trans h1, h2⟩
/-- Where the span with a number lies. -/
def ptrOf (m : List (Int × Nat)) : Option Nat → Option Addr
  | none => none
  | some k => (m[k]?).map fun x => ⟨x.2, 0, none⟩
theorem ptrOf_append {m : List (Int × Nat)} {o : Option Nat} (x : Int × Nat) (h : ∀ k, o = some k → k < m.length) : ptrOf (m ++ [x]) o = ptrOf m o := by
  cases o with
  | none => rfl
  | some k => simp only [ptrOf]; rw [List.getElem?_append_left (h k rfl)]
def spanObj (m : List (Int × Nat)) (p : Sp) (v : Value) : Obj := .cells #[.int .i64 p.frm, .int .i64 p.to, .pointer (ptrOf m p.outer), v] 103 (0, 0)
def listObj (ev : Value) (M : Nat) (wv : Value) : Obj := .cells #[ev, .map (some M), wv] 130 (0, 0)
def nums (l : List Nat) : List Value := l.map fun i : Nat => .int .i64 (i : Int)

/-- How read's list lies in memory. -/
structure RMem (w W : World) (ev : Value) (L M : Nat) (wv : Value) (m : List (Int × Nat)) (rf : Nat → Value) (sps : List Sp) (win : List Nat) : Prop where
  kept : Keeps w W
  hL : W.heap[L]? = some (listObj ev M wv)
  nL : w.heap.size ≤ L
  nM : w.heap.size ≤ M
  map : MapP W M m
  addrs : m.map (·.1) = sps.map (·.addr)
  news : ∀ x ∈ m, w.heap.size ≤ x.2
  bnd : (m.map (·.2)).Nodup
  sp : ∀ (k : Nat) (p : Sp) (x : Int × Nat), sps[k]? = some p → m[k]? = some x → W.heap[x.2]? = some (spanObj m p (rf k))
  rows : ∀ (k : Nat) (p : Sp), sps[k]? = some p → W.ownsRow w.heap.size 3 1 (rf k) p.reads.length (nums p.reads)
  apart : ∀ (j k b : Nat), j < sps.length → k < sps.length → j ≠ k → (rf j).ownBlock = some b → (rf k).ownBlock ≠ some b
  winr : W.ownsRow w.heap.size 99 1 wv win.length (win.map fun k => .pointer (ptrOf m (some k)))
  out : ∀ (k : Nat) (p : Sp) (j : Nat), sps[k]? = some p → p.outer = some j → j < sps.length
  winlt : ∀ k ∈ win, k < sps.length

section
variable {w W W' : World} {ev : Value} {L M : Nat} {wv : Value} {m : List (Int × Nat)} {rf : Nat → Value} {sps : List Sp} {win : List Nat}
theorem RMem.len (h : RMem w W ev L M wv m rf sps win) : m.length = sps.length := by
  have := congrArg List.length h.addrs
  simpa using this
theorem RMem.at (h : RMem w W ev L M wv m rf sps win) {k : Nat} {p : Sp} (hp : sps[k]? = some p) : ∃ b, m[k]? = some (p.addr, b) ∧ w.heap.size ≤ b ∧ W.heap[b]? = some (spanObj m p (rf k)) := by
  have hk : k < m.length := by rw [h.len]; exact (List.getElem?_eq_some_iff.1 hp).1
  have hm := List.getElem?_eq_getElem hk
  have e := congrArg (fun l => l[k]?) h.addrs
  simp only [List.getElem?_map, hm, hp, Option.map_some, Option.some.injEq] at e
  refine ⟨m[k].2, ?_, h.news _ (List.getElem_mem hk), h.sp k p _ hp hm⟩
  rw [hm, ← e]
/-- The blocks of the list's own: what keeps them keeps the list. -/
theorem RMem.keep {S : Nat → Prop} (h : RMem w W ev L M wv m rf sps win) (hk : Kept S W W') (hS : ∀ b, S b → w.heap.size ≤ b)
    (hL : ¬ S L) (hM : ¬ S M) (hs : ∀ x ∈ m, ¬ S x.2) (hr : ∀ k b, k < sps.length → (rf k).ownBlock = some b → ¬ S b) (hw : ∀ b, wv.ownBlock = some b → ¬ S b) : RMem w W' ev L M wv m rf sps win := by
  obtain ⟨es, cl, hm1, hm2⟩ := h.map
  refine ⟨Kept.trans h.kept hk (fun x hx hx2 => by have := hS x hx2; omega), hk.at h.hL hL, h.nL, h.nM, ⟨es, cl, hk.at hm1 hM, hm2⟩, h.addrs, h.news, h.bnd, ?_, ?_, h.apart, ?_, h.out, h.winlt⟩
  · intro k p x hp hx
    exact hk.at (h.sp k p x hp hx) (hs x (List.mem_of_getElem? hx))
  · intro k p hp
    refine row_same (h.rows k p hp) fun g hg => ?_
    exact hk.block g ((h.rows k p hp).lt g hg).2 (hr k g (List.getElem?_eq_some_iff.1 hp).1 hg)
  · refine row_same h.winr fun g hg => ?_
    exact hk.block g (h.winr.lt g hg).2 (hw g hg)
theorem RMem.keeps (h : RMem w W ev L M wv m rf sps win) (hk : Keeps W W') : RMem w W' ev L M wv m rf sps win :=
  h.keep hk (fun _ x => x.elim) (fun x => x) (fun x => x) (fun _ _ x => x) (fun _ _ _ _ x => x) (fun _ _ x => x)
theorem RMem.neLS (h : RMem w W ev L M wv m rf sps win) {k : Nat} {x : Int × Nat} (hx : m[k]? = some x) : L ≠ x.2 := by
  have hk : k < sps.length := by rw [← h.len]; exact (List.getElem?_eq_some_iff.1 hx).1
  have h2 := h.sp k _ x (List.getElem?_eq_getElem hk) hx
  intro e
  rw [← e, h.hL] at h2
  simp [listObj, spanObj] at h2
theorem RMem.neMS (h : RMem w W ev L M wv m rf sps win) {k : Nat} {x : Int × Nat} (hx : m[k]? = some x) : M ≠ x.2 := by
  have hk : k < sps.length := by rw [← h.len]; exact (List.getElem?_eq_some_iff.1 hx).1
  have h2 := h.sp k _ x (List.getElem?_eq_getElem hk) hx
  obtain ⟨es, cl, hm, _⟩ := h.map
  intro e
  rw [← e, hm] at h2
  simp [spanObj] at h2
theorem RMem.neLM (h : RMem w W ev L M wv m rf sps win) : L ≠ M := by
  obtain ⟨es, cl, hm, _⟩ := h.map
  intro e
  rw [← e, h.hL] at hm
  simp [listObj] at hm
theorem RMem.neRow (h : RMem w W ev L M wv m rf sps win) {k b : Nat} (hk : k < sps.length) (hb : (rf k).ownBlock = some b) : b ≠ L ∧ b ≠ M ∧ (∀ x ∈ m, b ≠ x.2) ∧ wv.ownBlock ≠ some b := by
  obtain ⟨cur, hc⟩ := row_block (h.rows k _ (List.getElem?_eq_getElem hk)) hb
  obtain ⟨es, cl, hm, _⟩ := h.map
  refine ⟨fun e => ?_, fun e => ?_, fun x hx e => ?_, fun e => ?_⟩
  · rw [e, h.hL] at hc; simp [listObj] at hc
  · rw [e, hm] at hc; simp at hc
  · obtain ⟨j, hj⟩ := List.mem_iff_getElem?.1 hx
    have hjl : j < sps.length := by rw [← h.len]; exact (List.getElem?_eq_some_iff.1 hj).1
    rw [e, h.sp j _ x (List.getElem?_eq_getElem hjl) hj] at hc; simp [spanObj] at hc
  · obtain ⟨cur', hc'⟩ := row_block h.winr e
    rw [hc] at hc'; simp at hc'
theorem RMem.neWin (h : RMem w W ev L M wv m rf sps win) {b : Nat} (hb : wv.ownBlock = some b) : b ≠ L ∧ b ≠ M ∧ (∀ x ∈ m, b ≠ x.2) ∧ ∀ k, k < sps.length → (rf k).ownBlock ≠ some b := by
  obtain ⟨cur, hc⟩ := row_block h.winr hb
  obtain ⟨es, cl, hm, _⟩ := h.map
  refine ⟨fun e => ?_, fun e => ?_, fun x hx e => ?_, fun k hk e => (h.neRow hk e).2.2.2 hb⟩
  · rw [e, h.hL] at hc; simp [listObj] at hc
  · rw [e, hm] at hc; simp at hc
  · obtain ⟨j, hj⟩ := List.mem_iff_getElem?.1 hx
    have hjl : j < sps.length := by rw [← h.len]; exact (List.getElem?_eq_some_iff.1 hj).1
    rw [e, h.sp j _ x (List.getElem?_eq_getElem hjl) hj] at hc; simp [spanObj] at hc
theorem RMem.uniq (h : RMem w W ev L M wv m rf sps win) {j k : Nat} {x y : Int × Nat} (hx : m[j]? = some x) (hy : m[k]? = some y) (e : x.2 = y.2) : j = k := by
  have e1 : (m.map (·.2))[j]? = some x.2 := by rw [List.getElem?_map, hx]; rfl
  have e2 : (m.map (·.2))[k]? = some x.2 := by rw [List.getElem?_map, hy, e]; rfl
  exact (List.getElem?_inj (List.getElem?_eq_some_iff.1 e1).1 h.bnd).1 (e1.trans e2.symm)

/-- The list at the start. -/
theorem RMem.start (hk : Keeps w W) (hL : W.heap[L]? = some (listObj ev M (.slice none 0 0))) (nL : w.heap.size ≤ L) (nM : w.heap.size ≤ M) (hm : MapP W M []) : RMem w W ev L M (.slice none 0 0) [] rf [] [] :=
  ⟨hk, hL, nL, nM, hm, rfl, fun x hx => (List.not_mem_nil hx).elim, List.nodup_nil, fun k p x h => by simp at h, fun k p h => by simp at h, fun j k b hj => by simp at hj, World.ownsRow_nil _ _ _ _, fun k p j h => by simp at h, fun k h => (List.not_mem_nil h).elim⟩

/-- A new modifiable. -/
theorem RMem.make (h : RMem w W ev L M wv m rf sps win) {top : Option Nat} (htop : ∀ k, top = some k → k < sps.length) {nb i : Nat} {a : Int} (hnb : W.heap.size ≤ nb)
    (hk : Kept (fun b => b = M) W W') (hs : W'.heap[nb]? = some (spanObj m ⟨i, 0, top, a, []⟩ (.slice none 0 0))) (hm : MapP W' M (m ++ [(a, nb)])) :
    RMem w W' ev L M wv (m ++ [(a, nb)]) (fun k => if k = sps.length then .slice none 0 0 else rf k) (sps ++ [⟨i, 0, top, a, []⟩]) win := by
  have hlen := h.len
  have hws := h.kept.size
  have hsplit : ∀ (k : Nat) (p : Sp), (sps ++ [⟨i, 0, top, a, []⟩])[k]? = some p → (k < sps.length ∧ sps[k]? = some p) ∨ (k = sps.length ∧ p = ⟨i, 0, top, a, []⟩) := by
    intro k p hp
    rcases Nat.lt_trichotomy k sps.length with hk | hk | hk
    · rw [List.getElem?_append_left hk] at hp; exact .inl ⟨hk, hp⟩
    · subst hk; simp at hp; exact .inr ⟨rfl, hp.symm⟩
    · rw [List.getElem?_append_right (by omega), List.getElem?_eq_none (by simp; omega)] at hp; cases hp
  have hout : ∀ (k : Nat) (p : Sp), sps[k]? = some p → ptrOf (m ++ [(a, nb)]) p.outer = ptrOf m p.outer := fun k p hp => ptrOf_append _ (fun j hj => by rw [hlen]; exact h.out k p j hp hj)
  have hblk : ∀ x ∈ m, x.2 < W.heap.size := by
    intro x hx
    obtain ⟨j, hj⟩ := List.mem_iff_getElem?.1 hx
    have hjl : j < sps.length := by rw [← h.len]; exact (List.getElem?_eq_some_iff.1 hj).1
    exact heap_lt (h.sp j _ x (List.getElem?_eq_getElem hjl) hj)
  refine ⟨Kept.trans h.kept hk (fun x hx hx2 => by have := h.nM; omega), hk.at h.hL h.neLM, h.nL, h.nM, hm, by simp [h.addrs], ?_, ?_, ?_, ?_, ?_, ?_, ?_, ?_⟩
  · intro x hx
    rcases List.mem_append.1 hx with hx | hx
    · exact h.news x hx
    · rw [List.mem_singleton] at hx; subst hx; exact Nat.le_trans hws hnb
  · rw [List.map_append, List.nodup_append]
    refine ⟨h.bnd, by simp, ?_⟩
    intro b hb c hc e
    simp only [List.map_cons, List.map_nil, List.mem_singleton] at hc
    subst hc; subst e
    obtain ⟨x, hx, e⟩ := List.mem_map.1 hb
    have := hblk x hx
    omega
  · intro k p x hp hx
    rcases hsplit k p hp with ⟨hkl, hp⟩ | ⟨rfl, rfl⟩
    · rw [List.getElem?_append_left (by rw [hlen]; exact hkl)] at hx
      rw [if_neg (by omega)]
      have := hk.at (h.sp k p x hp hx) (fun e => h.neMS hx e.symm)
      rw [this]
      simp only [spanObj, hout k p hp]
    · rw [← hlen] at hx
      simp at hx
      subst hx
      rw [if_pos rfl]
      rw [hs]
      simp only [spanObj]
      rw [ptrOf_append _ (fun k hk => by rw [hlen]; exact htop k hk)]
  · intro k p hp
    rcases hsplit k p hp with ⟨hkl, hp⟩ | ⟨rfl, rfl⟩
    · rw [if_neg (by omega)]
      refine row_same (h.rows k p hp) fun g hg => ?_
      exact hk.block g ((h.rows k p hp).lt g hg).2 (h.neRow hkl hg).2.1
    · rw [if_pos rfl]; exact World.ownsRow_nil _ _ _ _
  · intro j k b hj hk' hjk hb
    simp only [List.length_append, List.length_cons, List.length_nil] at hj hk'
    by_cases hj' : j = sps.length
    · rw [if_pos hj'] at hb; simp [Value.ownBlock] at hb
    · rw [if_neg hj'] at hb
      by_cases hk'' : k = sps.length
      · rw [if_pos hk'']; simp [Value.ownBlock]
      · rw [if_neg hk'']; exact h.apart j k b (by omega) (by omega) hjk hb
  · have hw := row_same h.winr (w' := W') fun g hg => hk.block g (h.winr.lt g hg).2 (h.neWin hg).2.1
    have : (win.map fun k => Value.pointer (ptrOf (m ++ [(a, nb)]) (some k))) = win.map fun k => Value.pointer (ptrOf m (some k)) := by
      refine List.map_congr_left fun k hk => ?_
      rw [ptrOf_append _ (fun j hj => by injection hj with hj; subst hj; rw [hlen]; exact h.winlt k hk)]
    rw [this]
    exact hw
  · intro k p j hp hj
    simp only [List.length_append, List.length_cons, List.length_nil]
    rcases hsplit k p hp with ⟨hkl, hp⟩ | ⟨rfl, rfl⟩
    · have := h.out k p j hp hj; omega
    · have := htop j hj; omega
  · intro k hk
    have := h.winlt k hk
    simp; omega

/-- Span k written over: another object for its block; its row, if it is a new one, apart. -/
theorem RMem.write (h : RMem w W ev L M wv m rf sps win) {k : Nat} {p q : Sp} {x : Int × Nat} {v : Value} (hp : sps[k]? = some p) (hx : m[k]? = some x) (hqa : q.addr = p.addr) (hqo : q.outer = p.outer)
    (hk : Kept (fun b => b = x.2 ∨ (rf k).ownBlock = some b) W W') (hs : W'.heap[x.2]? = some (spanObj m q v)) (hr : W'.ownsRow w.heap.size 3 1 v q.reads.length (nums q.reads))
    (hv : ∀ g, v.ownBlock = some g → (rf k).ownBlock = some g ∨ W.heap.size ≤ g) : RMem w W' ev L M wv m (fun j => if j = k then v else rf j) (sps.set k q) win := by
  have hkl := (List.getElem?_eq_some_iff.1 hp).1
  have hxm := List.mem_of_getElem? hx
  have hx0 := h.news x hxm
  obtain ⟨es, cl, hm1, hm2⟩ := h.map
  have hrk : ∀ g, (rf k).ownBlock = some g → w.heap.size ≤ g := fun g hg => ((h.rows k p hp).lt g hg).1
  refine ⟨Kept.trans h.kept hk ?_, hk.at h.hL ?_, h.nL, h.nM, ⟨es, cl, hk.at hm1 ?_, hm2⟩, ?_, h.news, h.bnd, ?_, ?_, ?_, ?_, ?_, ?_⟩
  · rintro y hy (rfl | hy2)
    · omega
    · have := hrk y hy2; omega
  · rintro (e | e)
    · exact h.neLS hx e
    · exact (h.neRow hkl e).1 rfl
  · rintro (e | e)
    · exact h.neMS hx e
    · exact (h.neRow hkl e).2.1 rfl
  · rw [map_set_same (·.addr) hp hqa]; exact h.addrs
  · intro j r y hr hy
    rcases set_at hp hr with ⟨rfl, rfl⟩ | ⟨hj, hr⟩
    · rw [hx] at hy; injection hy with hy; subst hy
      rw [if_pos rfl]; exact hs
    · rw [if_neg hj]
      refine hk.at (h.sp j r y hr hy) ?_
      rintro (e | e)
      · exact hj (h.uniq hy hx e)
      · exact (h.neRow hkl e).2.2.1 y (List.mem_of_getElem? hy) rfl
  · intro j r hr'
    rcases set_at hp hr' with ⟨rfl, rfl⟩ | ⟨hj, hr'⟩
    · rw [if_pos rfl]; exact hr
    · rw [if_neg hj]
      have hjl := (List.getElem?_eq_some_iff.1 hr').1
      refine row_same (h.rows j r hr') fun g hg => ?_
      refine hk.block g ((h.rows j r hr').lt g hg).2 ?_
      rintro (e | e)
      · exact (h.neRow hjl hg).2.2.1 x hxm e
      · exact h.apart j k g hjl hkl hj hg e
  · intro i j b hi hj hij hb
    simp only [List.length_set] at hi hj
    by_cases hik : i = k
    · subst hik
      rw [if_pos rfl] at hb
      rw [if_neg (fun e => hij e.symm)]
      rcases hv b hb with hb | hb
      · exact h.apart i j b hi hj hij hb
      · intro e
        have := ((h.rows j _ (List.getElem?_eq_getElem hj)).lt b e).2
        omega
    · rw [if_neg hik] at hb
      by_cases hjk : j = k
      · subst hjk
        rw [if_pos rfl]
        intro e
        rcases hv b e with e | e
        · exact h.apart i j b hi hj hij hb e
        · have := ((h.rows i _ (List.getElem?_eq_getElem hi)).lt b hb).2
          omega
      · rw [if_neg hjk]; exact h.apart i j b hi hj hij hb
  · refine row_same h.winr fun g hg => hk.block g (h.winr.lt g hg).2 ?_
    rintro (e | e)
    · exact (h.neWin hg).2.2.1 x hxm e
    · exact (h.neWin hg).2.2.2 k hkl e
  · intro j r o hr ho
    rw [List.length_set]
    rcases set_at hp hr with ⟨rfl, rfl⟩ | ⟨hj, hr⟩
    · exact h.out _ p o hp (hqo ▸ ho)
    · exact h.out j r o hr ho
  · intro j hj
    rw [List.length_set]; exact h.winlt j hj

/-- One more place within. -/
theorem RMem.more (h : RMem w W ev L M wv m rf sps win) {k : Nat} {v : Value} (hkl : k < sps.length) (hk : Kept (fun b => b = L ∨ wv.ownBlock = some b) W W') (hL : W'.heap[L]? = some (listObj ev M v))
    (hr : W'.ownsRow w.heap.size 99 1 v (win.length + 1) ((win.map fun k => .pointer (ptrOf m (some k))) ++ [.pointer (ptrOf m (some k))])) : RMem w W' ev L M v m rf sps (win ++ [k]) := by
  obtain ⟨es, cl, hm1, hm2⟩ := h.map
  refine ⟨Kept.trans h.kept hk ?_, hL, h.nL, h.nM, ⟨es, cl, hk.at hm1 ?_, hm2⟩, h.addrs, h.news, h.bnd, ?_, ?_, h.apart, ?_, h.out, ?_⟩
  · rintro y hy (rfl | hy2)
    · have := h.nL; omega
    · have := (h.winr.lt y hy2).1; omega
  · rintro (e | e)
    · exact h.neLM e.symm
    · exact (h.neWin e).2.1 rfl
  · intro j r y hr hy
    refine hk.at (h.sp j r y hr hy) ?_
    rintro (e | e)
    · exact h.neLS hy e.symm
    · exact (h.neWin e).2.2.1 y (List.mem_of_getElem? hy) rfl
  · intro j r hr'
    refine row_same (h.rows j r hr') fun g hg => hk.block g ((h.rows j r hr').lt g hg).2 ?_
    have hjl := (List.getElem?_eq_some_iff.1 hr').1
    rintro (e | e)
    · exact (h.neRow hjl hg).1 e
    · exact (h.neRow hjl hg).2.2.2 e
  · simpa using hr
  · intro j hj
    rcases List.mem_append.1 hj with hj | hj
    · exact h.winlt j hj
    · rw [List.mem_singleton] at hj; subst hj; exact hkl
theorem own_of {v : Value} {row : Option Nat} (h : v.ownBlock = row) {b : Nat} (hb : row = some b) : v.ownBlock = some b := h.trans hb
/-- The place within is gathered: an append, then the store into the list. -/
theorem RMem.gathered (h : RMem w W ev L M wv m rf sps win) {k : Nat} {v : Value} {o : Obj} {W5 : World} (hkl : k < sps.length) (hg : (W.alloc o).grownBy W5 wv.ownBlock)
    (hr : W5.ownsRow w.heap.size 99 1 v (win.length + 1) ((win.map fun k => .pointer (ptrOf m (some k))) ++ [.pointer (ptrOf m (some k))])) :
    RMem w (W5.setCell ⟨L, 2, none⟩ v) ev L M v m rf sps (win ++ [k]) ∧ W5.heap[L]? = some (listObj ev M wv) ∧
      (∀ (b : Nat) (c : Array Value), W.heap[b]? = some (.cells c 98 (0, 0)) → (W5.setCell ⟨L, 2, none⟩ v).heap[b]? = some (.cells c 98 (0, 0))) := by
  have hk5 : Kept (fun b => wv.ownBlock = some b) W W5 := ((Kept.refl _ W).alloc o).grown hg (fun b hb _ => hb)
  have hL5 : W5.heap[L]? = some (listObj ev M wv) := hk5.at h.hL (fun e => (h.neWin e).1 rfl)
  have hk6 : Kept (fun b => b = L ∨ wv.ownBlock = some b) W (W5.setCell ⟨L, 2, none⟩ v) := (hk5.mono (fun x _ hx => .inr hx)).setCell (p := ⟨L, 2, none⟩) (fun _ => .inl rfl) _
  refine ⟨h.more hkl hk6 ?_ ?_, hL5, fun b c hb => ?_⟩
  · unfold listObj at hL5
    rw [heap_set_same hL5]; rfl
  · refine row_same hr fun g hg' => ?_
    obtain ⟨cur, hc⟩ := row_block hr hg'
    exact heap_set_other _ (fun e => by rw [e, hL5] at hc; simp [listObj] at hc)
  · refine hk6.at hb ?_
    rintro (e | e)
    · rw [e, h.hL] at hb; simp [listObj] at hb
    · obtain ⟨cur, hc⟩ := row_block h.winr e
      rw [hc] at hb; simp at hb

/-- A read is gathered: an append, then the store into the span. -/
theorem RMem.noted (h : RMem w W ev L M wv m rf sps win) {k i : Nat} {p : Sp} {x : Int × Nat} {v : Value} {o : Obj} {W5 : World} (hp : sps[k]? = some p) (hx : m[k]? = some x) (hg : (W.alloc o).grownBy W5 (rf k).ownBlock)
    (hr : W5.ownsRow w.heap.size 3 1 v (p.reads.length + 1) (nums p.reads ++ [.int .i64 i])) (hat : v.ownBlock = (rf k).ownBlock ∨ v.ownBlock = some (W.alloc o).heap.size) :
    RMem w (W5.setCell ⟨x.2, 3, none⟩ v) ev L M wv m (fun j => if j = k then v else rf j) (sps.set k { p with reads := p.reads ++ [i] }) win ∧ W5.heap[x.2]? = some (spanObj m p (rf k)) ∧
      (∀ (b : Nat) (c : Array Value), W.heap[b]? = some (.cells c 98 (0, 0)) → (W5.setCell ⟨x.2, 3, none⟩ v).heap[b]? = some (.cells c 98 (0, 0))) := by
  have hkl := (List.getElem?_eq_some_iff.1 hp).1
  have hk5 : Kept (fun b => (rf k).ownBlock = some b) W W5 := ((Kept.refl _ W).alloc o).grown hg (fun b hb _ => hb)
  have hS5 : W5.heap[x.2]? = some (spanObj m p (rf k)) := hk5.at (h.sp k p x hp hx) (fun e => (h.neRow hkl e).2.2.1 x (List.mem_of_getElem? hx) rfl)
  have hk6 : Kept (fun b => b = x.2 ∨ (rf k).ownBlock = some b) W (W5.setCell ⟨x.2, 3, none⟩ v) := (hk5.mono (fun x _ hx => .inr hx)).setCell (p := ⟨x.2, 3, none⟩) (fun _ => .inl rfl) _
  refine ⟨h.write hp hx rfl rfl hk6 ?_ ?_ ?_, hS5, fun b c hb => ?_⟩
  · unfold spanObj at hS5
    rw [heap_set_same hS5]; rfl
  · have e1 : (p.reads ++ [i]).length = p.reads.length + 1 := by simp
    have e2 : nums (p.reads ++ [i]) = nums p.reads ++ [.int .i64 i] := by simp [nums]
    show World.ownsRow _ _ _ _ _ (p.reads ++ [i]).length (nums (p.reads ++ [i]))
    rw [e1, e2]
    refine row_same hr fun g hg' => ?_
    obtain ⟨cur, hc⟩ := row_block hr hg'
    exact heap_set_other _ (fun e => by rw [e, hS5] at hc; simp [spanObj] at hc)
  · intro g hg'
    rcases hat with e | e
    · exact .inl (e ▸ hg')
    · rw [e] at hg'
      injection hg' with hg'
      right
      rw [← hg', World.size_alloc]
      exact Nat.le_succ _
  · refine hk6.at hb ?_
    rintro (e | e)
    · rw [e, h.sp k p x hp hx] at hb; simp [spanObj] at hb
    · obtain ⟨cur, hc⟩ := row_block (h.rows k p hp) e
      rw [hc] at hb; simp at hb
/-- The write is noted. -/
theorem RMem.closed (h : RMem w W ev L M wv m rf sps win) {k i : Nat} {p : Sp} {x : Int × Nat} (hp : sps[k]? = some p) (hx : m[k]? = some x) :
    RMem w (W.setCell ⟨x.2, 1, none⟩ (.int .i64 i)) ev L M wv m (fun j => if j = k then rf k else rf j) (sps.set k { p with to := i }) win := by
  have hkl := (List.getElem?_eq_some_iff.1 hp).1
  have hS := h.sp k p x hp hx
  refine h.write hp hx rfl rfl ((Kept.refl _ W).setCell (p := ⟨x.2, 1, none⟩) (fun _ => .inl rfl) _) ?_ ?_ (fun g hg => .inl hg)
  · unfold spanObj at hS
    rw [heap_set_same hS]; rfl
  · refine row_same (h.rows k p hp) fun g hg => heap_set_other _ ?_
    exact (h.neRow hkl hg).2.2.1 x (List.mem_of_getElem? hx)
end
end Go.Proofs.YtbhiaeciiphelaaGreatDoor
