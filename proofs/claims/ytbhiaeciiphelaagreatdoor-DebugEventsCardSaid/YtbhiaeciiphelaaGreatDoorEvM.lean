/-
  DERIVED. A map from integers to pointers that the call makes: looking up, writing a new key. No condition.
-/
import Derived.Test.YtbhiaeciiphelaaGreatDoorEvA
import Derived.Test.YtbhiaeciiphelaaGreatDoorXc
import Derived.Carry
import Derived.OwnWalk
import Derived.StillTailTactics
namespace Go.Proofs.YtbhiaeciiphelaaGreatDoor
open Go.RowKit
def MapP (w : World) (M : Nat) (m : List (Int × Nat)) : Prop :=
  ∃ es cl, w.heap[M]? = some (.map es cl) ∧ es.toList.map (fun e => (e.key, e.val)) = m.map (fun p => (Value.int .i64 p.1, Value.pointer (some ⟨p.2, 0, none⟩)))
def lookP (m : List (Int × Nat)) (k : Int) : Option Addr := (m.find? fun p => p.1 == k).map fun p => ⟨p.2, 0, none⟩
theorem kd3 : Ex.KD Tryz.prog 3 0 := ⟨.i64, Tryz.underlying3⟩
theorem cmp_keys {w : World} {es : List MapEntry} {m : List (Int × Nat)} (h : es.map (fun e => (e.key, e.val)) = m.map (fun p => (Value.int .i64 p.1, Value.pointer (some ⟨p.2, 0, none⟩)))) (k : Int) :
    ∀ e ∈ es, ∃ b, Ex.Cmp Tryz.prog w 3 0 (.int .i64 k) e.key b := by
  intro e he
  have hm : (e.key, e.val) ∈ m.map (fun p => (Value.int .i64 p.1, Value.pointer (some ⟨p.2, 0, none⟩))) := h ▸ List.mem_map.2 ⟨e, he, rfl⟩
  obtain ⟨p, _, hp⟩ := List.mem_map.1 hm
  injection hp with hp _
  refine ⟨decide (k = p.1), ⟨?_, fun _ d hd => ?_, fun h3 => by cases h3⟩⟩
  · rw [← hp]; simp
  · rw [Tryz.underlying3] at hd
    injection hd with hd
    subst hd
    rw [← hp]
    simp [Instr.sameNow]
    rw [Bool.eq_iff_iff]; simp
theorem find_key {w : World} {es : List MapEntry} {m : List (Int × Nat)} (h : es.map (fun e => (e.key, e.val)) = m.map (fun p => (Value.int .i64 p.1, Value.pointer (some ⟨p.2, 0, none⟩)))) (hd : (m.map (·.1)).Nodup) (k : Int) :
    ∃ r, (Instr.findKey 3 (.int .i64 k) es).run Tryz.prog w = .ok r w ∧ r.map (·.2) = (lookP m k).map fun a => Value.pointer (some a) := by
  obtain ⟨r, h1, h2⟩ := Ex.findKey_run (P := Tryz.prog) (w := w) kd3 es (cmp_keys h k)
  refine ⟨r, h1, ?_⟩
  cases r with
  | none =>
    have : lookP m k = none := by
      unfold lookP
      rw [List.find?_eq_none.2]
      · rfl
      · intro p hp hk
        have hk' : p.1 = k := by simpa using hk
        have hm : (Value.int .i64 p.1, Value.pointer (some ⟨p.2, 0, none⟩)) ∈ es.map (fun e => (e.key, e.val)) := h ▸ List.mem_map.2 ⟨p, hp, rfl⟩
        obtain ⟨e, he, hee⟩ := List.mem_map.1 hm
        injection hee with q1 q2
        exact h2 e he (by rw [q1, hk'])
    rw [this]; rfl
  | some ju =>
    obtain ⟨j, u⟩ := ju
    obtain ⟨e, he, hk, hu⟩ := h2
    have hj := congrArg (fun l => l[j]?) h
    simp only [List.getElem?_map, he, Option.map_some] at hj
    cases hm : m[j]? with
    | none => rw [hm] at hj; cases hj
    | some p =>
      rw [hm] at hj
      simp only [Option.map_some, Option.some.injEq, Prod.mk.injEq] at hj
      have hpk : p.1 = k := ((Value.int.injEq _ _ _ _).mp (hk.symm.trans hj.1)).2.symm
      have hf : m.find? (fun p => p.1 == k) = some p := by
        cases hf : m.find? (fun p => p.1 == k) with
        | none => exact absurd (beq_iff_eq.2 hpk) (List.find?_eq_none.1 hf p (List.mem_of_getElem? hm))
        | some q =>
          have hq : q.1 = k := by simpa using List.find?_some hf
          obtain ⟨i, hi⟩ := List.mem_iff_getElem?.1 (List.mem_of_find?_eq_some hf)
          have e1 : (m.map (·.1))[i]? = some k := by rw [List.getElem?_map, hi]; simp [hq]
          have e2 : (m.map (·.1))[j]? = some k := by rw [List.getElem?_map, hm]; simp [hpk]
          have hlt : i < (m.map (·.1)).length := (List.getElem?_eq_some_iff.1 e1).1
          have : i = j := (List.getElem?_inj hlt hd).1 (e1.trans e2.symm)
          subst this
          rw [hi] at hm
          exact hm
      unfold lookP
      rw [hf]
      simp only [Option.map_some]
      rw [← hu, hj.2]
theorem MapP.look {w : World} {M : Nat} {m : List (Int × Nat)} (h : MapP w M m) (hd : (m.map (·.1)).Nodup) (k : Int) :
    (Instr.lookup 127 (.map (some M)) (.int .i64 k) false).run Tryz.prog w = .ok (.pointer (lookP m k)) w := by
  obtain ⟨es, cl, h1, h2⟩ := h
  obtain ⟨r, h3, h4⟩ := find_key (w := w) h2 hd k
  have hck := Ex.checkKey_run (P := Tryz.prog) (w := w) kd3 es.isEmpty (.int .i64 k)
  have hz : (zeroValue 99).run Tryz.prog w = .ok (.pointer none) w := by kernel_rfl
  simp only [Instr.lookup, Sem.run_bind, run_underlying Tryz.underlying127, Result.andThen_ok, Ex.run_getMap h1, Sem.run_pure, hck, h3]
  cases r with
  | none =>
    cases hl : lookP m k with
    | none => simp [hz]
    | some a => rw [hl] at h4; cases h4
  | some ju =>
    cases hl : lookP m k with
    | none => rw [hl] at h4; cases h4
    | some a =>
      rw [hl] at h4
      simp only [Option.map_some, Option.some.injEq] at h4
      simp [h4]
theorem MapP.put {w : World} {M : Nat} {m : List (Int × Nat)} (h : MapP w M m) (hd : (m.map (·.1)).Nodup) (k : Int) (b : Nat) (hk : lookP m k = none) :
    ∃ o, (Instr.mapUpdate 127 (.map (some M)) (.int .i64 k) (.pointer (some ⟨b, 0, none⟩))).run Tryz.prog w = .ok () { w with heap := w.heap.setIfInBounds M o } ∧
      MapP { w with heap := w.heap.setIfInBounds M o } M (m ++ [(k, b)]) := by
  obtain ⟨es, cl, h1, h2⟩ := h
  obtain ⟨r, h3, h4⟩ := find_key (w := w) h2 hd k
  have hck := Ex.checkKey_run (P := Tryz.prog) (w := w) kd3 false (.int .i64 k)
  have hlt : M < w.heap.size := by
    rcases Nat.lt_or_ge M w.heap.size with h | h
    · exact h
    · rw [Array.getElem?_eq_none h] at h1; cases h1
  refine ⟨.map (es.push { key := .int .i64 k, val := .pointer (some ⟨b, 0, none⟩), born := cl }) (cl + 1), ?_, _, _, Array.getElem?_setIfInBounds_self_of_lt hlt, ?_⟩
  · cases r with
    | some ju => rw [hk] at h4; cases h4
    | none =>
      simp only [Instr.mapUpdate, Sem.run_bind, run_underlying Tryz.underlying127, Result.andThen_ok, Ex.run_getMap h1, hck, h3, Ex.run_setMap _ h1]
  · simp [h2]
theorem MapP.add {w : World} {M : Nat} {m : List (Int × Nat)} (h : MapP w M m) (hd : (m.map (·.1)).Nodup) (k : Int) (b : Nat) (hk : lookP m k = none) :
    ∃ w', (Instr.mapUpdate 127 (.map (some M)) (.int .i64 k) (.pointer (some ⟨b, 0, none⟩))).run Tryz.prog w = .ok () w' ∧ Kept (fun x => x = M) w w' ∧ MapP w' M (m ++ [(k, b)]) := by
  obtain ⟨o, h1, h2⟩ := h.put hd k b hk
  exact ⟨_, h1, (Kept.refl (fun x => x = M) w).putObj (fun _ => rfl) o, h2⟩
end Go.Proofs.YtbhiaeciiphelaaGreatDoor
namespace Go.Proofs.YtbhiaeciiphelaaGreatDoor
open Go.RowKit
theorem MapP.same {w w' : World} {M : Nat} {m : List (Int × Nat)} (h : MapP w M m) (hs : w'.heap[M]? = w.heap[M]?) : MapP w' M m := by
  obtain ⟨es, cl, h1, h2⟩ := h
  exact ⟨es, cl, hs.trans h1, h2⟩
def ptrOf (m : List (Int × Nat)) : Option Nat → Option Addr
  | none => none
  | some k => (m[k]?).map fun x => ⟨x.2, 0, none⟩
theorem ptrOf_append {m : List (Int × Nat)} {o : Option Nat} (x : Int × Nat) (h : ∀ k, o = some k → k < m.length) : ptrOf (m ++ [x]) o = ptrOf m o := by
  cases o with
  | none => rfl
  | some k => simp only [ptrOf]; rw [List.getElem?_append_left (h k rfl)]
def spanObj (m : List (Int × Nat)) (p : Sp) (v : Value) : Obj := .cells #[.int .i64 p.frm, .int .i64 p.to, .pointer (ptrOf m p.outer), v] 103 (0, 0)
def listObj (ev : Value) (M : Nat) (wv : Value) : Obj := .cells #[ev, .map (some M), wv] 130 (0, 0)
def nums (l : List Nat) : List Value := l.map fun i : Nat => .int .i64 (i : Int)
structure RMem (w W : World) (ev : Value) (L M : Nat) (wv : Value) (m : List (Int × Nat)) (rf : Nat → Value) (sps : List Sp) (win : List Nat) : Prop where
  kept : Keeps w W
  hL : W.heap[L]? = some (listObj ev M wv)
  nL : w.heap.size ≤ L
  nM : w.heap.size ≤ M
  map : MapP W M m
  addrs : m.map (·.1) = sps.map (·.addr)
  news : ∀ x ∈ m, w.heap.size ≤ x.2
  bnd : (m.map (·.2)).Nodup
  sp : ∀ (k : Nat) (p : Sp) (x : Int × Nat), sps[k]? = some p → m[k]? = some x → W.heap[x.2]? = some (spanObj m p (rf k))
  rows : ∀ (k : Nat) (p : Sp), sps[k]? = some p → W.ownsRow w.heap.size 3 1 (rf k) p.reads.length (nums p.reads)
  apart : ∀ (j k b : Nat), j < sps.length → k < sps.length → j ≠ k → (rf j).ownBlock = some b → (rf k).ownBlock ≠ some b
  winr : W.ownsRow w.heap.size 99 1 wv win.length (win.map fun k => .pointer (ptrOf m (some k)))
  out : ∀ (k : Nat) (p : Sp) (j : Nat), sps[k]? = some p → p.outer = some j → j < sps.length
  winlt : ∀ k ∈ win, k < sps.length
section
variable {w W W' : World} {ev : Value} {L M : Nat} {wv : Value} {m : List (Int × Nat)} {rf : Nat → Value} {sps : List Sp} {win : List Nat}
theorem RMem.len (h : RMem w W ev L M wv m rf sps win) : m.length = sps.length := by
  have := congrArg List.length h.addrs
  simpa using this
theorem RMem.at (h : RMem w W ev L M wv m rf sps win) {k : Nat} {p : Sp} (hp : sps[k]? = some p) : ∃ b, m[k]? = some (p.addr, b) ∧ w.heap.size ≤ b ∧ W.heap[b]? = some (spanObj m p (rf k)) := by
  have hk : k < m.length := by rw [h.len]; exact (List.getElem?_eq_some_iff.1 hp).1
  have hm := List.getElem?_eq_getElem hk
  have e := congrArg (fun l => l[k]?) h.addrs
  simp only [List.getElem?_map, hm, hp, Option.map_some, Option.some.injEq] at e
  refine ⟨m[k].2, ?_, h.news _ (List.getElem_mem hk), h.sp k p _ hp hm⟩
  rw [hm, ← e]
theorem RMem.keep {S : Nat → Prop} (h : RMem w W ev L M wv m rf sps win) (hk : Kept S W W') (hS : ∀ b, S b → w.heap.size ≤ b)
    (hL : ¬ S L) (hM : ¬ S M) (hs : ∀ x ∈ m, ¬ S x.2) (hr : ∀ k b, k < sps.length → (rf k).ownBlock = some b → ¬ S b) (hw : ∀ b, wv.ownBlock = some b → ¬ S b) : RMem w W' ev L M wv m rf sps win := by
  obtain ⟨es, cl, hm1, hm2⟩ := h.map
  refine ⟨Kept.trans h.kept hk (fun x hx hx2 => by have := hS x hx2; omega), hk.at h.hL hL, h.nL, h.nM, ⟨es, cl, hk.at hm1 hM, hm2⟩, h.addrs, h.news, h.bnd, ?_, ?_, h.apart, ?_, h.out, h.winlt⟩
  · intro k p x hp hx
    exact hk.at (h.sp k p x hp hx) (hs x (List.mem_of_getElem? hx))
  · intro k p hp
    refine row_same (h.rows k p hp) fun g hg => ?_
    exact hk.block g ((h.rows k p hp).lt g hg).2 (hr k g (List.getElem?_eq_some_iff.1 hp).1 hg)
  · refine row_same h.winr fun g hg => ?_
    exact hk.block g (h.winr.lt g hg).2 (hw g hg)
theorem RMem.keeps (h : RMem w W ev L M wv m rf sps win) (hk : Keeps W W') : RMem w W' ev L M wv m rf sps win :=
  h.keep hk (fun _ x => x.elim) (fun x => x) (fun x => x) (fun _ _ x => x) (fun _ _ _ _ x => x) (fun _ _ x => x)
theorem RMem.neLS (h : RMem w W ev L M wv m rf sps win) {k : Nat} {x : Int × Nat} (hx : m[k]? = some x) : L ≠ x.2 := by
  have hk : k < sps.length := by rw [← h.len]; exact (List.getElem?_eq_some_iff.1 hx).1
  have h2 := h.sp k _ x (List.getElem?_eq_getElem hk) hx
  intro e
  rw [← e, h.hL] at h2
  simp [listObj, spanObj] at h2
theorem RMem.neMS (h : RMem w W ev L M wv m rf sps win) {k : Nat} {x : Int × Nat} (hx : m[k]? = some x) : M ≠ x.2 := by
  have hk : k < sps.length := by rw [← h.len]; exact (List.getElem?_eq_some_iff.1 hx).1
  have h2 := h.sp k _ x (List.getElem?_eq_getElem hk) hx
  obtain ⟨es, cl, hm, _⟩ := h.map
  intro e
  rw [← e, hm] at h2
  simp [spanObj] at h2
theorem RMem.neLM (h : RMem w W ev L M wv m rf sps win) : L ≠ M := by
  obtain ⟨es, cl, hm, _⟩ := h.map
  intro e
  rw [← e, h.hL] at hm
  simp [listObj] at hm
theorem RMem.neRow (h : RMem w W ev L M wv m rf sps win) {k b : Nat} (hk : k < sps.length) (hb : (rf k).ownBlock = some b) : b ≠ L ∧ b ≠ M ∧ (∀ x ∈ m, b ≠ x.2) ∧ wv.ownBlock ≠ some b := by
  obtain ⟨cur, hc⟩ := row_block (h.rows k _ (List.getElem?_eq_getElem hk)) hb
  obtain ⟨es, cl, hm, _⟩ := h.map
  refine ⟨fun e => ?_, fun e => ?_, fun x hx e => ?_, fun e => ?_⟩
  · rw [e, h.hL] at hc; simp [listObj] at hc
  · rw [e, hm] at hc; simp at hc
  · obtain ⟨j, hj⟩ := List.mem_iff_getElem?.1 hx
    have hjl : j < sps.length := by rw [← h.len]; exact (List.getElem?_eq_some_iff.1 hj).1
    rw [e, h.sp j _ x (List.getElem?_eq_getElem hjl) hj] at hc; simp [spanObj] at hc
  · obtain ⟨cur', hc'⟩ := row_block h.winr e
    rw [hc] at hc'; simp at hc'
theorem RMem.neWin (h : RMem w W ev L M wv m rf sps win) {b : Nat} (hb : wv.ownBlock = some b) : b ≠ L ∧ b ≠ M ∧ (∀ x ∈ m, b ≠ x.2) ∧ ∀ k, k < sps.length → (rf k).ownBlock ≠ some b := by
  obtain ⟨cur, hc⟩ := row_block h.winr hb
  obtain ⟨es, cl, hm, _⟩ := h.map
  refine ⟨fun e => ?_, fun e => ?_, fun x hx e => ?_, fun k hk e => (h.neRow hk e).2.2.2 hb⟩
  · rw [e, h.hL] at hc; simp [listObj] at hc
  · rw [e, hm] at hc; simp at hc
  · obtain ⟨j, hj⟩ := List.mem_iff_getElem?.1 hx
    have hjl : j < sps.length := by rw [← h.len]; exact (List.getElem?_eq_some_iff.1 hj).1
    rw [e, h.sp j _ x (List.getElem?_eq_getElem hjl) hj] at hc; simp [spanObj] at hc
theorem RMem.uniq (h : RMem w W ev L M wv m rf sps win) {j k : Nat} {x y : Int × Nat} (hx : m[j]? = some x) (hy : m[k]? = some y) (e : x.2 = y.2) : j = k := by
  have e1 : (m.map (·.2))[j]? = some x.2 := by rw [List.getElem?_map, hx]; rfl
  have e2 : (m.map (·.2))[k]? = some x.2 := by rw [List.getElem?_map, hy, e]; rfl
  exact (List.getElem?_inj (List.getElem?_eq_some_iff.1 e1).1 h.bnd).1 (e1.trans e2.symm)
theorem RMem.start (hk : Keeps w W) (hL : W.heap[L]? = some (listObj ev M (.slice none 0 0))) (nL : w.heap.size ≤ L) (nM : w.heap.size ≤ M) (hm : MapP W M []) : RMem w W ev L M (.slice none 0 0) [] rf [] [] :=
  ⟨hk, hL, nL, nM, hm, rfl, fun x hx => (List.not_mem_nil hx).elim, List.nodup_nil, fun k p x h => by simp at h, fun k p h => by simp at h, fun j k b hj => by simp at hj, World.ownsRow_nil _ _ _ _, fun k p j h => by simp at h, fun k h => (List.not_mem_nil h).elim⟩
theorem RMem.make (h : RMem w W ev L M wv m rf sps win) {top : Option Nat} (htop : ∀ k, top = some k → k < sps.length) {nb i : Nat} {a : Int} (hnb : W.heap.size ≤ nb)
    (hk : Kept (fun b => b = M) W W') (hs : W'.heap[nb]? = some (spanObj m ⟨i, 0, top, a, []⟩ (.slice none 0 0))) (hm : MapP W' M (m ++ [(a, nb)])) :
    RMem w W' ev L M wv (m ++ [(a, nb)]) (fun k => if k = sps.length then .slice none 0 0 else rf k) (sps ++ [⟨i, 0, top, a, []⟩]) win := by
  have hlen := h.len
  have hws := h.kept.size
  have hsplit : ∀ (k : Nat) (p : Sp), (sps ++ [⟨i, 0, top, a, []⟩])[k]? = some p → (k < sps.length ∧ sps[k]? = some p) ∨ (k = sps.length ∧ p = ⟨i, 0, top, a, []⟩) := by
    intro k p hp
    rcases Nat.lt_trichotomy k sps.length with hk | hk | hk
    · rw [List.getElem?_append_left hk] at hp; exact .inl ⟨hk, hp⟩
    · subst hk; simp at hp; exact .inr ⟨rfl, hp.symm⟩
    · rw [List.getElem?_append_right (by omega), List.getElem?_eq_none (by simp; omega)] at hp; cases hp
  have hout : ∀ (k : Nat) (p : Sp), sps[k]? = some p → ptrOf (m ++ [(a, nb)]) p.outer = ptrOf m p.outer := fun k p hp => ptrOf_append _ (fun j hj => by rw [hlen]; exact h.out k p j hp hj)
  have hblk : ∀ x ∈ m, x.2 < W.heap.size := by
    intro x hx
    obtain ⟨j, hj⟩ := List.mem_iff_getElem?.1 hx
    have hjl : j < sps.length := by rw [← h.len]; exact (List.getElem?_eq_some_iff.1 hj).1
    exact heap_lt (h.sp j _ x (List.getElem?_eq_getElem hjl) hj)
  refine ⟨Kept.trans h.kept hk (fun x hx hx2 => by have := h.nM; omega), hk.at h.hL h.neLM, h.nL, h.nM, hm, by simp [h.addrs], ?_, ?_, ?_, ?_, ?_, ?_, ?_, ?_⟩
  · intro x hx
    rcases List.mem_append.1 hx with hx | hx
    · exact h.news x hx
    · rw [List.mem_singleton] at hx; subst hx; exact Nat.le_trans hws hnb
  · rw [List.map_append, List.nodup_append]
    refine ⟨h.bnd, by simp, ?_⟩
    intro b hb c hc e
    simp only [List.map_cons, List.map_nil, List.mem_singleton] at hc
    subst hc; subst e
    obtain ⟨x, hx, e⟩ := List.mem_map.1 hb
    have := hblk x hx
    omega
  · intro k p x hp hx
    rcases hsplit k p hp with ⟨hkl, hp⟩ | ⟨rfl, rfl⟩
    · rw [List.getElem?_append_left (by rw [hlen]; exact hkl)] at hx
      rw [if_neg (by omega)]
      have := hk.at (h.sp k p x hp hx) (fun e => h.neMS hx e.symm)
      rw [this]
      simp only [spanObj, hout k p hp]
    · rw [← hlen] at hx
      simp at hx
      subst hx
      rw [if_pos rfl]
      rw [hs]
      simp only [spanObj]
      rw [ptrOf_append _ (fun k hk => by rw [hlen]; exact htop k hk)]
  · intro k p hp
    rcases hsplit k p hp with ⟨hkl, hp⟩ | ⟨rfl, rfl⟩
    · rw [if_neg (by omega)]
      refine row_same (h.rows k p hp) fun g hg => ?_
      exact hk.block g ((h.rows k p hp).lt g hg).2 (h.neRow hkl hg).2.1
    · rw [if_pos rfl]; exact World.ownsRow_nil _ _ _ _
  · intro j k b hj hk' hjk hb
    simp only [List.length_append, List.length_cons, List.length_nil] at hj hk'
    by_cases hj' : j = sps.length
    · rw [if_pos hj'] at hb; simp [Value.ownBlock] at hb
    · rw [if_neg hj'] at hb
      by_cases hk'' : k = sps.length
      · rw [if_pos hk'']; simp [Value.ownBlock]
      · rw [if_neg hk'']; exact h.apart j k b (by omega) (by omega) hjk hb
  · have hw := row_same h.winr (w' := W') fun g hg => hk.block g (h.winr.lt g hg).2 (h.neWin hg).2.1
    have : (win.map fun k => Value.pointer (ptrOf (m ++ [(a, nb)]) (some k))) = win.map fun k => Value.pointer (ptrOf m (some k)) := by
      refine List.map_congr_left fun k hk => ?_
      rw [ptrOf_append _ (fun j hj => by injection hj with hj; subst hj; rw [hlen]; exact h.winlt k hk)]
    rw [this]
    exact hw
  · intro k p j hp hj
    simp only [List.length_append, List.length_cons, List.length_nil]
    rcases hsplit k p hp with ⟨hkl, hp⟩ | ⟨rfl, rfl⟩
    · have := h.out k p j hp hj; omega
    · have := htop j hj; omega
  · intro k hk
    have := h.winlt k hk
    simp; omega
theorem RMem.write (h : RMem w W ev L M wv m rf sps win) {k : Nat} {p q : Sp} {x : Int × Nat} {v : Value} (hp : sps[k]? = some p) (hx : m[k]? = some x) (hqa : q.addr = p.addr) (hqo : q.outer = p.outer)
    (hk : Kept (fun b => b = x.2 ∨ (rf k).ownBlock = some b) W W') (hs : W'.heap[x.2]? = some (spanObj m q v)) (hr : W'.ownsRow w.heap.size 3 1 v q.reads.length (nums q.reads))
    (hv : ∀ g, v.ownBlock = some g → (rf k).ownBlock = some g ∨ W.heap.size ≤ g) : RMem w W' ev L M wv m (fun j => if j = k then v else rf j) (sps.set k q) win := by
  have hkl := (List.getElem?_eq_some_iff.1 hp).1
  have hxm := List.mem_of_getElem? hx
  have hx0 := h.news x hxm
  obtain ⟨es, cl, hm1, hm2⟩ := h.map
  have hrk : ∀ g, (rf k).ownBlock = some g → w.heap.size ≤ g := fun g hg => ((h.rows k p hp).lt g hg).1
  refine ⟨Kept.trans h.kept hk ?_, hk.at h.hL ?_, h.nL, h.nM, ⟨es, cl, hk.at hm1 ?_, hm2⟩, ?_, h.news, h.bnd, ?_, ?_, ?_, ?_, ?_, ?_⟩
  · rintro y hy (rfl | hy2)
    · omega
    · have := hrk y hy2; omega
  · rintro (e | e)
    · exact h.neLS hx e
    · exact (h.neRow hkl e).1 rfl
  · rintro (e | e)
    · exact h.neMS hx e
    · exact (h.neRow hkl e).2.1 rfl
  · rw [map_set_same (·.addr) hp hqa]; exact h.addrs
  · intro j r y hr hy
    rcases set_at hp hr with ⟨rfl, rfl⟩ | ⟨hj, hr⟩
    · rw [hx] at hy; injection hy with hy; subst hy
      rw [if_pos rfl]; exact hs
    · rw [if_neg hj]
      refine hk.at (h.sp j r y hr hy) ?_
      rintro (e | e)
      · exact hj (h.uniq hy hx e)
      · exact (h.neRow hkl e).2.2.1 y (List.mem_of_getElem? hy) rfl
  · intro j r hr'
    rcases set_at hp hr' with ⟨rfl, rfl⟩ | ⟨hj, hr'⟩
    · rw [if_pos rfl]; exact hr
    · rw [if_neg hj]
      have hjl := (List.getElem?_eq_some_iff.1 hr').1
      refine row_same (h.rows j r hr') fun g hg => ?_
      refine hk.block g ((h.rows j r hr').lt g hg).2 ?_
      rintro (e | e)
      · exact (h.neRow hjl hg).2.2.1 x hxm e
      · exact h.apart j k g hjl hkl hj hg e
  · intro i j b hi hj hij hb
    simp only [List.length_set] at hi hj
    by_cases hik : i = k
    · subst hik
      rw [if_pos rfl] at hb
      rw [if_neg (fun e => hij e.symm)]
      rcases hv b hb with hb | hb
      · exact h.apart i j b hi hj hij hb
      · intro e
        have := ((h.rows j _ (List.getElem?_eq_getElem hj)).lt b e).2
        omega
    · rw [if_neg hik] at hb
      by_cases hjk : j = k
      · subst hjk
        rw [if_pos rfl]
        intro e
        rcases hv b e with e | e
        · exact h.apart i j b hi hj hij hb e
        · have := ((h.rows i _ (List.getElem?_eq_getElem hi)).lt b hb).2
          omega
      · rw [if_neg hjk]; exact h.apart i j b hi hj hij hb
  · refine row_same h.winr fun g hg => hk.block g (h.winr.lt g hg).2 ?_
    rintro (e | e)
    · exact (h.neWin hg).2.2.1 x hxm e
    · exact (h.neWin hg).2.2.2 k hkl e
  · intro j r o hr ho
    rw [List.length_set]
    rcases set_at hp hr with ⟨rfl, rfl⟩ | ⟨hj, hr⟩
    · exact h.out _ p o hp (hqo ▸ ho)
    · exact h.out j r o hr ho
  · intro j hj
    rw [List.length_set]; exact h.winlt j hj
theorem RMem.more (h : RMem w W ev L M wv m rf sps win) {k : Nat} {v : Value} (hkl : k < sps.length) (hk : Kept (fun b => b = L ∨ wv.ownBlock = some b) W W') (hL : W'.heap[L]? = some (listObj ev M v))
    (hr : W'.ownsRow w.heap.size 99 1 v (win.length + 1) ((win.map fun k => .pointer (ptrOf m (some k))) ++ [.pointer (ptrOf m (some k))])) : RMem w W' ev L M v m rf sps (win ++ [k]) := by
  obtain ⟨es, cl, hm1, hm2⟩ := h.map
  refine ⟨Kept.trans h.kept hk ?_, hL, h.nL, h.nM, ⟨es, cl, hk.at hm1 ?_, hm2⟩, h.addrs, h.news, h.bnd, ?_, ?_, h.apart, ?_, h.out, ?_⟩
  · rintro y hy (rfl | hy2)
    · have := h.nL; omega
    · have := (h.winr.lt y hy2).1; omega
  · rintro (e | e)
    · exact h.neLM e.symm
    · exact (h.neWin e).2.1 rfl
  · intro j r y hr hy
    refine hk.at (h.sp j r y hr hy) ?_
    rintro (e | e)
    · exact h.neLS hy e.symm
    · exact (h.neWin e).2.2.1 y (List.mem_of_getElem? hy) rfl
  · intro j r hr'
    refine row_same (h.rows j r hr') fun g hg => hk.block g ((h.rows j r hr').lt g hg).2 ?_
    have hjl := (List.getElem?_eq_some_iff.1 hr').1
    rintro (e | e)
    · exact (h.neRow hjl hg).1 e
    · exact (h.neRow hjl hg).2.2.2 e
  · simpa using hr
  · intro j hj
    rcases List.mem_append.1 hj with hj | hj
    · exact h.winlt j hj
    · rw [List.mem_singleton] at hj; subst hj; exact hkl
theorem RMem.gathered (h : RMem w W ev L M wv m rf sps win) {k : Nat} {v : Value} {o : Obj} {W5 : World} (hkl : k < sps.length) (hg : (W.alloc o).grownBy W5 wv.ownBlock)
    (hr : W5.ownsRow w.heap.size 99 1 v (win.length + 1) ((win.map fun k => .pointer (ptrOf m (some k))) ++ [.pointer (ptrOf m (some k))])) :
    RMem w (W5.setCell ⟨L, 2, none⟩ v) ev L M v m rf sps (win ++ [k]) ∧ W5.heap[L]? = some (listObj ev M wv) ∧
      (∀ (b : Nat) (c : Array Value), W.heap[b]? = some (.cells c 98 (0, 0)) → (W5.setCell ⟨L, 2, none⟩ v).heap[b]? = some (.cells c 98 (0, 0))) := by
  have hk5 : Kept (fun b => wv.ownBlock = some b) W W5 := ((Kept.refl _ W).alloc o).grown hg (fun b hb _ => hb)
  have hL5 : W5.heap[L]? = some (listObj ev M wv) := hk5.at h.hL (fun e => (h.neWin e).1 rfl)
  have hk6 : Kept (fun b => b = L ∨ wv.ownBlock = some b) W (W5.setCell ⟨L, 2, none⟩ v) := (hk5.mono (fun x _ hx => .inr hx)).setCell (p := ⟨L, 2, none⟩) (fun _ => .inl rfl) _
  refine ⟨h.more hkl hk6 ?_ ?_, hL5, fun b c hb => ?_⟩
  · unfold listObj at hL5
    rw [heap_set_same hL5]; rfl
  · refine row_same hr fun g hg' => ?_
    obtain ⟨cur, hc⟩ := row_block hr hg'
    exact heap_set_other _ (fun e => by rw [e, hL5] at hc; simp [listObj] at hc)
  · refine hk6.at hb ?_
    rintro (e | e)
    · rw [e, h.hL] at hb; simp [listObj] at hb
    · obtain ⟨cur, hc⟩ := row_block h.winr e
      rw [hc] at hb; simp at hb
theorem RMem.noted (h : RMem w W ev L M wv m rf sps win) {k i : Nat} {p : Sp} {x : Int × Nat} {v : Value} {o : Obj} {W5 : World} (hp : sps[k]? = some p) (hx : m[k]? = some x) (hg : (W.alloc o).grownBy W5 (rf k).ownBlock)
    (hr : W5.ownsRow w.heap.size 3 1 v (p.reads.length + 1) (nums p.reads ++ [.int .i64 i])) (hat : v.ownBlock = (rf k).ownBlock ∨ v.ownBlock = some (W.alloc o).heap.size) :
    RMem w (W5.setCell ⟨x.2, 3, none⟩ v) ev L M wv m (fun j => if j = k then v else rf j) (sps.set k { p with reads := p.reads ++ [i] }) win ∧ W5.heap[x.2]? = some (spanObj m p (rf k)) ∧
      (∀ (b : Nat) (c : Array Value), W.heap[b]? = some (.cells c 98 (0, 0)) → (W5.setCell ⟨x.2, 3, none⟩ v).heap[b]? = some (.cells c 98 (0, 0))) := by
  have hkl := (List.getElem?_eq_some_iff.1 hp).1
  have hk5 : Kept (fun b => (rf k).ownBlock = some b) W W5 := ((Kept.refl _ W).alloc o).grown hg (fun b hb _ => hb)
  have hS5 : W5.heap[x.2]? = some (spanObj m p (rf k)) := hk5.at (h.sp k p x hp hx) (fun e => (h.neRow hkl e).2.2.1 x (List.mem_of_getElem? hx) rfl)
  have hk6 : Kept (fun b => b = x.2 ∨ (rf k).ownBlock = some b) W (W5.setCell ⟨x.2, 3, none⟩ v) := (hk5.mono (fun x _ hx => .inr hx)).setCell (p := ⟨x.2, 3, none⟩) (fun _ => .inl rfl) _
  refine ⟨h.write hp hx rfl rfl hk6 ?_ ?_ ?_, hS5, fun b c hb => ?_⟩
  · unfold spanObj at hS5
    rw [heap_set_same hS5]; rfl
  · have e1 : (p.reads ++ [i]).length = p.reads.length + 1 := by simp
    have e2 : nums (p.reads ++ [i]) = nums p.reads ++ [.int .i64 i] := by simp [nums]
    show World.ownsRow _ _ _ _ _ (p.reads ++ [i]).length (nums (p.reads ++ [i]))
    rw [e1, e2]
    refine row_same hr fun g hg' => ?_
    obtain ⟨cur, hc⟩ := row_block hr hg'
    exact heap_set_other _ (fun e => by rw [e, hS5] at hc; simp [spanObj] at hc)
  · intro g hg'
    rcases hat with e | e
    · exact .inl (e ▸ hg')
    · rw [e] at hg'
      injection hg' with hg'
      right
      rw [← hg', World.size_alloc]
      exact Nat.le_succ _
  · refine hk6.at hb ?_
    rintro (e | e)
    · rw [e, h.sp k p x hp hx] at hb; simp [spanObj] at hb
    · obtain ⟨cur, hc⟩ := row_block (h.rows k p hp) e
      rw [hc] at hb; simp at hb
theorem RMem.closed (h : RMem w W ev L M wv m rf sps win) {k i : Nat} {p : Sp} {x : Int × Nat} (hp : sps[k]? = some p) (hx : m[k]? = some x) :
    RMem w (W.setCell ⟨x.2, 1, none⟩ (.int .i64 i)) ev L M wv m (fun j => if j = k then rf k else rf j) (sps.set k { p with to := i }) win := by
  have hkl := (List.getElem?_eq_some_iff.1 hp).1
  have hS := h.sp k p x hp hx
  refine h.write hp hx rfl rfl ((Kept.refl _ W).setCell (p := ⟨x.2, 1, none⟩) (fun _ => .inl rfl) _) ?_ ?_ (fun g hg => .inl hg)
  · unfold spanObj at hS
    rw [heap_set_same hS]; rfl
  · refine row_same (h.rows k p hp) fun g hg => heap_set_other _ ?_
    exact (h.neRow hkl hg).2.2.1 x (List.mem_of_getElem? hx)
end
end Go.Proofs.YtbhiaeciiphelaaGreatDoor
namespace Go.Proofs.YtbhiaeciiphelaaGreatDoor
open Go.RowKit
structure EvsAt (w : World) (a : Option Addr) (evs : List Ev) : Prop where
  ev : ∀ (i : Nat) (e : Ev), evs[i]? = some e → ∃ eb eo, a = some ⟨eb, eo, none⟩ ∧ eb < w.heap.size ∧ ∀ (j : Nat) (v : Value), e.cells[j]? = some v → w.cell? ⟨eb, eo + i * 8 + j, none⟩ = some v
theorem EvsAt.keeps {w w' : World} {a : Option Addr} {evs : List Ev} (h : EvsAt w a evs) (hk : Keeps w w') : EvsAt w' a evs :=
  ⟨fun i e he => by
    obtain ⟨eb, eo, h1, h2, h3⟩ := h.ev i e he
    refine ⟨eb, eo, h1, Nat.lt_of_lt_of_le h2 hk.size, fun j v hv => ?_⟩
    rw [World.cell?_of_block (w' := w') (w := w) (hk.block eb h2 (fun x => x))]
    exact h3 j v hv⟩
theorem EvsAt.cells {w : World} {a : Option Addr} {evs : List Ev} (h : EvsAt w a evs) {i : Nat} {e : Ev} (he : evs[i]? = some e) : ∃ eb eo, a = some ⟨eb, eo, none⟩ ∧ eb < w.heap.size ∧
    w.cell? ⟨eb, eo + i * 8, none⟩ = some (.int .i64 e.kind) ∧ w.cell? ⟨eb, eo + i * 8 + 1, none⟩ = some (.int .i64 e.site) ∧ w.cell? ⟨eb, eo + i * 8 + 2, none⟩ = some (.int .i64 e.addr) ∧
    w.cell? ⟨eb, eo + i * 8 + 3, none⟩ = some (.slice e.args e.argn e.argc) ∧ w.cell? ⟨eb, eo + i * 8 + 4, none⟩ = some (.int .i64 e.vk) ∧ w.cell? ⟨eb, eo + i * 8 + 5, none⟩ = some (.int .i64 e.vn) ∧
    w.cell? ⟨eb, eo + i * 8 + 6, none⟩ = some (.string e.vs) ∧ w.cell? ⟨eb, eo + i * 8 + 7, none⟩ = some (.slice e.va e.van e.vac) := by
  obtain ⟨eb, eo, h1, h2, h3⟩ := h.ev i e he
  exact ⟨eb, eo, h1, h2, h3 0 _ rfl, h3 1 _ rfl, h3 2 _ rfl, h3 3 _ rfl, h3 4 _ rfl, h3 5 _ rfl, h3 6 _ rfl, h3 7 _ rfl⟩
theorem read_stop {evs : List Ev} {i : Nat} {e : Ev} {s : St} (hr : St.start.run 0 (evs.take i) = some s) (he : evs[i]? = some e) (hs : s.step i e = none) : readOf evs = none := by
  have h1 := (St.run_take _ _ _ _ _ hr he).trans hs
  have h2 := St.run_append St.start 0 (evs.take (i + 1)) (evs.drop (i + 1))
  rw [List.take_append_drop, h1] at h2
  unfold readOf
  rw [h2]
  rfl
theorem step_form {s : St} {i : Nat} {e : Ev} (h : e.form = false) : s.step i e = none := by unfold St.step; rw [if_pos h]
theorem step_top {s : St} {i : Nat} {e : Ev} (h : e.form = true) (hk : ¬ e.kind = 1) (ht : s.top = none) : s.step i e = none := by
  unfold St.step; rw [if_neg (by simp [h]), if_neg hk, ht]
theorem step_make {s : St} {i : Nat} {e : Ev} (h : e.form = true) (hk : e.kind = 1) (ha : s.sps.any (fun p => p.addr == e.addr) = false) : s.step i e = some ⟨s.sps ++ [⟨i, 0, s.top, e.addr, []⟩], some s.sps.length, s.nodes + 1, s.within ++ [s.sps.length]⟩ := by
  unfold St.step; rw [if_neg (by simp [h]), if_pos hk, ha]; rfl
theorem step_made {s : St} {i : Nat} {e : Ev} (h : e.form = true) (hk : e.kind = 1) (ha : s.sps.any (fun p => p.addr == e.addr) = true) : s.step i e = none := by
  unfold St.step; rw [if_neg (by simp [h]), if_pos hk, ha]; rfl
theorem step_read {s : St} {i k : Nat} {e : Ev} {p : Sp} (h : e.form = true) (hk : e.kind = 2) (ht : s.top = some k) (hp : s.sps[k]? = some p) : s.step i e = some ⟨s.sps.set k { p with reads := p.reads ++ [i] }, some k, s.nodes + 1, s.within ++ [k]⟩ := by
  unfold St.step; rw [if_neg (by simp [h]), if_neg (by omega), ht]; simp only [hp]; rw [if_pos hk]
theorem step_write {s : St} {i k : Nat} {e : Ev} {p : Sp} (h : e.form = true) (hk : ¬ e.kind = 1) (hk2 : ¬ e.kind = 2) (ht : s.top = some k) (hp : s.sps[k]? = some p) (ha : p.addr = e.addr) : s.step i e = some ⟨s.sps.set k { p with to := i }, p.outer, s.nodes, s.within ++ [k]⟩ := by
  unfold St.step; rw [if_neg (by simp [h]), if_neg hk, ht]; simp only [hp]; rw [if_neg hk2, if_pos ha]
theorem step_wrong {s : St} {i k : Nat} {e : Ev} {p : Sp} (h : e.form = true) (hk : ¬ e.kind = 1) (hk2 : ¬ e.kind = 2) (ht : s.top = some k) (hp : s.sps[k]? = some p) (ha : ¬ p.addr = e.addr) : s.step i e = none := by
  unfold St.step; rw [if_neg (by simp [h]), if_neg hk, ht]; simp only [hp]; rw [if_neg hk2, if_neg ha]
theorem form_kind {e : Ev} (h : e.form = true) (hk : ¬ e.kind = 1) (hk2 : ¬ e.kind = 2) : e.kind = 3 := by
  unfold Ev.form at h
  apply Classical.byContradiction
  intro k3
  simp [hk, hk2, k3] at h
theorem look_none {m : List (Int × Nat)} {sps : List Sp} (ha : m.map (·.1) = sps.map (·.addr)) {a : Int} (h : sps.any (fun p => p.addr == a) = false) : lookP m a = none := by
  unfold lookP
  rw [List.find?_eq_none.2]
  · rfl
  · intro x hx hxa
    have : x.1 ∈ sps.map (·.addr) := ha ▸ List.mem_map.2 ⟨x, hx, rfl⟩
    obtain ⟨p, hp, hpa⟩ := List.mem_map.1 this
    have h2 : sps.any (fun p => p.addr == a) = true := List.any_eq_true.2 ⟨p, hp, by simpa [hpa] using hxa⟩
    rw [h] at h2; cases h2
theorem look_some {m : List (Int × Nat)} {sps : List Sp} (ha : m.map (·.1) = sps.map (·.addr)) {a : Int} (h : sps.any (fun p => p.addr == a) = true) : ∃ (k : Nat) (p : Sp) (b : Nat), sps[k]? = some p ∧ p.addr = a ∧ m[k]? = some (a, b) ∧ lookP m a = some ⟨b, 0, none⟩ := by
  unfold lookP
  cases hf : m.find? (fun p => p.1 == a) with
  | none =>
    obtain ⟨p, hp, hpa⟩ := List.any_eq_true.1 h
    have : p.addr ∈ m.map (·.1) := ha ▸ List.mem_map.2 ⟨p, hp, rfl⟩
    obtain ⟨x, hx, hxa⟩ := List.mem_map.1 this
    exact absurd (by simpa [hxa] using hpa) (List.find?_eq_none.1 hf x hx)
  | some x =>
    have hx1 : x.1 = a := by simpa using List.find?_some hf
    obtain ⟨k, hk⟩ := List.mem_iff_getElem?.1 (List.mem_of_find?_eq_some hf)
    have e := congrArg (fun l => l[k]?) ha
    simp only [List.getElem?_map, hk, Option.map_some] at e
    cases hp : sps[k]? with
    | none => rw [hp] at e; cases e
    | some p =>
      rw [hp] at e
      simp only [Option.map_some, Option.some.injEq] at e
      exact ⟨k, p, x.2, hp, e ▸ hx1, by rw [hk, ← hx1], by simp⟩
def ReadPost (w : World) (ev : Value) (evs : List Ev) (x : Ending) (w' : World) : Prop :=
  Keeps w w' ∧ match readOf evs with
    | none => x = .returned (.pointer none)
    | some s => ∃ L M wv m rf, x = .returned (.pointer (some ⟨L, 0, none⟩)) ∧ RMem w w' ev L M wv m rf s.sps s.within
theorem ReadPost.no {w w' : World} {ev : Value} {evs : List Ev} (hk : Keeps w w') (h : readOf evs = none) : ReadPost w ev evs (.returned (.pointer none)) w' := ⟨hk, by rw [h]⟩
theorem row_succ {W : World} {base : Nat} {e : TypeId} {size : Nat} {v : Value} {k : Nat} {xs : List Value} (h : W.ownsRow base e size v (k + 1) xs) : ∃ g cap, v = .slice (some ⟨g, 0, none⟩) (k + 1) cap := by
  rcases h.2 with ⟨_, h⟩ | ⟨g, cap, cur, hv, _⟩
  · omega
  · exact ⟨g, cap, hv⟩
theorem info3 : (Tryz.prog.info? 3).map (fun i => (i.zero, i.size, i.bytes)) = some (some (.int .i64 0), 1, 8) := by kernel_rfl
theorem under35 : Tryz.prog.underlying 35 = some (.slice 3) := by kernel_rfl
theorem info99 : (Tryz.prog.info? 99).map (fun i => (i.zero, i.size, i.bytes)) = some (some (.pointer none), 1, 8) := by kernel_rfl
theorem under128 : Tryz.prog.underlying 128 = some (.slice 99) := by kernel_rfl
set_option maxHeartbeats 4000000 in
set_option maxRecDepth 100000 in
theorem read_of (w : World) (a : Option Addr) (n c : Nat) (evs : List Ev) (hev : EvsAt w a evs) (hn : n = evs.length) (hlen : n ≤ 2000000000000) :
    Calls Tryz.prog 47 #[.slice a n c] w (ReadPost w (.slice a n c) evs) := by
  have HE := Lib.hid hev
  have HN := Lib.hid hn
  have Hf := Lib.hid isForm_of
  have hmm := @run_makeMap Tryz.prog
  obtain ⟨i3, hi3, hz3, hs3, hb3⟩ := info_parts info3
  obtain ⟨i9, hi9, hz9, hs9, hb9⟩ := info_parts info99
  clear hev hn
  go_enter Tryz.func47, Tryz.ntmps47
  go_wp2
  clear hmm
  go_loopw [4, 5, 14] (fun o nd q wr => ∃ (i : Nat) (s : St) (wv : Value) (m : List (Int × Nat)) (rf : Nat → Value), i ≤ n ∧ q = .int .i64 i ∧ o = .pointer (ptrOf m s.top) ∧ nd = .int .i64 s.nodes ∧
    St.start.run 0 (evs.take i) = some s ∧ RMem w wr (.slice a n c) (w.heap.size + 1) w.heap.size wv m rf s.sps s.within) (fun _ _ q _ => n - (intOf q).toNat)
  case atStart =>
    have hsz : (w.alloc (.map #[] 0)).heap.size = w.heap.size + 1 := World.size_alloc _ _
    refine ⟨0, St.start, .slice none 0 0, [], fun _ => .slice none 0 0, Nat.zero_le _, rfl, rfl, rfl, rfl, RMem.start (((Kept.refl _ w).alloc _).alloc _) ?_ (Nat.le_succ _) (Nat.le_refl _) ⟨#[], 0, heap_alloc_old _ (heap_alloc_at w _), rfl⟩⟩
    rw [← hsz]; exact heap_alloc_at _ _
  case round =>
    obtain ⟨i, s, wv, m, rf, hi, rfl, rfl, rfl, hrun, hmem⟩ := hrel
    have HM := Lib.hid hmem
    have HR := Lib.hid hrun
    clear hmem hrun
    by_cases hin : i < n
    · obtain ⟨e, he⟩ : ∃ e, evs[i]? = some e := ⟨evs[i]'(by rw [← HN.out]; omega), List.getElem?_eq_getElem _⟩
      obtain ⟨eb, eo, rfl, hlt, c0, c1, c2, c3, c4, c5, c6, c7⟩ := (HE.out.keeps HM.out.kept).cells he
      have HI := Lib.hid he
      clear he
      have k1 : (i : Int) < n := by omega
      have k2 : (0 : Int) ≤ i := by omega
      have k3 : s.nodes ≤ i := (run_ok i (by rw [← HN.out]; omega) HR.out).1.nodes
      generalize hto : ptrOf m s.top = to
      have HTo := Lib.hid hto
      clear hto
      go_wp2_with fail
      refine (Hf.out e _).mono ?_
      rintro _ w2 ⟨rfl, hk2⟩
      have hM2 := (HM.out.keeps (Keeps.alloc _ _)).keeps hk2
      have hE2 := hk2.at (heap_alloc_at _ _) (fun x => x)
      have d0 := cell_of_block hE2 0
      have d1 := cell_of_block hE2 1
      have d2 := cell_of_block hE2 2
      have d3 := cell_of_block hE2 3
      simp at d0 d1 d2 d3
      generalize wr.heap.size = E at *
      have HM2 := Lib.hid hM2
      have HE2 := Lib.hid hE2
      clear hM2 hE2 hk2 c0 c1 c2 c3 c4 c5 c6 c7 HM
      cases hf : e.form with
      | false =>
        go_wp2
        go_ret
        exact ReadPost.no HM2.out.kept (read_stop HR.out HI.out (step_form hf))
      | true =>
        by_cases hk1 : e.kind = 1
        · rw [hk1] at d0
          have e1 : w2.cell? ⟨w.heap.size + 1, 1, none⟩ = some (.map (some w.heap.size)) := by rw [cell_of_block HM2.out.hL]; rfl
          have hnd : (m.map (·.1)).Nodup := by
            rw [HM2.out.addrs]
            exact (run_ok i (by rw [← HN.out]; omega) HR.out).1.nd
          have hlk : ∀ nq, (Instr.lookup 127 (.map (some w.heap.size)) (.int .i64 e.addr) false).run Tryz.prog (w2.drewN nq) = .ok (.pointer (lookP m e.addr)) (w2.drewN nq) :=
            fun nq => (HM2.out.map.same (w' := w2.drewN nq) rfl).look hnd e.addr
          have HND := Lib.hid hnd
          clear hnd
          cases hany : s.sps.any (fun p => p.addr == e.addr) with
          | true =>
            obtain ⟨k, p, b, _, _, _, hlo⟩ := look_some HM2.out.addrs hany
            rw [hlo] at hlk
            go_wp2_with fail
            go_quiet (fail)
            go_wp2
            go_ret
            exact ReadPost.no (Kept.drewN HM2.out.kept _) (read_stop HR.out HI.out (step_made hf hk1 hany))
          | false =>
            have hlo := look_none HM2.out.addrs hany
            rw [hlo] at hlk
            go_wp2_with fail
            go_quiet (fail)
            go_wp2_with fail
            obtain ⟨W3, hW3⟩ : ∃ W3, W3 = ((w2.drewN nq).alloc (.cells #[.int .i64 i, .int .i64 0, .pointer to, .slice none 0 0] 103)).drew := ⟨_, rfl⟩
            have hK3 : Keeps w2 W3 := by rw [hW3]; exact (((Kept.refl _ w2).drewN nq).alloc _).drew
            have hM3 := HM2.out.keeps hK3
            have hE3 := hK3.at HE2.out (fun x => x)
            have hS3 : W3.heap[w2.heap.size]? = some (.cells #[.int .i64 i, .int .i64 0, .pointer to, .slice none 0 0] 103 (0, 0)) := by rw [hW3]; exact heap_alloc_at (w2.drewN nq) _
            obtain ⟨W4, hput, hK4, hmap⟩ := hM3.map.add HND.out e.addr w2.heap.size hlo
            have e3 : W3.cell? ⟨w.heap.size + 1, 1, none⟩ = some (.map (some w.heap.size)) := by rw [cell_of_block hM3.hL]; rfl
            have f2 : W3.cell? ⟨E, 2, none⟩ = some (.int .i64 e.addr) := by rw [cell_of_block hE3]; rfl
            have htop : ∀ k, s.top = some k → k < s.sps.length := (run_ok i (by rw [← HN.out]; omega) HR.out).1.top
            have hE4 := hK4.at hE3 (fun e => by rw [e] at hE3; obtain ⟨es, cl, q, _⟩ := hM3.map; rw [q] at hE3; cases hE3)
            have hM4 := HM2.out.make (i := i) (a := e.addr) htop (nb := w2.heap.size) (Nat.le_refl _) (Kept.trans (T := fun x => x = w.heap.size) (hK3.mono (fun _ _ x => x.elim)) hK4 (fun _ _ x => x))
              (by rw [hK4.at hS3 (fun e => by rw [e] at hS3; obtain ⟨es, cl, q, _⟩ := hM3.map; rw [q] at hS3; cases hS3)]; simp only [spanObj, HTo.out]; rfl) hmap
            have hlenN := (run_ok i (by rw [← HN.out]; omega) HR.out).1
            have hbnd : s.within.length = i := hlenN.win
            have hnds : s.nodes ≤ i := hlenN.nodes
            have e4 : W4.cell? ⟨w.heap.size + 1, 2, none⟩ = some wv := by rw [cell_of_block hM4.hL]; rfl
            have HM4 := Lib.hid hM4
            have HE4 := Lib.hid hE4
            have HB := Lib.hid hbnd
            have HNd := Lib.hid hnds
            have HPo := Lib.hid (show ptrOf (m ++ [(e.addr, w2.heap.size)]) (some s.sps.length) = some ⟨w2.heap.size, 0, none⟩ by simp [ptrOf, ← HM2.out.len])
            clear hM3 hmap hS3 hE3 hK3 hlk hlo d0 d1 d2 d3 e1 hM4 hE4 hK4 htop hlenN hbnd hnds
            refine wp_region_still_tail 7 (by kernel_rfl) (by kernel_rfl) ?_
            simp only [List.take_succ_cons, List.take_zero, List.drop_succ_cons, List.drop_zero]
            change wpStill _ _ (World.drew _) (fun a' => wpList _ _ _ _ a' (World.drew _)) _ _
            rw [← hW3]
            clear hW3
            repeat still_step
            refine wpStill_nil ?_
            go_wp2_with (at_builtin; (refine wpList_append_own_at _ rfl (.tmp 74) (.tmp 76) 128 rfl w.heap.size 99 i9 (.pointer none) 1 8 under128 hi9 hz9 hs9 hb9 rfl (by decide) wv s.within.length (s.within.map fun k => .pointer (ptrOf (m ++ [(e.addr, w2.heap.size)]) (some k))) rfl (HM4.out.winr.alloc _) ⟨W4.heap.size, 0, none⟩ 1 1 [.pointer (some ⟨w2.heap.size, 0, none⟩)] rfl rfl (cell_one_new _ _ _) (by simp [Value.oneCell']) (by rw [HB.out]; unfold maxLen; omega) (by rw [HB.out]; omega) (by have := HM4.out.kept.size; simp; omega) ?_; intro v5 w5 hown5 hgrow5 hnil5 hat5; obtain ⟨g5, cap5, rfl⟩ := row_succ hown5; obtain ⟨hM6, hL5, hEk⟩ := HM4.out.gathered (k := s.sps.length) (by simp) hgrow5 (by rw [HPo.out]; exact hown5); have hE6 := hEk _ _ HE4.out; have g0 := cell_of_block hE6 0; have g1 := cell_of_block hL5 2; have g2 := free_of_block hL5 2; simp at g0 g1; have HM6 := Lib.hid hM6; clear hM6 hL5 hEk hE6 hown5 hgrow5 hnil5 hat5))
            go_roundw
            case rel => exact ⟨i + 1, _, _, _, _, by omega, by go_num, by rw [HPo.out], by have h1 := HNd.out; go_num, (St.run_take _ _ _ _ _ HR.out HI.out).trans (step_make hf hk1 hany), HM6.out⟩
            case measure => simp [intOf]; omega
        · cases htop : s.top with
          | none =>
            have hto := HTo.out
            rw [htop] at hto
            simp only [ptrOf] at hto
            subst hto
            go_wp2
            go_ret
            exact ReadPost.no HM2.out.kept (read_stop HR.out HI.out (step_top hf hk1 htop))
          | some k =>
            have hok := (run_ok i (by rw [← HN.out]; omega) HR.out).1
            have hkl := hok.top k htop
            obtain ⟨p, hp⟩ : ∃ p, s.sps[k]? = some p := ⟨_, List.getElem?_eq_getElem hkl⟩
            obtain ⟨b, hx, hbn, hb⟩ := HM2.out.at hp
            have hto := HTo.out
            rw [htop] at hto
            simp only [ptrOf, hx, Option.map_some] at hto
            subst hto
            have b0 : w2.cell? ⟨b, 0, none⟩ = some (.int .i64 p.frm) := by rw [cell_of_block hb]; rfl
            have b3 : w2.cell? ⟨b, 3, none⟩ = some (rf k) := by rw [cell_of_block hb]; rfl
            have e2 : w2.cell? ⟨w.heap.size + 1, 2, none⟩ = some wv := by rw [cell_of_block HM2.out.hL]; rfl
            have HB := Lib.hid hok.win
            have HNd := Lib.hid hok.nodes
            have HRd := Lib.hid (hok.reads k p hp)
            have HFr := Lib.hid (hok.frm k p hp)
            have HP := Lib.hid hp
            have HX := Lib.hid hx
            have HBk := Lib.hid hb
            have HT := Lib.hid htop
            have hpo : ptrOf m (some k) = some ⟨b, 0, none⟩ := by simp [ptrOf, hx]
            have HPo := Lib.hid hpo
            clear hok hkl hp hx hb htop hbn hpo
            by_cases hk2 : e.kind = 2
            · rw [hk2] at d0
              go_wp2_with (first
                | (at_builtin; refine wpList_append_own_at _ rfl (.tmp 62) (.tmp 64) 35 rfl w.heap.size 3 i3 (.int .i64 0) 1 8 under35 hi3 hz3 hs3 hb3 rfl (by decide) (rf k) p.reads.length (nums p.reads) rfl ((HM2.out.rows k p HP.out).alloc _) ⟨w2.heap.size, 0, none⟩ 1 1 [.int .i64 i] rfl rfl (cell_one_new _ _ _) (by simp [Value.oneCell']) (by have := HRd.out; unfold maxLen; omega) (by have := HRd.out; omega) (by have := HM2.out.kept.size; simp; omega) ?_; (intro v5 w5 hown5 hgrow5 hnil5 hat5; obtain ⟨g5, cap5, rfl⟩ := row_succ hown5; obtain ⟨hM6, hL5, hEk⟩ := HM2.out.noted HP.out HX.out hgrow5 hown5 hat5; have hE6 := hEk _ _ HE2.out; have g0 := cell_of_block hE6 0; have g1 := cell_of_block hL5 3; have g2 := free_of_block hL5 3; have e6 := cell_of_block hM6.hL 2; simp at g0 g1 e6; have HM6 := Lib.hid hM6; have HE6 := Lib.hid hE6; clear hM6 hL5 hEk hE6 hown5 hgrow5 hnil5 hat5))
                | (at_builtin; (refine wpList_append_own_at _ rfl (.tmp 74) (.tmp 76) 128 rfl w.heap.size 99 i9 (.pointer none) 1 8 under128 hi9 hz9 hs9 hb9 rfl (by decide) wv s.within.length (s.within.map fun k => .pointer (ptrOf m (some k))) rfl (HM6.out.winr.alloc _) ⟨_, 0, none⟩ 1 1 [.pointer (some ⟨b, 0, none⟩)] rfl rfl (by intro j u hj; have h9 := cell_one_new (w5.setCell ⟨b, 3, none⟩ (.slice (some ⟨g5, 0, none⟩) (p.reads.length + 1) cap5)) (.pointer (some ⟨b, 0, none⟩)) 99 j u hj; simpa [World.setCell] using h9) (by simp [Value.oneCell']) (by rw [HB.out]; unfold maxLen; omega) (by rw [HB.out]; omega) (by have h9 := HM6.out.kept.size; rw [World.size_alloc]; exact Nat.le_succ_of_le h9) ?_; (intro v7 w7 hown7 hgrow7 hnil7 hat7; obtain ⟨g7, cap7, rfl⟩ := row_succ hown7; obtain ⟨hM8, hL7, hEk⟩ := HM6.out.gathered (k := k) (by simpa using (List.getElem?_eq_some_iff.1 HP.out).1) hgrow7 (by rw [HPo.out]; exact hown7); have hE8 := hEk _ _ HE6.out; have q0 := cell_of_block hE8 0; have q1 := cell_of_block hL7 2; have q2 := free_of_block hL7 2; simp at q0 q1; have HM8 := Lib.hid hM8; clear hM8 hL7 hEk hE8 hown7 hgrow7 hnil7 hat7))))
              go_roundw
              case rel => exact ⟨i + 1, _, _, _, _, by omega, by go_num, by rw [HPo.out], by have h1 := HNd.out; go_num, (St.run_take _ _ _ _ _ HR.out HI.out).trans (step_read hf hk2 HT.out HP.out), HM8.out⟩
              case measure => simp [intOf]; omega
            · have hk3 := form_kind hf hk1 hk2
              rw [hk3] at d0
              go_wp2_with (at_builtin; refine wpList_append_own_at _ rfl (.tmp 74) (.tmp 76) 128 rfl w.heap.size 99 i9 (.pointer none) 1 8 under128 hi9 hz9 hs9 hb9 rfl (by decide) wv s.within.length (s.within.map fun k => .pointer (ptrOf m (some k))) rfl (HM2.out.winr.alloc _) ⟨_, 0, none⟩ 1 1 [.pointer (some ⟨b, 0, none⟩)] rfl rfl (cell_one_new _ _ _) (by simp [Value.oneCell']) (by rw [HB.out]; unfold maxLen; omega) (by rw [HB.out]; omega) (by have := HM2.out.kept.size; simp; omega) ?_; (intro v7 w7 hown7 hgrow7 hnil7 hat7; obtain ⟨g7, cap7, rfl⟩ := row_succ hown7; obtain ⟨hM8, hL7, hEk⟩ := HM2.out.gathered (k := k) ((List.getElem?_eq_some_iff.1 HP.out).1) hgrow7 (by rw [HPo.out]; exact hown7); have hE8 := hEk _ _ HE2.out; have q0 := cell_of_block hE8 0; have q3 := cell_of_block hE8 2; have q1 := cell_of_block hL7 2; have q2 := free_of_block hL7 2; simp at q0 q1 q3; have HM8 := Lib.hid hM8; have HE8 := Lib.hid hE8; clear hM8 hL7 hEk hE8 hown7 hgrow7 hnil7 hat7))
              obtain ⟨hfr, e0, he0, hea⟩ := HFr.out
              have hb8 := HM8.out.sp k p _ HP.out HX.out
              obtain ⟨eb', eo', heq, hlt', _, _, r2, _⟩ := (HE.out.keeps HM8.out.kept).cells he0
              injection heq with heq
              injection heq with heq1 heq2
              subst heq1 heq2
              have q4 := cell_of_block hb8 0
              have q5 := cell_of_block hb8 2
              simp at q4 q5
              have q6 := free_of_block hb8 1
              have q7 := cell_of_block hb8 1
              simp at q7
              have k4 : (p.frm : Int) < n := by omega
              have k5 : (0 : Int) ≤ p.frm := by omega
              rw [hea] at r2
              generalize hto2 : ptrOf m p.outer = to2 at q5
              have HTo2 := Lib.hid hto2
              have HC := Lib.hid (HM8.out.closed (i := i) HP.out HX.out)
              clear hto2 hb8 hlt' he0 hea
              by_cases hpa : p.addr = e.addr
              · go_quiet (fail)
                go_wp2
                go_roundw
                case rel => exact ⟨i + 1, ⟨s.sps.set k { p with to := i }, p.outer, s.nodes, s.within ++ [k]⟩, _, _, _, by omega, by go_num, by rw [HTo2.out], rfl, (St.run_take _ _ _ _ _ HR.out HI.out).trans (step_write hf hk1 hk2 HT.out HP.out hpa), HC.out.keeps (Keeps.drewN _ _)⟩
                case measure => simp [intOf]; omega
              · go_quiet (fail)
                go_wp2
                go_ret
                exact ReadPost.no (Kept.drewN HM8.out.kept _) (read_stop HR.out HI.out (step_wrong hf hk1 hk2 HT.out HP.out hpa))
    · obtain rfl : i = n := by omega
      have hrun := HR.out
      rw [HN.out, List.take_length] at hrun
      have hro : readOf evs = if s.top = none ∧ s.nodes ≤ 30000 then some s else none := by unfold readOf; rw [hrun]
      have HRo := Lib.hid hro
      clear hrun hro
      cases htop : s.top with
      | none =>
        simp only [ptrOf]
        by_cases hnn : s.nodes ≤ 30000
        · have k1 : ¬ (30000 : Int) < s.nodes := by omega
          go_wp2
          go_ret
          refine ⟨HM.out.kept, ?_⟩
          rw [HRo.out, if_pos ⟨htop, hnn⟩]
          exact ⟨_, _, _, _, _, rfl, HM.out⟩
        · have k1 : (30000 : Int) < s.nodes := by omega
          go_wp2
          go_ret
          exact ReadPost.no HM.out.kept (by rw [HRo.out, if_neg (fun h => hnn h.2)])
      | some k =>
        have hkl := (run_ok i (by rw [← HN.out]; omega) HR.out).1.top k htop
        obtain ⟨b, hx, h8, h9⟩ := HM.out.at (List.getElem?_eq_getElem hkl)
        simp only [ptrOf, hx, Option.map_some]
        clear h8 h9 hx hkl
        go_wp2
        go_ret
        exact ReadPost.no HM.out.kept (by rw [HRo.out, if_neg (fun h => by rw [htop] at h; cases h.1)])
end Go.Proofs.YtbhiaeciiphelaaGreatDoor
