/-
  DERIVED. A map to integers that the call makes: looking up, writing. No condition.
-/
import Derived.Test.YtbhiaeciiphelaaGreatDoorDepC
import Derived.ArgAppend
import Derived.Test.YtbhiaeciiphelaaGreatDoorEvO
namespace Go.Proofs.YtbhiaeciiphelaaGreatDoor
open Go.RowKit
structure KeyT {α : Type} [DecidableEq α] (t k kd : Nat) (K : α → Value) (ok : World → α → Prop) : Prop where
  under : Tryz.prog.underlying t = some (.map k 3)
  kind : Ex.KD Tryz.prog k kd
  inj : ∀ x y, K x = K y → x = y
  cmp : ∀ (w : World) (x y : α), ok w x → ok w y → Ex.Cmp Tryz.prog w k kd (K x) (K y) (decide (x = y))
  bits : ∀ x, Instr.sameBits 10000 (K x) (K x) = true
section
variable {α : Type} [DecidableEq α] {t k kd : Nat} {K : α → Value} {w : World} {M : Nat} {m : List (α × Int)} {ok : World → α → Prop}
structure MapG (w : World) (M : Nat) (K : α → Value) (m : List (α × Int)) : Prop where
  block : ∃ es cl, w.heap[M]? = some (.map es cl) ∧ es.toList.map (fun e => (e.key, e.val)) = m.map (fun p => (K p.1, Value.int .i64 p.2)) ∧ (es.toList.map (·.born)).Nodup ∧ ∀ e ∈ es.toList, e.born < cl
  nd : (m.map (·.1)).Nodup
def getG (m : List (α × Int)) (x : α) : Option Int := (m.find? fun p => decide (p.1 = x)).map (·.2)
theorem getG_some {x : α} {v : Int} (hd : (m.map (·.1)).Nodup) (hm : (x, v) ∈ m) : getG m x = some v := by
  unfold getG
  cases hf : m.find? (fun p => decide (p.1 = x)) with
  | none => exact absurd (by simp) (List.find?_eq_none.1 hf _ hm)
  | some q =>
    have hq : q.1 = x := by simpa using List.find?_some hf
    obtain ⟨i, hi⟩ := List.mem_iff_getElem?.1 (List.mem_of_find?_eq_some hf)
    obtain ⟨j, hj⟩ := List.mem_iff_getElem?.1 hm
    have e1 : (m.map (·.1))[i]? = some x := by rw [List.getElem?_map, hi]; simp [hq]
    have e2 : (m.map (·.1))[j]? = some x := by rw [List.getElem?_map, hj]; rfl
    obtain rfl := (List.getElem?_inj (List.getElem?_eq_some_iff.1 e1).1 hd).1 (e1.trans e2.symm)
    rw [hi] at hj; injection hj with hj; subst hj; rfl
theorem getG_none {x : α} (h : ∀ v, (x, v) ∉ m) : getG m x = none := by
  unfold getG
  rw [List.find?_eq_none.2]
  · rfl
  · rintro ⟨a, v⟩ hp hk
    have : a = x := by simpa using hk
    subst this; exact h v hp
theorem getG_mem {x : α} {v : Int} (h : getG m x = some v) : (x, v) ∈ m := by
  unfold getG at h
  cases hf : m.find? (fun p => decide (p.1 = x)) with
  | none => rw [hf] at h; cases h
  | some q =>
    rw [hf] at h
    have hq : q.1 = x := by simpa using List.find?_some hf
    simp at h
    rw [← hq, ← h]; exact List.mem_of_find?_eq_some hf
theorem MapG.find (h : MapG w M K m) (hk : KeyT t k kd K ok) (hok : ∀ p ∈ m, ok w p.1) {es : Array MapEntry} (he : es.toList.map (fun e => (e.key, e.val)) = m.map (fun p => (K p.1, Value.int .i64 p.2))) (x : α) (hx : ok w x) :
    ∃ r, (Instr.findKey k (K x) es.toList).run Tryz.prog w = .ok r w ∧ (r = none ∧ getG m x = none ∨ ∃ j v, r = some (j, .int .i64 v) ∧ m[j]? = some (x, v) ∧ getG m x = some v) := by
  obtain ⟨r, h1, h2⟩ := Ex.findKey_run (P := Tryz.prog) (w := w) hk.kind (K := K x) es.toList (fun e hm => by
    have hm' : (e.key, e.val) ∈ m.map (fun p => (K p.1, Value.int .i64 p.2)) := he ▸ List.mem_map.2 ⟨e, hm, rfl⟩
    obtain ⟨p, hpm, hp⟩ := List.mem_map.1 hm'
    injection hp with hp _
    exact ⟨_, by rw [← hp]; exact hk.cmp w x p.1 hx (hok p hpm)⟩)
  refine ⟨r, h1, ?_⟩
  cases r with
  | none =>
    refine .inl ⟨rfl, getG_none fun v hm => ?_⟩
    have hm' : (K x, Value.int .i64 v) ∈ es.toList.map (fun e => (e.key, e.val)) := he ▸ List.mem_map.2 ⟨_, hm, rfl⟩
    obtain ⟨e, hee, hq⟩ := List.mem_map.1 hm'
    injection hq with hq _
    exact h2 e hee hq
  | some ju =>
    obtain ⟨j, u⟩ := ju
    obtain ⟨e, hej, hek, heu⟩ := h2
    have hj := congrArg (fun l => l[j]?) he
    simp only [List.getElem?_map, hej, Option.map_some] at hj
    cases hm : m[j]? with
    | none => rw [hm] at hj; cases hj
    | some p =>
      rw [hm] at hj
      simp only [Option.map_some, Option.some.injEq, Prod.mk.injEq] at hj
      have hx : p.1 = x := hk.inj _ _ (hj.1.symm.trans hek)
      have hp : p = (x, p.2) := by rw [← hx]
      refine .inr ⟨j, p.2, by rw [← heu, hj.2], by rw [hp] at hm; exact hm, getG_some h.nd ?_⟩
      rw [← hp]; exact List.mem_of_getElem? hm
theorem MapG.look (h : MapG w M K m) (hk : KeyT t k kd K ok) (hok : ∀ p ∈ m, ok w p.1) (x : α) (hx : ok w x) (co : Bool) :
    (Instr.lookup t (.map (some M)) (K x) co).run Tryz.prog w = .ok (if co then .tuple #[.int .i64 ((getG m x).getD 0), .bool (getG m x).isSome] else .int .i64 ((getG m x).getD 0)) w := by
  obtain ⟨es, cl, h1, h2, _⟩ := h.block
  obtain ⟨r, h3, h4⟩ := h.find hk hok h2 x hx
  have hck := Ex.checkKey_run (P := Tryz.prog) (w := w) hk.kind es.isEmpty (K x)
  have hz : (zeroValue 3).run Tryz.prog w = .ok (.int .i64 0) w := by kernel_rfl
  simp only [Instr.lookup, Sem.run_bind, run_underlying hk.under, Result.andThen_ok, Ex.run_getMap h1, Sem.run_pure, hck, h3]
  rcases h4 with ⟨rfl, h5⟩ | ⟨j, v, rfl, _, h5⟩
  · rw [h5]; simp [hz]
  · rw [h5]; simp
end
section
variable {α : Type} {w : World} {M : Nat} {m : List (α × Int)} {K : α → Value}
theorem MapG.same {w' : World} (h : MapG w M K m) (hs : w'.heap[M]? = w.heap[M]?) : MapG w' M K m := by
  obtain ⟨es, cl, h1, h2⟩ := h.block
  exact ⟨⟨es, cl, hs.trans h1, h2⟩, h.nd⟩
theorem MapG.lt (h : MapG w M K m) : M < w.heap.size := by
  obtain ⟨es, cl, h1, _⟩ := h.block
  exact lt_of_block h1
theorem MapG.not_cells (h : MapG w M K m) {c : Array Value} {y : TypeId} {fr : Nat × Nat} : w.heap[M]? ≠ some (.cells c y fr) := by
  obtain ⟨es, cl, h1, _⟩ := h.block
  rw [h1]; simp
end
section
variable {α : Type} [DecidableEq α] {t k kd : Nat} {K : α → Value} {w : World} {M : Nat} {m : List (α × Int)} {ok : World → α → Prop}
set_option maxRecDepth 100000 in
theorem MapG.put (h : MapG w M K m) (hk : KeyT t k kd K ok) (hok : ∀ p ∈ m, ok w p.1) (x : α) (hx : ok w x) (v : Int) :
    ∃ w' m', (Instr.mapUpdate t (.map (some M)) (K x) (.int .i64 v)).run Tryz.prog w = .ok () w' ∧ Kept (fun b => b = M) w w' ∧ w'.heap.size = w.heap.size ∧ MapG w' M K m' ∧ (∀ y, getG m' y = if y = x then some v else getG m y) ∧ (getG m x = none → m' = m ++ [(x, v)]) := by
  obtain ⟨es, cl, h1, h2, hb, hbl⟩ := h.block
  obtain ⟨r, h3, h4⟩ := h.find hk hok h2 x hx
  have hck := Ex.checkKey_run (P := Tryz.prog) (w := w) hk.kind false (K x)
  have hlt := h.lt
  have run : ∀ o : Obj, (setObj M o).run Tryz.prog w = .ok () { w with heap := w.heap.setIfInBounds M o } := fun o => Ex.run_setMap o h1
  have kept : ∀ o : Obj, Kept (fun b => b = M) w { w with heap := w.heap.setIfInBounds M o } := fun o => (Kept.refl (fun b => b = M) w).putObj (fun _ => rfl) o
  rcases h4 with ⟨rfl, h5⟩ | ⟨j, u, rfl, hj, h5⟩
  · refine ⟨_, m ++ [(x, v)], ?_, kept (.map (es.push { key := K x, val := .int .i64 v, born := cl }) (cl + 1)), by simp, ⟨⟨_, _, Array.getElem?_setIfInBounds_self_of_lt hlt, by simp [h2], ?_, ?_⟩, ?_⟩, fun y => ?_, fun _ => rfl⟩
    · simp only [Instr.mapUpdate, Sem.run_bind, run_underlying hk.under, Result.andThen_ok, Ex.run_getMap h1, hck, h3, run]
    · rw [Array.toList_push, List.map_append, List.nodup_append]
      refine ⟨hb, by simp, fun a ha b hb' => ?_⟩
      obtain ⟨e, he, rfl⟩ := List.mem_map.1 ha
      simp at hb'
      have := hbl e he
      omega
    · intro e he
      rw [Array.toList_push, List.mem_append] at he
      rcases he with he | he
      · exact Nat.lt_succ_of_lt (hbl e he)
      · simp at he; subst he; exact Nat.lt_succ_self _
    · rw [List.map_append, List.nodup_append]
      refine ⟨h.nd, by simp, fun a ha b hb' => ?_⟩
      obtain ⟨p, hp, rfl⟩ := List.mem_map.1 ha
      simp at hb'
      subst hb'
      intro e
      have := getG_some h.nd (show (p.1, p.2) ∈ m from hp)
      rw [e, h5] at this; cases this
    · unfold getG at h5 ⊢
      rw [List.find?_append]
      by_cases e : y = x
      · subst e
        cases hf : m.find? (fun p => decide (p.1 = y)) with
        | some q => rw [hf] at h5; cases h5
        | none => simp
      · rw [if_neg e]
        cases hf : m.find? (fun p => decide (p.1 = y)) with
        | some q => simp
        | none => simp [Ne.symm e]
  · have hjm := (List.getElem?_eq_some_iff.1 hj).1
    have hjl : j < es.toList.length := by
      have := congrArg List.length h2
      simp at this
      rw [Array.length_toList, this]; exact hjm
    have hkj : es.toList[j].key = K x := by
      have := congrArg (fun l => l[j]?) h2
      simp only [List.getElem?_map, hj, List.getElem?_eq_getElem hjl, Option.map_some] at this
      injection this with this
      injection this with this _
    refine ⟨_, m.set j (x, v), ?_, kept (.map (es.modify j fun e => { e with key := K x, val := .int .i64 v }) cl), by simp, ⟨⟨_, _, Array.getElem?_setIfInBounds_self_of_lt hlt, ?_, ?_, ?_⟩, ?_⟩, fun y => ?_, fun h => by rw [h5] at h; cases h⟩
    · have hjo : es[j]? = some es.toList[j] := by rw [← Array.getElem?_toList, List.getElem?_eq_getElem hjl]
      have hst : (Instr.keyThatStays (K x) (K x)).run Tryz.prog w = .ok (K x) w := by unfold Instr.keyThatStays; rw [if_pos (hk.bits x)]; rfl
      simp only [Instr.mapUpdate, Sem.run_bind, run_underlying hk.under, Result.andThen_ok, Ex.run_getMap h1, hck, h3, hjo, Option.map_some, Option.getD_some, hkj, hst, run]
    · rw [Array.toList_modify]
      apply List.ext_getElem?
      intro i
      have hi := congrArg (fun l => l[i]?) h2
      simp only [List.getElem?_map] at hi
      rw [List.getElem?_map, List.getElem?_map, List.getElem?_modify, List.getElem?_set]
      by_cases e : j = i
      · subst e
        rw [List.getElem?_eq_getElem hjl]
        simp [hjm]
      · simp only [e, if_false, id_map']
        exact hi
    · rw [Array.toList_modify]
      have : (es.toList.modify j fun e => { e with key := K x, val := .int .i64 v }).map (·.born) = es.toList.map (·.born) := by
        apply List.ext_getElem?
        intro i
        rw [List.getElem?_map, List.getElem?_map, List.getElem?_modify]
        by_cases e : j = i
        · cases es.toList[i]? <;> simp [e]
        · simp [e]
      rw [this]; exact hb
    · intro e he
      rw [Array.toList_modify] at he
      obtain ⟨i, hi⟩ := List.mem_iff_getElem?.1 he
      rw [List.getElem?_modify] at hi
      cases hei : es.toList[i]? with
      | none => rw [hei] at hi; cases hi
      | some e0 =>
        rw [hei] at hi
        have h0 := hbl e0 (List.mem_of_getElem? hei)
        by_cases ee : j = i
        · simp [ee] at hi; rw [← hi]; exact h0
        · simp [ee] at hi; rw [← hi]; exact h0
    · have : (m.set j (x, v)).map (·.1) = m.map (·.1) := by
        apply List.ext_getElem?
        intro i
        rw [List.getElem?_map, List.getElem?_map, List.getElem?_set]
        by_cases e : j = i
        · subst e; simp [hjm, (List.getElem?_eq_some_iff.1 hj).2]
        · simp [e]
      rw [this]; exact h.nd
    · have hnd : ((m.set j (x, v)).map (·.1)).Nodup := by
        have : (m.set j (x, v)).map (·.1) = m.map (·.1) := by
          apply List.ext_getElem?
          intro i
          rw [List.getElem?_map, List.getElem?_map, List.getElem?_set]
          by_cases e : j = i
          · subst e; simp [hjm, (List.getElem?_eq_some_iff.1 hj).2]
          · simp [e]
        rw [this]; exact h.nd
      by_cases e : y = x
      · subst e
        rw [if_pos rfl]
        exact getG_some hnd (List.mem_of_getElem? (by rw [List.getElem?_set_self hjm]))
      · rw [if_neg e]
        cases hg : getG m y with
        | some a =>
          obtain ⟨i, hi⟩ := List.mem_iff_getElem?.1 (getG_mem hg)
          refine getG_some hnd (List.mem_of_getElem? (i := i) ?_)
          rw [List.getElem?_set_ne (fun ee => ?_)]
          · exact hi
          · subst ee; rw [hj] at hi; injection hi with hi; injection hi with hi; exact e hi.symm
        | none =>
          refine getG_none fun a ha => ?_
          obtain ⟨i, hi⟩ := List.mem_iff_getElem?.1 ha
          by_cases ee : j = i
          · subst ee
            rw [List.getElem?_set_self hjm] at hi
            injection hi with hi; injection hi with hi; exact e hi.symm
          · rw [List.getElem?_set_ne ee] at hi
            rw [getG_some h.nd (List.mem_of_getElem? hi)] at hg; cases hg
end
theorem MapG.made {α : Type} [DecidableEq α] (w : World) (K : α → Value) : MapG (w.alloc (.map #[] 0)) w.heap.size K [] := ⟨⟨_, _, heap_alloc_at w _, rfl, by simp, by simp⟩, by simp⟩
theorem keyI : KeyT 137 3 0 (fun a : Int => Value.int .i64 a) (fun _ _ => True) where
  inj := fun x y h => by simpa using h
  under := by kernel_rfl
  kind := kd3
  cmp := fun w x y _ _ => ⟨by simp, fun _ d hd => by
    rw [Tryz.underlying3] at hd
    injection hd with hd
    subst hd
    simp [Instr.sameNow]
    rw [Bool.eq_iff_iff]; simp, fun h => by cases h⟩
  bits := fun x => by simp [Instr.sameBits]
theorem keyP : KeyT 177 99 3 (fun b : Nat => Value.pointer (some ⟨b, 0, none⟩)) (fun w b => ∃ c t, w.heap[b]? = some (.cells c t (0, 0))) where
  inj := fun x y h => by simpa using h
  under := by kernel_rfl
  kind := ⟨103, 4, by kernel_rfl, by kernel_rfl, by decide⟩
  cmp := fun w x y hx hy => ⟨by simp, fun h => by omega, fun _ => Ex.equal_ptr (e := 103) (n := 4) (by kernel_rfl) (by kernel_rfl) (by decide) _ _ (by
    by_cases e : x = y
    · subst e; rw [Ex.sameAddr_same]; simp
    · obtain ⟨c1, t1, h1⟩ := hx
      obtain ⟨c2, t2, h2⟩ := hy
      rw [Ex.sameAddr_other e h1 h2, decide_eq_false e])⟩
  bits := fun x => by simp [Instr.sameBits]
end Go.Proofs.YtbhiaeciiphelaaGreatDoor
namespace Go.Proofs.YtbhiaeciiphelaaGreatDoor
open Go.RowKit Go.Shelf
def Tail (w : World) (base : Nat) (v : Value) (l : List Int) : Prop :=
  (v = .slice none 0 0 ∧ l = []) ∨ ∃ g o cap cur, v = .slice (some ⟨g, o, none⟩) l.length cap ∧ base ≤ g ∧ w.heap[g]? = some (.cells cur 3 (0, 0)) ∧ l.length ≤ cap ∧ cap ≤ maxLen ∧ o + cap ≤ cur.size ∧
    ∀ (j : Nat) (x : Int), l[j]? = some x → cur[o + j]? = some (.int .i64 x)
section
variable {w : World} {base : Nat} {v : Value} {l : List Int}
theorem Tail.of_own (h : w.ownsRow base 3 1 v l.length (ints l)) : Tail w base v l := by
  rcases h.2 with ⟨h1, h2⟩ | ⟨g, cap, cur, hv, hb, hg, hc, hm, hs, ht⟩
  · exact .inl ⟨h1, List.eq_nil_of_length_eq_zero h2⟩
  · refine .inr ⟨g, 0, cap, cur, hv, hb, hg, hc, hm, by omega, fun j x hj => ?_⟩
    have h1 : (ints l)[j]? = some (.int .i64 x) := by simp [ints, hj]
    rw [← ht, List.getElem?_take] at h1
    split at h1
    · simpa using h1
    · cases h1
theorem Tail.form (h : Tail w base v l) : ∃ p c, v = .slice p l.length c := by
  rcases h with ⟨rfl, rfl⟩ | ⟨g, o, cap, cur, rfl, _⟩
  · exact ⟨_, _, rfl⟩
  · exact ⟨_, _, rfl⟩
theorem Tail.block (h : Tail w base v l) {g : Nat} (hg : v.ownBlock = some g) : base ≤ g ∧ ∃ cur, w.heap[g]? = some (.cells cur 3 (0, 0)) := by
  rcases h with ⟨rfl, rfl⟩ | ⟨g', o, cap, cur, rfl, hb, hgg, _⟩
  · cases hg
  · injection hg with hg; subst hg; exact ⟨hb, cur, hgg⟩
theorem Tail.same {w' : World} (h : Tail w base v l) (hs : ∀ g, v.ownBlock = some g → w'.heap[g]? = w.heap[g]?) : Tail w' base v l := by
  rcases h with h | ⟨g, o, cap, cur, hv, hb, hg, r⟩
  · exact .inl h
  · exact .inr ⟨g, o, cap, cur, hv, hb, by rw [hs g (by rw [hv]; rfl)]; exact hg, r⟩
theorem Tail.alloc (h : Tail w base v l) (o : Obj) : Tail (w.alloc o) base v l := h.same fun g hg => by
  obtain ⟨_, cur, hc⟩ := h.block hg
  rw [heap_alloc_old o hc, hc]
theorem Tail.cut {x : Int} (h : Tail w base v (x :: l)) : ∃ g o cap, v = .slice (some ⟨g, o, none⟩) (l.length + 1) cap ∧ w.cell? ⟨g, o, none⟩ = some (.int .i64 x) ∧
    (∀ W : World, (Instr.slice 35 v (some (.int .i64 1)) none none).run Tryz.prog W = .ok (.slice (some ⟨g, (if cap = 1 then o else o + 1), none⟩) l.length (cap - 1)) W) ∧ Tail w base (.slice (some ⟨g, (if cap = 1 then o else o + 1), none⟩) l.length (cap - 1)) l := by
  rcases h with ⟨_, h⟩ | ⟨g, o, cap, cur, rfl, hb, hg, hc, hm, hs, hx⟩
  · cases h
  · simp only [List.length_cons] at hc
    refine ⟨g, o, cap, rfl, ?_, fun W => ?_, .inr ⟨g, _, _, cur, rfl, hb, hg, by omega, by omega, by split <;> omega, fun j y hj => ?_⟩⟩
    · rw [cell_of_block hg]; exact hx 0 x rfl
    · have hsz : (sizeOf 3).run Tryz.prog W = .ok 1 W := by kernel_rfl
      simp only [Instr.slice, Sem.run_bind, run_underlying under35, Result.andThen_ok, Instr.sliceBounds, Instr.sliceBound, asIntOf, Sem.run_pure, List.length_cons]
      have h1 : (0 : Int) ≤ 1 ∧ (1 : Int) ≤ ((l.length + 1 : Nat) : Int) := ⟨by decide, by omega⟩
      simp only [h1, and_self, if_true, Sem.run_pure, Result.andThen_ok, Int.toNat_one]
      by_cases e : cap = 1
      · simp [e]
      · simp [e, Addr.add_lit]
    · by_cases e : cap = 1
      · have hl : l = [] := List.eq_nil_of_length_eq_zero (by omega)
        subst hl; simp at hj
      · rw [if_neg e]
        have := hx (j + 1) y (by simpa using hj)
        rw [show o + 1 + j = o + (j + 1) by omega]; exact this
set_option maxRecDepth 100000 in
theorem Tail.app (h : Tail w base v l) (hb0 : base ≤ w.heap.size) {x : Int} {ad : Addr} (hx : w.cell? ad = some (.int .i64 x)) (hl : l.length ≤ 1000000000) (ty : TypeId) :
    ∃ v' w', (Builtin.append_ #[35, 35] ty #[v, .slice (some ad) 1 1]).run Tryz.prog w = .ok v' w' ∧ Tail w' base v' (l ++ [x]) ∧ w.grownBy w' v.ownBlock ∧ (∀ g, v'.ownBlock = some g → v.ownBlock = some g ∨ w.heap.size ≤ g) := by
  obtain ⟨i3, hi3, hz3, hs3, hb3⟩ := info_parts info3
  have hnews : ∀ j u, [Value.int .i64 x][j]? = some u → w.cell? (ad.add j) = some u := by
    intro j u hj
    cases j with
    | zero => simp at hj; subst hj; simpa [Addr.add] using hx
    | succ j => simp at hj
  have hone : ∀ u ∈ [Value.int .i64 x], u.oneCell' = true := by simp [Value.oneCell']
  have mx : maxLen = 9223372036854775807 := rfl
  rcases h with ⟨rfl, rfl⟩ | ⟨g, o, cap, cur, rfl, hb, hg, hc, hm, hs, hxs⟩
  · obtain ⟨v', w', h1, h2, h3, _, h5⟩ := run_append_own_at (P := Tryz.prog) w base 35 ty 3 i3 (.int .i64 0) 1 8 under35 hi3 hz3 hs3 hb3 rfl (by decide) (.slice none 0 0) 0 [] (World.ownsRow_nil _ _ _ _) ad 1 1 [.int .i64 x] rfl hnews hone (by omega) (by omega) hb0
    exact ⟨v', w', h1, Tail.of_own (l := [x]) h2, h3, fun g hg => h5.elim (fun h5 => .inl (h5 ▸ hg)) (fun h5 => .inr (by rw [h5] at hg; injection hg with hg; omega))⟩
  · by_cases hr : l.length + 1 ≤ cap
    · have hlt : o + l.length < cur.size := by omega
      have hrun := run_append_room_cells (P := Tryz.prog) w 35 ty 3 i3 under35 hi3 g o l.length cap ad 1 1 [.int .i64 x] (by rw [hs3]; rfl) hnews hone hr
        (fun j hj => by simp at hj; subst hj; rw [hs3, cell_of_block hg]; simp [hlt]) (fun j hj => free_of_block hg _)
      rw [hs3, Nat.mul_one] at hrun
      refine ⟨_, _, hrun, .inr ⟨g, o, cap, _, by simp, hb, heap_set_same hg _, by simpa using hr, hm, by simpa using hs, fun j y hj => ?_⟩, ⟨rfl, rfl, rfl, by simp [World.setCells, World.setCell], fun k _ hk => heap_set_other _ (fun e => hk (by simp [Value.ownBlock, e]))⟩, fun _ hg => .inl hg⟩
      rw [List.getElem?_append] at hj
      by_cases e : j < l.length
      · rw [if_pos e] at hj
        rw [Array.getElem?_setIfInBounds_ne (by omega)]; exact hxs j y hj
      · rw [if_neg e] at hj
        have hj0 : j = l.length := by
          have := (List.getElem?_eq_some_iff.1 hj).1
          simp at this; omega
        subst hj0
        simp at hj
        subst hj
        rw [Array.getElem?_setIfInBounds_self_of_lt hlt]
    · obtain ⟨v', w', h1, h2, h3⟩ := run_append_arg_grows (P := Tryz.prog) w 35 ty 3 i3 (.int .i64 0) 1 8 under35 hi3 hz3 hs3 hb3 rfl (by decide) ⟨g, o, none⟩ l.length cap (ints l) (by simp [ints]) (fun j u hj => by
          rw [ints, List.getElem?_map] at hj
          cases hlj : l[j]? with
          | none => rw [hlj] at hj; cases hj
          | some y =>
            rw [hlj] at hj
            injection hj with hj
            subst hj
            rw [Addr.add_lit, cell_of_block hg]; exact hxs j y hlj) ad 1 1 [.int .i64 x] rfl hnews (by omega) (by omega) (by omega)
      have h2' : w'.ownsRow w.heap.size 3 1 v' (l ++ [x]).length (ints (l ++ [x])) := by simpa [ints] using h2
      refine ⟨v', w', h1, Tail.of_own (row_lower h2' hb0), ⟨h3.os, h3.tape, h3.output, h3.size, fun k hk _ => h3.block k hk (by simp)⟩, fun g hg => .inr (h2.lt g hg).1⟩
end
end Go.Proofs.YtbhiaeciiphelaaGreatDoor
namespace Go.Proofs.YtbhiaeciiphelaaGreatDoor
open Go.RowKit
def Met (met : List (Int × Int)) (z : Int) : Prop := ∃ y, (z, y) ∈ met
theorem Met.more {met : List (Int × Int)} {z : Int} (h : Met met z) (x : Int × Int) : Met (met ++ [x]) z := let ⟨y, hy⟩ := h; ⟨y, List.mem_append.2 (.inl hy)⟩
theorem Met.split {met : List (Int × Int)} {z : Int} {x : Int × Int} (h : Met (met ++ [x]) z) : Met met z ∨ z = x.1 := by
  obtain ⟨y, hy⟩ := h
  rcases List.mem_append.1 hy with hy | hy
  · exact .inl ⟨y, hy⟩
  · rw [List.mem_singleton] at hy; subst hy; exact .inr rfl
theorem met_iff {met : List (Int × Int)} {z : Int} : Met met z ↔ getG met z ≠ none := by
  constructor
  · rintro ⟨y, hy⟩ h
    unfold getG at h
    cases hf : met.find? (fun p => decide (p.1 = z)) with
    | none => exact absurd (by simp) (List.find?_eq_none.1 hf _ hy)
    | some q => rw [hf] at h; cases h
  · intro h
    cases hg : getG met z with
    | none => exact absurd hg h
    | some y => exact ⟨y, getG_mem hg⟩
structure Spr (evs : List Ev) (f : St) (fr : List Int) (a : Option Int) (ex : Option Nat) (met : List (Int × Int)) (next : List Int) (seen : Nat → Nat) : Prop where
  par : ∀ (i : Nat) (z y : Int), met[i]? = some (z, y) → (z ∈ fr ∧ y = z) ∨ (z ∈ sq evs f y ∧ ∃ (j : Nat) (u : Int), j < i ∧ met[j]? = some (y, u))
  root : ∀ z ∈ fr, Met met z
  here : ∀ x, a = some x → Met met x
  inN : ∀ x ∈ next, Met met x
  len : next.length ≤ met.length
  done : ∀ x, Met met x → a = some x ∨ x ∈ next ∨ ∀ z ∈ sq evs f x, Met met z
  reads : ∀ (k : Nat) (p : Sp), f.sps[k]? = some p → ∀ r ∈ p.reads.take (seen k - 1), Met met (addrAt evs r)
  outer : ∀ (k : Nat) (p : Sp), f.sps[k]? = some p → 0 < seen k → ex ≠ some k → ∀ (j : Nat) (q : Sp), p.outer = some j → f.sps[j]? = some q → (q.reads.filter fun r => decide (r < p.frm)).length < seen j
section
variable {evs : List Ev} {f : St} {fr : List Int} {ex : Option Nat} {met : List (Int × Int)} {next : List Int} {seen : Nat → Nat} {x z : Int}
theorem Spr.take (h : Spr evs f fr none none met (x :: next) seen) : Spr evs f fr (some x) none met next seen :=
  ⟨h.par, h.root, fun y hy => by injection hy with hy; subst hy; exact h.inN x (by simp), fun y hy => h.inN y (by simp [hy]), by have := h.len; simp at this; omega, fun y hy => by
    rcases h.done y hy with h1 | h1 | h1
    · cases h1
    · rcases List.mem_cons.1 h1 with rfl | h1
      · exact .inl rfl
      · exact .inr (.inl h1)
    · exact .inr (.inr h1), h.reads, h.outer⟩
theorem Spr.add (h : Spr evs f fr (some x) ex met next seen) (hz : z ∈ sq evs f x) : Spr evs f fr (some x) ex (met ++ [(z, x)]) (next ++ [z]) seen := by
  refine ⟨fun i z' y hi => ?_, fun y hy => (h.root y hy).more _, fun y hy => (h.here y hy).more _, fun y hy => ?_, by have := h.len; simp; exact this, fun y hy => ?_, fun k p hp r hr => (h.reads k p hp r hr).more _, h.outer⟩
  · rw [List.getElem?_append] at hi
    split at hi
    · rename_i hlt
      rcases h.par i z' y hi with h1 | ⟨h1, j, u, hj, hu⟩
      · exact .inl h1
      · exact .inr ⟨h1, j, u, hj, by rw [List.getElem?_append_left (by omega)]; exact hu⟩
    · rename_i hlt
      have hi0 : i = met.length := by
        have := (List.getElem?_eq_some_iff.1 hi).1
        simp at this; omega
      subst hi0
      simp at hi
      obtain ⟨rfl, rfl⟩ := hi
      obtain ⟨u, hu⟩ := h.here _ rfl
      obtain ⟨j, hj⟩ := List.mem_iff_getElem?.1 hu
      have hjl := (List.getElem?_eq_some_iff.1 hj).1
      exact .inr ⟨hz, j, u, hjl, by rw [List.getElem?_append_left hjl]; exact hj⟩
  · rcases List.mem_append.1 hy with hy | hy
    · exact (h.inN y hy).more _
    · rw [List.mem_singleton] at hy; subst hy; exact ⟨x, by simp⟩
  · rcases hy.split with hy | rfl
    · rcases h.done y hy with h1 | h1 | h1
      · exact .inl h1
      · exact .inr (.inl (List.mem_append.2 (.inl h1)))
      · exact .inr (.inr fun v hv => (h1 v hv).more _)
    · exact .inr (.inl (by simp))
theorem Spr.see (h : Spr evs f fr (some x) ex met next seen) {s m : Nat} {p : Sp} (hs : f.sps[s]? = some p) (hrd : ∀ r ∈ p.reads.take m, Met met (addrAt evs r))
    (hex : ∀ k, ex = some k → ∃ pk, f.sps[k]? = some pk ∧ pk.outer = some s ∧ (p.reads.filter fun r => decide (r < pk.frm)).length = m) {seen' : Nat → Nat} (hs' : ∀ k, seen' k = if k = s then max (seen s) (m + 1) else seen k) :
    Spr evs f fr (some x) (some s) met next seen' := by
  have mono : ∀ k, seen k ≤ seen' k := fun k => by rw [hs']; split <;> (try subst_vars) <;> omega
  refine ⟨h.par, h.root, h.here, h.inN, h.len, h.done, fun k q hq r hr => ?_, fun k q hq h0 hne j qj hj hqj => ?_⟩
  · rw [hs'] at hr
    split at hr
    · rename_i e
      subst e
      rw [hs] at hq; injection hq with hq; subst hq
      rcases Nat.le_total (seen k) (m + 1) with hle | hle
      · rw [Nat.max_eq_right hle, Nat.add_sub_cancel] at hr; exact hrd r hr
      · rw [Nat.max_eq_left hle] at hr; exact h.reads k p hs r hr
    · exact h.reads k q hq r hr
  · have hks : k ≠ s := fun e => hne (by rw [e])
    rw [hs', if_neg hks] at h0
    by_cases e : ex = some k
    · obtain ⟨pk, hpk, hpo, hm⟩ := hex k e
      rw [hq] at hpk; injection hpk with hpk; subst hpk
      rw [hpo] at hj; injection hj with hj; subst hj
      rw [hs] at hqj; injection hqj with hqj; subst hqj
      rw [hm, hs', if_pos rfl]
      omega
    · exact Nat.lt_of_lt_of_le (h.outer k q hq h0 e j qj hj hqj) (mono j)
theorem Spr.last (h : Spr evs f fr (some x) ex met next seen) (hex : ∀ k, ex = some k → ∃ pk, f.sps[k]? = some pk ∧ ∀ (j : Nat) (q : Sp), pk.outer = some j → f.sps[j]? = some q → (q.reads.filter fun r => decide (r < pk.frm)).length < seen j) :
    Spr evs f fr (some x) none met next seen :=
  ⟨h.par, h.root, h.here, h.inN, h.len, h.done, h.reads, fun k p hp h0 _ j q hj hq => by
    by_cases e : ex = some k
    · obtain ⟨pk, hpk, h1⟩ := hex k e
      rw [hp] at hpk; injection hpk with hpk; subst hpk
      exact h1 j q hj hq
    · exact h.outer k p hp h0 e j q hj hq⟩
theorem Spr.ways {a : Option Int} (h : Spr evs f fr a none met next seen) : ∀ {o : Option Nat} {t : Nat} {wl : List (Nat × Nat)}, Ways f.sps o t wl → (∀ k, o = some k → ∀ c, wl[0]? = some (k, c) → c < seen k) →
    ∀ x ∈ wl, ∀ p, f.sps[x.1]? = some p → ∀ r ∈ p.reads.take x.2, Met met (addrAt evs r)
  | _, _, _, .nil, _, x, hx, _, _, _, _ => by simp at hx
  | some k, t, _, .cons (p := p) (l := l) hp hl, h0, x, hx, q, hq, r, hr => by
    have hc := h0 k rfl _ rfl
    rcases List.mem_cons.1 hx with rfl | hx
    · rw [hp] at hq; injection hq with hq; subst hq
      refine h.reads k p hp r ?_
      exact (List.take_subset_take_left p.reads (by omega)) hr
    · refine h.ways hl (fun j hj c hc0 => ?_) x hx q hq r hr
      rw [hj] at hl
      cases hl with
      | cons hpj hlj =>
        simp at hc0
        subst hc0
        exact h.outer k p hp (by omega) (by simp) j _ hj hpj
theorem Spr.fin (h : Spr evs f fr (some x) none met next seen) (hcl : ∀ z ∈ sq evs f x, Met met z) : Spr evs f fr none none met next seen :=
  ⟨h.par, h.root, fun y hy => (by cases hy), h.inN, h.len, fun y hy => by
    rcases h.done y hy with h1 | h1 | h1
    · injection h1 with h1; subst h1; exact .inr (.inr hcl)
    · exact .inr (.inl h1)
    · exact .inr (.inr h1), h.reads, h.outer⟩
theorem Spr.least {a : Option Int} (h : Spr evs f fr a ex met next seen) (P : Int → Prop) (h1 : ∀ z ∈ fr, P z) (h2 : ∀ x, P x → ∀ z ∈ sq evs f x, P z) : ∀ x, Met met x → P x := by
  have key : ∀ (i : Nat) (z y : Int), met[i]? = some (z, y) → P z := by
    intro i
    induction i using Nat.strongRecOn with
    | _ i ih =>
      intro z y hi
      rcases h.par i z y hi with ⟨h3, _⟩ | ⟨h3, j, u, hj, hu⟩
      · exact h1 z h3
      · exact h2 y (ih j hj y u hu) z h3
  rintro x ⟨y, hy⟩
  obtain ⟨i, hi⟩ := List.mem_iff_getElem?.1 hy
  exact key i x y hi
theorem Spr.reach (h : Spr evs f fr none none met [] seen) {y : Int} (hfr : ∀ z, z ∈ fr ↔ z ∈ sq evs f y) : Reach evs f y (met.map (·.1)) := by
  have hm : ∀ z, z ∈ met.map (·.1) ↔ Met met z := fun z => by simp [Met]
  refine ⟨fun z hz => (hm z).2 (h.root z ((hfr z).2 hz)), fun u hu z hz => (hm z).2 ?_, fun P h1 h2 u hu => h.least P (fun z hz => h1 z ((hfr z).1 hz)) h2 u ((hm u).1 hu)⟩
  rcases h.done u ((hm u).1 hu) with h1 | h1 | h1
  · cases h1
  · simp at h1
  · exact h1 z hz
theorem Spr.few {a : Option Int} (h : Spr evs f fr a ex met next seen) (hro : readOf evs = some f) (hd : (met.map (·.1)).Nodup) : met.length ≤ fr.length + 30000 := by
  have := hd.length_le_of_subset (l₂ := fr ++ (List.range 30000).map Int.ofNat) (fun z hz => by
    obtain ⟨⟨z', y⟩, hp, rfl⟩ := List.mem_map.1 hz
    obtain ⟨i, hi⟩ := List.mem_iff_getElem?.1 hp
    rcases h.par i _ _ hi with ⟨h3, _⟩ | ⟨h3, _⟩
    · exact List.mem_append.2 (.inl h3)
    · obtain ⟨h4, h5⟩ := sq_rng hro _ _ h3
      refine List.mem_append.2 (.inr (List.mem_map.2 ⟨z'.toNat, ?_, ?_⟩))
      · rw [List.mem_range]; omega
      · simp; omega)
  simpa using this
theorem Spr.start (evs : List Ev) (f : St) (fr : List Int) : Spr evs f fr none none (fr.map fun z => (z, z)) fr fun _ => 0 :=
  ⟨fun i z y hi => by
    rw [List.getElem?_map] at hi
    cases hf : fr[i]? with
    | none => rw [hf] at hi; cases hi
    | some v =>
      rw [hf] at hi
      simp at hi
      obtain ⟨rfl, rfl⟩ := hi
      exact .inl ⟨List.mem_of_getElem? hf, rfl⟩, fun z hz => ⟨z, List.mem_map.2 ⟨z, hz, rfl⟩⟩, fun x hx => (by cases hx), fun x hx => ⟨x, List.mem_map.2 ⟨x, hx, rfl⟩⟩, by simp, fun x hx => by
    obtain ⟨y, hy⟩ := hx
    obtain ⟨v, hv, hv2⟩ := List.mem_map.1 hy
    injection hv2 with e1 e2
    subst e1; exact .inr (.inl hv), fun k p hp r hr => by simp at hr, fun k p hp h0 => by omega⟩
end
theorem mem_gath {evs : List Ev} {f : St} (hro : readOf evs = some f) {a : Int} {k : Nat} (hix : idxOf f a = some k) {wl : List (Nat × Nat)} (hw : Ways f.sps (some k) evs.length wl) (z : Int) : z ∈ sq evs f a ↔ z ∈ gath evs f wl wl.length := by
  have hk : k < f.sps.length := by obtain ⟨p, hp, _⟩ := idx_some hix; exact (List.getElem?_eq_some_iff.1 hp).1
  have h1 := gath_sees hro hk hw
  have h2 : sq evs f a = seesOf evs f k := by unfold sq; rw [hix]
  have hmem := (rise_is (gath evs f wl wl.length)).2 z
  rw [h1, mem_slots] at hmem
  constructor
  · intro hz
    have hr := sq_rng hro a z hz
    exact hmem.1 ⟨hr, h2 ▸ hz⟩
  · intro hz
    exact h2 ▸ (hmem.2 hz).2
theorem gath_at {evs : List Ev} {f : St} {wl : List (Nat × Nat)} {z : Int} : z ∈ gath evs f wl wl.length ↔ ∃ x ∈ wl, ∃ r ∈ (readsOf f x.1).take x.2, addrAt evs r = z := by
  unfold gath
  rw [List.take_length, List.mem_flatMap]
  constructor
  · rintro ⟨x, hx, h2⟩
    obtain ⟨r, hr, e⟩ := List.mem_map.1 h2
    exact ⟨x, hx, r, hr, e⟩
  · rintro ⟨x, hx, r, hr, e⟩
    exact ⟨x, hx, List.mem_map.2 ⟨r, hr, e⟩⟩
end Go.Proofs.YtbhiaeciiphelaaGreatDoor
namespace Go.Proofs.YtbhiaeciiphelaaGreatDoor
open Go.RowKit
structure Bfs (evs : List Ev) (f : St) (fr : List Int) (a : Option Int) (met : List (Int × Int)) (next : List Int) (lev : Int → Nat) : Prop where
  par : ∀ z y, (z, y) ∈ met → (z ∈ fr ∧ y = z ∧ lev z = 0) ∨ (z ∈ sq evs f y ∧ Met met y ∧ lev z = lev y + 1)
  root : ∀ z ∈ fr, lev z = 0
  cur : ∀ x, a = some x → ∀ z, Met met z → lev z ≤ lev x + 1
  curn : ∀ x, a = some x → ∀ y ∈ next, lev x ≤ lev y
  ord : next.Pairwise fun x y => lev x ≤ lev y
  hd : a = none → ∀ x ∈ next, ∀ z, Met met z → lev z ≤ lev x + 1
  inN : ∀ x ∈ next, Met met x
  done : ∀ x, Met met x → a = some x ∨ x ∈ next ∨ ∀ z ∈ sq evs f x, Met met z ∧ lev z ≤ lev x + 1
section
variable {evs : List Ev} {f : St} {fr : List Int} {met : List (Int × Int)} {next : List Int} {lev : Int → Nat} {x z : Int}
theorem Bfs.take (h : Bfs evs f fr none met (x :: next) lev) : Bfs evs f fr (some x) met next lev :=
  ⟨h.par, h.root, fun y hy z hz => by injection hy with hy; subst hy; exact h.hd rfl x (by simp) z hz, fun y hy v hv => by injection hy with hy; subst hy; exact (List.pairwise_cons.1 h.ord).1 v hv, (List.pairwise_cons.1 h.ord).2, fun e => (by cases e), fun y hy => h.inN y (by simp [hy]), fun y hy => by
    rcases h.done y hy with h1 | h1 | h1
    · cases h1
    · rcases List.mem_cons.1 h1 with rfl | h1
      · exact .inl rfl
      · exact .inr (.inl h1)
    · exact .inr (.inr h1)⟩
theorem Bfs.add (h : Bfs evs f fr (some x) met next lev) (hx : Met met x) (hz : z ∈ sq evs f x) (hn : ¬ Met met z) (hr : ∀ v ∈ fr, Met met v) : Bfs evs f fr (some x) (met ++ [(z, x)]) (next ++ [z]) (fun v => if v = z then lev x + 1 else lev v) := by
  have old : ∀ v : Int, Met met v → (if v = z then lev x + 1 else lev v) = lev v := fun v hv => if_neg (fun e : v = z => hn (e ▸ hv))
  have hxz := old x hx
  refine ⟨fun v y hv => ?_, fun v hv => ?_, fun y hy v hv => ?_, fun y hy v hv => ?_, ?_, fun e => (by cases e), fun y hy => ?_, fun y hy => ?_⟩
  · rcases List.mem_append.1 hv with hv | hv
    · have hvm : Met met v := ⟨y, hv⟩
      rcases h.par v y hv with ⟨h1, h2, h3⟩ | ⟨h1, h2, h3⟩
      · exact .inl ⟨h1, h2, by rw [old v hvm]; exact h3⟩
      · exact .inr ⟨h1, h2.more _, by rw [old v hvm, old y h2]; exact h3⟩
    · rw [List.mem_singleton] at hv
      injection hv with e1 e2
      subst e1 e2
      exact .inr ⟨hz, hx.more _, by rw [if_pos rfl, hxz]⟩
  · rw [old v (hr v hv)]; exact h.root v hv
  · injection hy with hy
    subst hy
    rw [hxz]
    rcases hv.split with hv | rfl
    · rw [old v hv]; exact h.cur _ rfl v hv
    · rw [if_pos rfl]; exact Nat.le_refl _
  · injection hy with hy
    subst hy
    rw [hxz]
    rcases List.mem_append.1 hv with hv | hv
    · rw [old v (h.inN v hv)]; exact h.curn _ rfl v hv
    · rw [List.mem_singleton] at hv; subst hv; rw [if_pos rfl]; exact Nat.le_succ _
  · rw [List.pairwise_append]
    refine ⟨h.ord.imp_of_mem fun {u v} hu hv huv => ?_, by simp, fun u hu v hv => ?_⟩
    · rw [old u (h.inN u hu), old v (h.inN v hv)]; exact huv
    · rw [List.mem_singleton] at hv
      subst hv
      rw [if_pos rfl, old u (h.inN u hu)]
      exact h.cur _ rfl u (h.inN u hu)
  · rcases List.mem_append.1 hy with hy | hy
    · exact (h.inN y hy).more _
    · rw [List.mem_singleton] at hy; subst hy; exact ⟨x, by simp⟩
  · rcases hy.split with hy | rfl
    · rcases h.done y hy with h1 | h1 | h1
      · exact .inl h1
      · exact .inr (.inl (List.mem_append.2 (.inl h1)))
      · exact .inr (.inr fun v hv => ⟨(h1 v hv).1.more _, by rw [old v (h1 v hv).1, old y hy]; exact (h1 v hv).2⟩)
    · exact .inr (.inl (by simp))
theorem Bfs.fin (h : Bfs evs f fr (some x) met next lev) (hcl : ∀ z ∈ sq evs f x, Met met z) : Bfs evs f fr none met next lev :=
  ⟨h.par, h.root, fun y hy => (by cases hy), fun y hy => (by cases hy), h.ord, fun _ y hy z hz => by have h1 := h.cur x rfl z hz; have h2 := h.curn x rfl y hy; omega, h.inN, fun y hy => by
    rcases h.done y hy with h1 | h1 | h1
    · injection h1 with h1; subst h1; exact .inr (.inr fun z hz => ⟨hcl z hz, h.cur _ rfl z (hcl z hz)⟩)
    · exact .inr (.inl h1)
    · exact .inr (.inr h1)⟩
theorem Bfs.start (evs : List Ev) (f : St) (fr : List Int) : Bfs evs f fr none (fr.map fun z => (z, z)) fr fun _ => 0 :=
  ⟨fun z y hz => by
    obtain ⟨v, hv, e⟩ := List.mem_map.1 hz
    injection e with e1 e2
    subst e1 e2
    exact .inl ⟨hv, rfl, rfl⟩, fun _ _ => rfl, fun x hx => (by cases hx), fun x hx => (by cases hx), List.pairwise_of_forall fun _ _ => Nat.le_refl _, fun _ _ _ _ _ => Nat.zero_le _, fun x hx => ⟨x, List.mem_map.2 ⟨x, hx, rfl⟩⟩, fun x hx => by
    obtain ⟨y, hy⟩ := hx
    obtain ⟨v, hv, e⟩ := List.mem_map.1 hy
    injection e with e1 e2
    subst e1; exact .inr (.inl hv)⟩
end
inductive Steps (evs : List Ev) (f : St) (y : Int) : Nat → Int → Prop
  | zero : Steps evs f y 0 y
  | succ {k : Nat} {x z : Int} (h : Steps evs f y k x) (hz : z ∈ sq evs f x) : Steps evs f y (k + 1) z
theorem Bfs.dist {evs : List Ev} {f : St} {y : Int} {met : List (Int × Int)} {lev : Int → Nat} (h : Bfs evs f [y] none met [] lev) (hy : Met met y) : ∀ k z, Steps evs f y k z → Met met z ∧ lev z ≤ k := by
  intro k z hs
  induction hs with
  | zero => exact ⟨hy, Nat.le_of_eq (h.root y (by simp))⟩
  | succ hs hz ih =>
    rcases h.done _ ih.1 with h1 | h1 | h1
    · cases h1
    · simp at h1
    · have := h1 _ hz; exact ⟨this.1, by omega⟩
theorem Bfs.steps {evs : List Ev} {f : St} {y : Int} {met : List (Int × Int)} {lev : Int → Nat} (h : Bfs evs f [y] none met [] lev) : ∀ n z, lev z = n → Met met z → Steps evs f y n z := by
  intro n
  induction n with
  | zero =>
    rintro z hl ⟨v, hv⟩
    rcases h.par z v hv with ⟨h1, _, _⟩ | ⟨_, _, h3⟩
    · simp at h1; subst h1; exact .zero
    · omega
  | succ n ih =>
    rintro z hl ⟨v, hv⟩
    rcases h.par z v hv with ⟨_, _, h3⟩ | ⟨h1, h2, h3⟩
    · omega
    · exact .succ (ih v (by omega) h2) h1
end Go.Proofs.YtbhiaeciiphelaaGreatDoor
namespace Go.Proofs.YtbhiaeciiphelaaGreatDoor
open Go.RowKit Go.Shelf
abbrev kI : Int → Value := fun a => .int .i64 a
abbrev kP : Nat → Value := fun b => .pointer (some ⟨b, 0, none⟩)
structure SB where
  l : Nat
  s : Nat
  m : Nat
  n : Nat
  ms : Nat
  mm : Nat
def seenAt (m : List (Int × Nat)) (sm : List (Nat × Int)) (k : Nat) : Nat := match m[k]? with
  | some x => ((getG sm x.2).getD 0).toNat
  | none => 0
structure SMem (wR W : World) (B : SB) (L : Nat) (m : List (Int × Nat)) (met : List (Int × Int)) (next : List Int) (sm : List (Nat × Int)) : Prop where
  kept : Keeps wR W
  hl : W.heap[B.l]? = some (.cells #[.pointer (some ⟨L, 0, none⟩)] 93 (0, 0))
  hs : W.heap[B.s]? = some (.cells #[.map (some B.ms)] 177 (0, 0))
  hm : W.heap[B.m]? = some (.cells #[.map (some B.mm)] 137 (0, 0))
  mapS : MapG W B.ms kP sm
  mapM : MapG W B.mm kI met
  row : ∃ v, W.heap[B.n]? = some (.cells #[v] 35 (0, 0)) ∧ Tail W wR.heap.size v next
  keys : ∀ p ∈ sm, ∃ (k : Nat) (y : Int), m[k]? = some (y, p.1)
  spans : ∀ (k : Nat) (y : Int) (b : Nat), m[k]? = some (y, b) → b < wR.heap.size ∧ ∃ c t, wR.heap[b]? = some (.cells c t (0, 0))
  bnd : (m.map (·.2)).Nodup
  pos : ∀ p ∈ sm, 0 ≤ p.2 ∧ p.2 ≤ 60001
  ne : B.ms ≠ B.mm
  nb : wR.heap.size ≤ B.l ∧ wR.heap.size ≤ B.s ∧ wR.heap.size ≤ B.m ∧ wR.heap.size ≤ B.n ∧ wR.heap.size ≤ B.ms ∧ wR.heap.size ≤ B.mm
section
variable {wR W W' : World} {B : SB} {L : Nat} {m : List (Int × Nat)} {met : List (Int × Int)} {next : List Int} {sm : List (Nat × Int)}
theorem SMem.same (h : SMem wR W B L m met next sm) (hk : Keeps wR W') (hc : ∀ (b : Nat) (o : Obj), W.heap[b]? = some o → (b = B.l ∨ b = B.s ∨ b = B.m ∨ b = B.n ∨ b = B.ms ∨ b = B.mm ∨ ∃ c, o = .cells c 3 (0, 0)) → W'.heap[b]? = some o) :
    SMem wR W' B L m met next sm := by
  obtain ⟨v, hv1, hv2⟩ := h.row
  obtain ⟨es, cl, hs1, _⟩ := h.mapS.block
  obtain ⟨em, cm, hm1, _⟩ := h.mapM.block
  refine ⟨hk, hc _ _ h.hl (by simp), hc _ _ h.hs (by simp), hc _ _ h.hm (by simp), h.mapS.same ?_, h.mapM.same ?_, ⟨v, hc _ _ hv1 (by simp), hv2.same fun g hg => ?_⟩, h.keys, h.spans, h.bnd, h.pos, h.ne, h.nb⟩
  · rw [hc _ _ hs1 (by simp), hs1]
  · rw [hc _ _ hm1 (by simp), hm1]
  · obtain ⟨_, cur, hcur⟩ := hv2.block hg
    rw [hc _ _ hcur (by simp), hcur]
theorem SMem.alloc (h : SMem wR W B L m met next sm) (o : Obj) : SMem wR (W.alloc o) B L m met next sm := h.same (Kept.alloc h.kept o) fun _ _ hb _ => heap_alloc_old _ hb
theorem SMem.drew (h : SMem wR W B L m met next sm) : SMem wR W.drew B L m met next sm := h.same (Kept.drew h.kept) fun _ _ hb _ => hb
theorem SMem.drewN (h : SMem wR W B L m met next sm) (q : Nat) : SMem wR (W.drewN q) B L m met next sm := h.same (Kept.drewN h.kept q) fun _ _ hb _ => hb
theorem SMem.putObj (h : SMem wR W B L m met next sm) {b : Nat} {o : Obj} (o' : Obj) (hb : wR.heap.size ≤ b) (hs : b ≠ B.ms) (hm : b ≠ B.mm) (ho : W.heap[b]? = some o) (hc : o.isCells = false) : SMem wR (W.putObj b o') B L m met next sm := by
  obtain ⟨v, hv1, hv2⟩ := h.row
  have hb2 := below_putObj (h.kept.below (B := wR.heap.size) (Nat.le_refl _) (fun _ x => x.elim)) hb o'
  refine h.same ⟨hb2.os, hb2.tape, hb2.output, hb2.size, fun k hk _ => hb2.block k hk⟩ fun k o2 hk h3 => ?_
  rw [World.putObj_heap_other (fun e => ?_)]
  · exact hk
  · subst e
    rw [ho] at hk
    injection hk with hk
    subst hk
    rcases h3 with e | e | e | e | e | e | ⟨c, e⟩
    · rw [e, h.hl] at ho; cases ho; cases hc
    · rw [e, h.hs] at ho; cases ho; cases hc
    · rw [e, h.hm] at ho; cases ho; cases hc
    · rw [e, hv1] at ho; cases ho; cases hc
    · exact hs e
    · exact hm e
    · subst e; cases hc
theorem SMem.box (h : SMem wR W B L m met next sm) {b : Nat} (hb : wR.heap.size ≤ b) {c : Array Value} (ho : W.heap[b]? = some (.cells c 99 (0, 0))) (v : Value) : SMem wR (W.setCell ⟨b, 0, none⟩ v) B L m met next sm := by
  obtain ⟨v0, hv1, hv2⟩ := h.row
  refine h.same (Kept.one0 h.kept hb _ _) fun k o hk h3 => ?_
  rw [heap_set_other _ (fun e => ?_)]
  · exact hk
  · subst e
    rw [ho] at hk
    injection hk with hk
    subst hk
    obtain ⟨es, cl, hs1, _⟩ := h.mapS.block
    obtain ⟨em, cm, hm1, _⟩ := h.mapM.block
    rcases h3 with e | e | e | e | e | e | ⟨c', e⟩
    · rw [e, h.hl] at ho; simp at ho
    · rw [e, h.hs] at ho; simp at ho
    · rw [e, h.hm] at ho; simp at ho
    · rw [e, hv1] at ho; simp at ho
    · rw [e, hs1] at ho; simp at ho
    · rw [e, hm1] at ho; simp at ho
    · simp at e
theorem SMem.okP (h : SMem wR W B L m met next sm) {k : Nat} {y : Int} {b : Nat} (hb : m[k]? = some (y, b)) : ∃ c t, W.heap[b]? = some (.cells c t (0, 0)) := by
  obtain ⟨_, c, t, h1⟩ := h.spans k y b hb
  exact ⟨c, t, h.kept.at h1 (fun x => x)⟩
theorem SMem.oks (h : SMem wR W B L m met next sm) : ∀ p ∈ sm, ∃ c t, W.heap[p.1]? = some (.cells c t (0, 0)) := fun p hp => by
  obtain ⟨k, y, hk⟩ := h.keys p hp
  exact h.okP hk
theorem SMem.seen (h : SMem wR W B L m met next sm) {k : Nat} {y : Int} {b : Nat} (hb : m[k]? = some (y, b)) : (getG sm b).getD 0 = (seenAt m sm k : Nat) ∧ seenAt m sm k ≤ 60001 := by
  unfold seenAt
  rw [hb]
  simp only
  cases hg : getG sm b with
  | none => simp
  | some v =>
    have := h.pos _ (getG_mem hg)
    simp only [Option.getD_some]
    simp only at this
    omega
theorem SMem.lookS (h : SMem wR W B L m met next sm) {k : Nat} {y : Int} {b : Nat} (hb : m[k]? = some (y, b)) : (Instr.lookup 177 (.map (some B.ms)) (.pointer (some ⟨b, 0, none⟩)) false).run Tryz.prog W = .ok (.int .i64 (seenAt m sm k : Nat)) W := by
  have := h.mapS.look keyP h.oks b (h.okP hb) false
  rw [(h.seen hb).1] at this
  exact this
theorem SMem.lookM (h : SMem wR W B L m met next sm) (z : Int) (co : Bool) : (Instr.lookup 137 (.map (some B.mm)) (.int .i64 z) co).run Tryz.prog W = .ok (if co then .tuple #[.int .i64 ((getG met z).getD 0), .bool (getG met z).isSome] else .int .i64 ((getG met z).getD 0)) W :=
  h.mapM.look keyI (fun _ _ => trivial) z trivial co
theorem SMem.putS (h : SMem wR W B L m met next sm) {k : Nat} {y : Int} {b : Nat} (hb : m[k]? = some (y, b)) {v : Nat} (hv : v ≤ 60001) :
    ∃ w' sm', (Instr.mapUpdate 177 (.map (some B.ms)) (.pointer (some ⟨b, 0, none⟩)) (.int .i64 (v : Int))).run Tryz.prog W = .ok () w' ∧ Kept (fun b => b = B.ms) W w' ∧ w'.heap.size = W.heap.size ∧ SMem wR w' B L m met next sm' ∧ ∀ j, j < m.length → seenAt m sm' j = if j = k then v else seenAt m sm j := by
  obtain ⟨w', sm', h1, h2, h3, h4, h5, h6⟩ := h.mapS.put keyP h.oks b (h.okP hb) (v : Int)
  obtain ⟨v0, hv1, hv2⟩ := h.row
  obtain ⟨es, cl, hs1, _⟩ := h.mapS.block
  obtain ⟨em, cm, hm1, _⟩ := h.mapM.block
  have hmem : ∀ p ∈ sm', p = (b, (v : Int)) ∨ p ∈ sm := fun p hp => by
    have hg := getG_some h4.nd (show (p.1, p.2) ∈ sm' from hp)
    rw [h5] at hg
    by_cases e : p.1 = b
    · rw [if_pos e] at hg; injection hg with hg; left; rw [← e, hg]
    · rw [if_neg e] at hg; right; exact getG_mem hg
  have other : ∀ (g : Nat) (c : Array Value) (t : TypeId) (fr : Nat × Nat), W.heap[g]? = some (.cells c t fr) → w'.heap[g]? = some (.cells c t fr) := fun g c t fr hg => h2.at hg (fun e => by rw [e, hs1] at hg; simp at hg)
  refine ⟨w', sm', h1, h2, h3, ⟨Kept.trans h.kept h2 (fun x hx e => by have := h.nb; omega), other _ _ _ _ h.hl, other _ _ _ _ h.hs, other _ _ _ _ h.hm, h4, h.mapM.same (h2.block _ h.mapM.lt (fun e => h.ne e.symm)), ⟨v0, other _ _ _ _ hv1, hv2.same fun g hg => ?_⟩, fun p hp => ?_, h.spans, h.bnd, fun p hp => ?_, h.ne, h.nb⟩, fun j hj => ?_⟩
  · obtain ⟨_, cur, hcur⟩ := hv2.block hg
    rw [other _ _ _ _ hcur, hcur]
  · rcases hmem p hp with rfl | hp
    · exact ⟨k, y, hb⟩
    · exact h.keys p hp
  · rcases hmem p hp with rfl | hp
    · exact ⟨Int.natCast_nonneg _, Int.ofNat_le.2 hv⟩
    · exact h.pos p hp
  · unfold seenAt
    rw [List.getElem?_eq_getElem hj]
    simp only
    rw [h5]
    by_cases e : j = k
    · subst e
      rw [List.getElem?_eq_getElem hj] at hb
      have hb := Option.some.inj hb
      rw [if_pos rfl, if_pos (by rw [hb])]; simp only [Option.getD_some, Int.toNat_natCast]
    · rw [if_neg e, if_neg (fun ee => e ?_)]
      have e1 : (m.map (·.2))[j]? = some b := by rw [List.getElem?_map, List.getElem?_eq_getElem hj, ← ee]; rfl
      have e2 : (m.map (·.2))[k]? = some b := by rw [List.getElem?_map, hb]; rfl
      exact (List.getElem?_inj (List.getElem?_eq_some_iff.1 e1).1 h.bnd).1 (e1.trans e2.symm)
theorem SMem.putM (h : SMem wR W B L m met next sm) {z : Int} (hz : getG met z = none) (x : Int) :
    ∃ w', (Instr.mapUpdate 137 (.map (some B.mm)) (.int .i64 z) (.int .i64 x)).run Tryz.prog W = .ok () w' ∧ Kept (fun b => b = B.mm) W w' ∧ w'.heap.size = W.heap.size ∧ SMem wR w' B L m (met ++ [(z, x)]) next sm := by
  obtain ⟨w', met', h1, h2, h3, h4, h5, h6⟩ := h.mapM.put keyI (fun _ _ => trivial) z trivial x
  rw [h6 hz] at h4
  obtain ⟨v0, hv1, hv2⟩ := h.row
  obtain ⟨es, cl, hs1, _⟩ := h.mapS.block
  obtain ⟨em, cm, hm1, _⟩ := h.mapM.block
  have other : ∀ (g : Nat) (c : Array Value) (t : TypeId) (fr : Nat × Nat), W.heap[g]? = some (.cells c t fr) → w'.heap[g]? = some (.cells c t fr) := fun g c t fr hg => h2.at hg (fun e => by rw [e, hm1] at hg; simp at hg)
  refine ⟨w', h1, h2, h3, ⟨Kept.trans h.kept h2 (fun x hx e => by have := h.nb; omega), other _ _ _ _ h.hl, other _ _ _ _ h.hs, other _ _ _ _ h.hm, h.mapS.same (h2.block _ h.mapS.lt h.ne), h4, ⟨v0, other _ _ _ _ hv1, hv2.same fun g hg => ?_⟩, h.keys, h.spans, h.bnd, h.pos, h.ne, h.nb⟩⟩
  obtain ⟨_, cur, hcur⟩ := hv2.block hg
  rw [other _ _ _ _ hcur, hcur]
theorem SMem.push (h : SMem wR W B L m met next sm) {z : Int} {ad : Addr} (hx : W.cell? ad = some (.int .i64 z)) (hl : next.length ≤ 1000000000) (ty : TypeId) {v : Value} (hv : W.heap[B.n]? = some (.cells #[v] 35 (0, 0))) :
    ∃ (p4 : Option Addr) (n4 c4 : Nat) (w' : World), (Builtin.append_ #[35, 35] ty #[v, .slice (some ad) 1 1]).run Tryz.prog W = .ok (.slice p4 n4 c4) w' ∧ (∀ (g : Nat) (c : Array Value) (t : TypeId) (fr : Nat × Nat), W.heap[g]? = some (.cells c t fr) → t ≠ 3 ∨ g < wR.heap.size → w'.heap[g]? = some (.cells c t fr)) ∧ KeepNC (fun _ => False) W w' ∧ SMem wR (w'.setCell ⟨B.n, 0, none⟩ (.slice p4 n4 c4)) B L m met (next ++ [z]) sm ∧ (∀ (g : Nat) (o : Obj), W.heap[g]? = some o → v.ownBlock ≠ some g → w'.heap[g]? = some o) ∧ ∀ g, (Value.slice p4 n4 c4).ownBlock = some g → v.ownBlock = some g ∨ W.heap.size ≤ g := by
  obtain ⟨v0, hv1, hv2⟩ := h.row
  rw [hv] at hv1
  injection hv1 with hv1
  injection hv1 with hv1
  have hv1 : v = v0 := by simpa using hv1
  subst hv1
  obtain ⟨v', w', h1, h2, h3, h4⟩ := hv2.app h.kept.size hx hl ty
  obtain ⟨p4, c4, hv4⟩ := h2.form
  subst hv4
  obtain ⟨es, cl, hs1, _⟩ := h.mapS.block
  obtain ⟨em, cm, hm1, _⟩ := h.mapM.block
  have notown : ∀ (g : Nat) (o : Obj), W.heap[g]? = some o → (∀ c, o ≠ .cells c 3 (0, 0)) ∨ g < wR.heap.size → some g ≠ v.ownBlock := by
    intro g o hg ho e
    obtain ⟨hb, cur, hcur⟩ := hv2.block e.symm
    rw [hg] at hcur
    injection hcur with hcur
    rcases ho with ho | ho
    · exact ho _ hcur
    · omega
  have same : ∀ (g : Nat) (o : Obj), W.heap[g]? = some o → (∀ c, o ≠ .cells c 3 (0, 0)) ∨ g < wR.heap.size → w'.heap[g]? = some o := by
    intro g o hg ho
    rw [h3.block g (heap_lt hg) (notown g o hg ho)]; exact hg
  have hn : w'.heap[B.n]? = some (.cells #[v] 35 (0, 0)) := same _ _ hv (.inl (fun c => by simp))
  have hk1 : Keeps wR w' := Kept.trans h.kept (⟨h3.os, h3.tape, h3.output, h3.size, fun k hk hne => h3.block k hk hne⟩ : Kept (fun b => some b = v.ownBlock) W w') (fun x hx e => by obtain ⟨hb, _⟩ := hv2.block e.symm; omega)
  have oth : ∀ (g : Nat) (o : Obj), W.heap[g]? = some o → (∀ c, o ≠ .cells c 3 (0, 0)) → g ≠ B.n → (w'.setCell ⟨B.n, 0, none⟩ (.slice p4 (next ++ [z]).length c4)).heap[g]? = some o := by
    intro g o hg ho hne
    rw [heap_set_other _ hne]; exact same g o hg (.inl ho)
  refine ⟨p4, _, c4, w', h1, fun g c t fr hg ht => ?_, ?_, ⟨Kept.one0 hk1 h.nb.2.2.2.1 _ _, oth _ _ h.hl (by simp) ?_, oth _ _ h.hs (by simp) ?_, oth _ _ h.hm (by simp) ?_, h.mapS.same ?_, h.mapM.same ?_, ⟨_, ?_, h2.same fun g hg => heap_set_other _ ?_⟩, h.keys, h.spans, h.bnd, h.pos, h.ne, h.nb⟩, fun g o hg hne => by rw [h3.block g (heap_lt hg) (fun e => hne e.symm)]; exact hg, h4⟩
  · refine same g _ hg ?_
    rcases ht with ht | ht
    · exact .inl fun c e => by simp at e; exact ht e.2.1
    · exact .inr ht
  · exact (KeepNC.refl _ W).grown h3 fun k hk o ho => by
      obtain ⟨_, cur, hcur⟩ := hv2.block hk
      rw [hcur] at ho; cases ho; rfl
  · intro e; have := h.hl; rw [e, hv] at this; simp at this
  · intro e; have := h.hs; rw [e, hv] at this; simp at this
  · intro e; have := h.hm; rw [e, hv] at this; simp at this
  · rw [oth _ _ hs1 (by simp) (fun e => by rw [e, hv] at hs1; simp at hs1), hs1]
  · rw [oth _ _ hm1 (by simp) (fun e => by rw [e, hv] at hm1; simp at hm1), hm1]
  · rw [heap_set_same hn]; rfl
  · intro e
    obtain ⟨_, cur, hcur⟩ := h2.block hg
    rw [e, hn] at hcur; simp at hcur
end
end Go.Proofs.YtbhiaeciiphelaaGreatDoor
namespace Go.Proofs.YtbhiaeciiphelaaGreatDoor
open Go.RowKit Go.Shelf
attribute [local go_sem] Oper.semAt_some
theorem wpListIn_append_run {F : Fence} {n : Nat} {P : Program} {w : World} {ops : Array Oper} {rest : List Oper} {o : Oper} {a : Act} {Q : Exit → Act → World → Prop}
    (hg : o.guard = none) (s x : Operand) (t : TypeId) (hop : o.op = Op.call { callee := Callee.builtin Builtin.append, args := #[s, x], argTypes := #[t, t] })
    {v xv v' : Value} {w' : World} (hs : a.eval s = v) (hx : a.eval x = xv) (hrun : (Builtin.append_ #[t, t] o.type #[v, xv]).run P w = .ok v' w') (hK : wpListIn F n P ops Q rest (a.put o.dst v') w') :
    wpListIn F n P ops Q (o :: rest) a w := by
  refine wpListIn_plain hg fun K hK' => ?_
  unfold Oper.wpIn
  refine ⟨?_, ?_⟩
  · simp [Oper.about, hop, resolve, Target.leads, Sem.run_pure]
  · rw [Oper.semAt_plain F _ _ (by rw [hop]; intro c hc'; cases hc')]
    simp [execOp, hop, resolve, invoke, builtin, hs, hx, hrun, Result.andThen]
    exact hK' _ _ hK
def exOf (wl : List (Nat × Nat)) : Nat → Option Nat
  | 0 => none
  | i + 1 => wl[i]?.map (·.1)
structure Seen (evs : List Ev) (f : St) (fr : List Int) (x : Int) (wR W : World) (B : SB) (L : Nat) (m : List (Int × Nat)) (d : Int × Nat) (a : Option Int) (ex : Option Nat) (met : List (Int × Int)) (next : List Int) (sm : List (Nat × Int)) (lev : Int → Nat) : Prop where
  mem : SMem wR W B L m met next sm
  spr : Spr evs f fr a ex met next (seenAt m sm)
  bfs : Bfs evs f fr a met next lev
  bal : (met.length : Int) - next.length = d.1 ∧ d.2 ≤ met.length
def UJ (evs : List Ev) (f : St) (fr : List Int) (x : Int) (wR : World) (B : SB) (L : Nat) (m : List (Int × Nat)) (d : Int × Nat) (wl : List (Nat × Nat)) (bx b5 b6 : Nat) (b0 : Nat) (k0 : Nat) (s : Value) (i : Nat) (W : World) : Prop :=
  ∃ met next sm lev, Seen evs f fr x wR W B L m d (some x) (exOf wl i) met next sm lev ∧ W.heap[bx]? = some (.cells #[s] 99 (0, 0)) ∧ W.heap[b5]? = some (.cells #[.int .i64 x] 3 (0, 0)) ∧ W.heap[b6]? = some (.cells #[.pointer (some ⟨b0, 0, none⟩)] 99 (0, 0)) ∧
    (∃ v, W.heap[B.n]? = some (.cells #[v] 35 (0, 0)) ∧ v.ownBlock ≠ some b5) ∧ ∀ c, 0 < i → wl[0]? = some (k0, c) → c < seenAt m sm k0
section
variable {evs : List Ev} {f : St} {fr : List Int} {x : Int} {wR W : World} {B : SB} {L : Nat} {m : List (Int × Nat)} {d : Int × Nat} {a : Option Int} {ex : Option Nat} {met : List (Int × Int)} {next : List Int} {sm : List (Nat × Int)} {lev : Int → Nat} {wl : List (Nat × Nat)} {bx b5 b6 b0 k0 : Nat} {s : Value} {i : Nat}
theorem Seen.mems (h : Seen evs f fr x wR W B L m d a ex met next sm lev) {W' : World} (hm : SMem wR W' B L m met next sm) : Seen evs f fr x wR W' B L m d a ex met next sm lev := ⟨hm, h.spr, h.bfs, h.bal⟩
theorem Seen.close (h : Seen evs f fr x wR W B L m d (some x) none met next sm lev) {W' : World} (hm : SMem wR W' B L m met next sm) (hsq : ∀ z ∈ sq evs f x, Met met z) : Seen evs f fr x wR W' B L m d none none met next sm lev :=
  ⟨hm, h.spr.fin hsq, h.bfs.fin hsq, h.bal⟩
theorem UJ.alloc (h : UJ evs f fr x wR B L m d wl bx b5 b6 b0 k0 s i W) (o : Obj) : UJ evs f fr x wR B L m d wl bx b5 b6 b0 k0 s i (W.alloc o) := by
  obtain ⟨met, next, sm, lev, h1, h2, h3, h4, ⟨v5, h6, h7⟩, h5⟩ := h
  exact ⟨met, next, sm, lev, h1.mems (h1.mem.alloc o), heap_alloc_old _ h2, heap_alloc_old _ h3, heap_alloc_old _ h4, ⟨v5, heap_alloc_old _ h6, h7⟩, h5⟩
theorem UJ.drew (h : UJ evs f fr x wR B L m d wl bx b5 b6 b0 k0 s i W) : UJ evs f fr x wR B L m d wl bx b5 b6 b0 k0 s i W.drew := by
  obtain ⟨met, next, sm, lev, h1, h2, h3, h4, ⟨v5, h6, h7⟩, h5⟩ := h
  exact ⟨met, next, sm, lev, h1.mems h1.mem.drew, h2, h3, h4, ⟨v5, h6, h7⟩, h5⟩
theorem UJ.drewN (h : UJ evs f fr x wR B L m d wl bx b5 b6 b0 k0 s i W) (q : Nat) : UJ evs f fr x wR B L m d wl bx b5 b6 b0 k0 s i (W.drewN q) := by
  obtain ⟨met, next, sm, lev, h1, h2, h3, h4, ⟨v5, h6, h7⟩, h5⟩ := h
  exact ⟨met, next, sm, lev, h1.mems (h1.mem.drewN q), h2, h3, h4, ⟨v5, h6, h7⟩, h5⟩
theorem UJ.box (h : UJ evs f fr x wR B L m d wl bx b5 b6 b0 k0 s i W) (hb : wR.heap.size ≤ bx) (hne : b6 ≠ bx) (v : Value) : UJ evs f fr x wR B L m d wl bx b5 b6 b0 k0 v i (W.setCell ⟨bx, 0, none⟩ v) := by
  obtain ⟨met, next, sm, lev, h1, h2, h3, h4, ⟨v5, h6, h7⟩, h5⟩ := h
  exact ⟨met, next, sm, lev, h1.mems (h1.mem.box hb h2 v), by rw [heap_set_same h2]; rfl, by rw [heap_set_other _ (fun e => by rw [e, h2] at h3; simp at h3)]; exact h3, by rw [heap_set_other _ hne]; exact h4, ⟨v5, by rw [heap_set_other _ (fun e => by rw [e, h2] at h6; simp at h6)]; exact h6, h7⟩, h5⟩
theorem UJ.putObj (h : UJ evs f fr x wR B L m d wl bx b5 b6 b0 k0 s i W) {b : Nat} {o : Obj} (o' : Obj) (hb : wR.heap.size ≤ b) (hs : b ≠ B.ms) (hm : b ≠ B.mm) (ho : W.heap[b]? = some o) (hc : o.isCells = false) : UJ evs f fr x wR B L m d wl bx b5 b6 b0 k0 s i (W.putObj b o') := by
  obtain ⟨met, next, sm, lev, h1, h2, h3, h4, ⟨v5, h6, h7⟩, h5⟩ := h
  have key : ∀ (k : Nat) (c : Array Value) (t : TypeId) (fr : Nat × Nat), W.heap[k]? = some (.cells c t fr) → (W.putObj b o').heap[k]? = some (.cells c t fr) := fun k c t fr hk => by
    rw [World.putObj_heap_other (fun e => by subst e; rw [hk] at ho; cases ho; cases hc)]
    exact hk
  exact ⟨met, next, sm, lev, h1.mems (h1.mem.putObj o' hb hs hm ho hc), key _ _ _ _ h2, key _ _ _ _ h3, key _ _ _ _ h4, ⟨v5, key _ _ _ _ h6, h7⟩, h5⟩
theorem KeepNC.keptX {X S : Nat → Prop} {A C D : World} (h : KeepNC X A C) (hk : Kept S C D) (hS : ∀ b, S b → X b) : KeepNC X A D :=
  ⟨Nat.le_trans h.size hk.size, fun b o hx hb ho => by rw [hk.block b (lt_of_block (h.same b o hx hb ho)) (fun e => hx (hS b e))]; exact h.same b o hx hb ho⟩
theorem neq_ptr {W0 : World} {b b' : Nat} (h : ∃ c t, W0.heap[b]? = some (.cells c t (0, 0))) (h' : ∃ c t, W0.heap[b']? = some (.cells c t (0, 0))) : (binOp .neq 99 (.pointer (some ⟨b, 0, none⟩)) (.pointer (some ⟨b', 0, none⟩))).run Tryz.prog W0 = .ok (.bool (decide (b ≠ b'))) W0 := by
  have hq : (Op.equal 99 (.pointer (some ⟨b, 0, none⟩)) (.pointer (some ⟨b', 0, none⟩))).run Tryz.prog W0 = .ok (decide (b = b')) W0 := Ex.equal_ptr (e := 103) (n := 4) (by kernel_rfl) (by kernel_rfl) (by decide) _ _ (by
    by_cases e : b = b'
    · subst e; rw [Ex.sameAddr_same]; simp
    · obtain ⟨c1, t1, h1⟩ := h
      obtain ⟨c2, t2, h2⟩ := h'
      rw [Ex.sameAddr_other e h1 h2, decide_eq_false e])
  simp only [binOp]
  simp [hq]
theorem cut_reads {W0 : World} {pp : Option Addr} {l : List Nat} {cc lo hi : Nat} (h1 : lo ≤ hi) (h2 : hi ≤ l.length) (h3 : l.length ≤ cc) (hc : ∀ (j r : Nat), l[j]? = some r → ∃ g, pp = some ⟨g, 0, none⟩ ∧ W0.cell? ⟨g, j, none⟩ = some (.int .i64 r)) :
    ∃ pl, (if cc = lo then pp else Option.map (fun x => x.add lo) pp) = pl ∧ ∀ (j r : Nat), j < hi - lo → l[lo + j]? = some r → ∃ g o, pl = some ⟨g, o, none⟩ ∧ W0.cell? ⟨g, o + j, none⟩ = some (.int .i64 r) := by
  refine ⟨_, rfl, fun j r hj hr => ?_⟩
  obtain ⟨g, rfl, hg⟩ := hc _ _ hr
  have hl := (List.getElem?_eq_some_iff.1 hr).1
  rw [if_neg (by omega)]
  refine ⟨g, lo, ?_, hg⟩
  simp only [Option.map_some, Addr.add]
  split
  · subst_vars; rfl
  · simp
theorem Ways.prev {sps : List Sp} {o : Option Nat} {t : Nat} (hw : Ways sps o t wl) {k c : Nat} (h : wl[i + 1]? = some (k, c)) : ∃ kp cp pk q, wl[i]? = some (kp, cp) ∧ sps[kp]? = some pk ∧ pk.outer = some k ∧ sps[k]? = some q ∧ (q.reads.filter fun r => decide (r < pk.frm)).length = c := by
  have hi : i < wl.length := by have := (List.getElem?_eq_some_iff.1 h).1; omega
  obtain ⟨pk, hpk, h1⟩ := hw.step i _ (List.getElem?_eq_getElem hi)
  rcases h1 with ⟨_, h2⟩ | ⟨j, q, h2, h3, h4⟩
  · rw [h] at h2; cases h2
  · rw [h] at h4
    injection h4 with h4
    injection h4 with e1 e2
    subst e1
    exact ⟨_, _, pk, q, List.getElem?_eq_getElem hi, hpk, h2, h3, e2.symm⟩
theorem Ways.less {sps : List Sp} (ho : ∀ (k : Nat) (p : Sp) (j : Nat), sps[k]? = some p → p.outer = some j → j < k) {t : Nat} (hw : Ways sps (some k0) t wl) : ∀ (i : Nat) (k c : Nat), wl[i + 1]? = some (k, c) → k < k0 := by
  intro i
  induction i with
  | zero =>
    intro k c h
    obtain ⟨kp, cp, pk, q, h1, h2, h3, h4, _⟩ := hw.prev h
    obtain ⟨p, hp, hx0⟩ := hw.head
    rw [hx0] at h1
    injection h1 with h1
    injection h1 with e1 e2
    subst e1
    exact ho _ pk k h2 h3
  | succ i ih =>
    intro k c h
    obtain ⟨kp, cp, pk, q, h1, h2, h3, h4, _⟩ := hw.prev h
    exact Nat.lt_trans (ho _ pk k h2 h3) (ih kp cp h1)
theorem Seen.done (h : Seen evs f fr x wR W B L m d (some x) (exOf wl i) met next sm lev) (hro : readOf evs = some f) (hix : idxOf f x = some k0) (hw : Ways f.sps (some k0) evs.length wl) (hi : 0 < i) (h0 : ∀ c, wl[0]? = some (k0, c) → c < seenAt m sm k0)
    (hx : wl[i]? = none ∧ i = wl.length ∨ ∃ k c, wl[i]? = some (k, c) ∧ c < seenAt m sm k) {W' : World} (hm : SMem wR W' B L m met next sm) : Seen evs f fr x wR W' B L m d none none met next sm lev := by
  obtain ⟨i, rfl⟩ : ∃ j, i = j + 1 := ⟨i - 1, by omega⟩
  have hs : Spr evs f fr (some x) none met next (seenAt m sm) := by
    refine h.spr.last fun k hk => ?_
    simp only [exOf, Option.map_eq_some_iff] at hk
    obtain ⟨⟨k', c'⟩, hk1, rfl⟩ := hk
    obtain ⟨pk, hpk, h1⟩ := hw.step i _ hk1
    refine ⟨pk, hpk, fun j q hj hq => ?_⟩
    rcases h1 with ⟨h2, _⟩ | ⟨j', q', h2, h3, h4⟩
    · rw [hj] at h2; cases h2
    · rw [hj] at h2
      injection h2 with h2
      subst h2
      rw [hq] at h3; injection h3 with h3; subst h3
      rcases hx with ⟨hx, _⟩ | ⟨k2, c2, hx, hlt⟩
      · rw [hx] at h4; cases h4
      · rw [hx] at h4
        injection h4 with h4
        injection h4 with e1 e2
        subst e1 e2
        exact hlt
  have hsq : ∀ z ∈ sq evs f x, Met met z := by
    intro z hz
    obtain ⟨y, hy, r, hr, rfl⟩ := gath_at.1 ((mem_gath hro hix hw z).1 hz)
    obtain ⟨j, hj⟩ := List.mem_iff_getElem?.1 hy
    obtain ⟨p, hp, _⟩ := hw.step j y hj
    have e : readsOf f y.1 = p.reads := by unfold readsOf; rw [hp]
    rw [e] at hr
    exact hs.ways hw (fun k hk c hc => by injection hk with hk; subst hk; exact h0 c hc) y hy p hp r hr
  exact ⟨hm, hs.fin hsq, h.bfs.fin hsq, h.bal⟩
theorem Seen.through (h : Seen evs f fr x wR W B L m d (some x) (exOf wl i) met next sm lev) (hlen : m.length = f.sps.length) {t : Nat} (hw : Ways f.sps (some k0) t wl) {k c : Nat} {p : Sp} (hx : wl[i]? = some (k, c)) (hp : f.sps[k]? = some p) (hrd : ∀ r ∈ p.reads.take c, Met met (addrAt evs r)) {W' : World} {sm' : List (Nat × Int)} (hm : SMem wR W' B L m met next sm')
    (hs : ∀ j, j < m.length → seenAt m sm' j = if j = k then max (seenAt m sm k) (c + 1) else seenAt m sm j) : Seen evs f fr x wR W' B L m d (some x) (exOf wl (i + 1)) met next sm' lev := by
  refine ⟨hm, ?_, h.bfs, h.bal⟩
  have e : exOf wl (i + 1) = some k := by simp [exOf, hx]
  rw [e]
  refine h.spr.see hp hrd (fun j hj => ?_) (fun j => ?_)
  · cases i with
    | zero => cases hj
    | succ i =>
      simp only [exOf, Option.map_eq_some_iff] at hj
      obtain ⟨y, hy, rfl⟩ := hj
      obtain ⟨kp, cp, pk, q, h1, h2, h3, h4, h5⟩ := hw.prev hx
      rw [hy] at h1
      injection h1 with h1
      subst h1
      rw [hp] at h4; injection h4 with h4; subst h4
      exact ⟨pk, h2, h3, h5⟩
  · by_cases hj : j < m.length
    · exact hs j hj
    · have hn : m[j]? = none := List.getElem?_eq_none (by omega)
      have e1 : ∀ s, seenAt m s j = 0 := fun s => by unfold seenAt; rw [hn]
      rw [e1, e1]
      by_cases e2 : j = k
      · subst e2
        have := (List.getElem?_eq_some_iff.1 hp).1
        omega
      · rw [if_neg e2]
end
end Go.Proofs.YtbhiaeciiphelaaGreatDoor
