/-
  split: the second half of a full group goes to a new one. Conditions: each theorem's own hypotheses on memory.
-/
import Derived.Test.YtijceljhpbdnnaaAfterD
import Derived.Test.YtijceljhpbdnnaaCopy
import Derived.Deep.MidRow
import Derived.Deep.WholeRow
namespace Go.Proofs.Ytijceljhpbdnnaa
open Go.RowKit

/-- A copy of a group's array cut: from place 16 to the end. -/
@[go_sem high] theorem cut_copy (w : World) (b : Nat) :
    (Instr.sliceAt 69 (.pointer (some ⟨b, 0, none⟩)) (some (.int .i64 16)) (some (.int .i64 32)) none).run Try.prog w = .ok (.slice (some ⟨b, 16, none⟩) 16 16) w := by
  rw [run_sliceAt_array_lh w 69 _ under69 .i64 .i64 16 32 (by omega) (by omega) (by rw [arrayLen69]; omega), arrayLen69, elem69, size67]
  rfl

/-- A whole array into the block that was made last: at a plain region's list. -/
theorem wpList_store_new {P : Program} {ops : Array Oper} {rest : List Oper} {o : Oper} {a : Act} {Q : Exit → Act → World → Prop} (hgd : o.guard = none) (ty : TypeId) (x y : Operand) (ho : o.op = .store ty x y)
    (w : World) (c cs : Array Value) (hx : a.eval x = .pointer (some ⟨w.heap.size, 0, none⟩)) (hy : a.eval y = .agg cs) (hi : (P.info? ty).map (·.size) = some cs.size) (hs : c.size = cs.size) (h1 : cs.all (·.oneCell') = true)
    (h : wpList P ops Q rest (a.put o.dst undef) (w.alloc (.cells cs ty))) : wpList P ops Q (o :: rest) a (w.alloc (.cells c ty)) :=
  wpList_plain hgd fun _ hK => by
    unfold Oper.wp execOp
    simp only [ho, hx, hy, Sem.run_bind, Sem.run_pure, run_storeAt_new w ty c cs hi hs h1, Result.andThen_ok]
    exact hK _ _ h
/-- A full group and a new one behind it. -/
structure Ready (W : World) (lb gb hb tag t : Nat) (ss : List Stp) (pv nx first : Option Nat) (many mv : Nat) (all : Value) (nn : Nat) : Prop where
  G : W.heap[gb]? = some (groupObj tag 32 (ss.map fun s => ptr s.b) pv (some hb))
  H : W.heap[hb]? = some (groupObj t 0 bare (some gb) nx)
  L : W.heap[lb]? = some (listObj first many mv all nn)
  S : ∀ (j : Nat) s, ss[j]? = some s → W.heap[s.b]? = some (stampObj s.id s.minor gb)
  gh : gb ≠ hb
/-- The first k of the second half are over. -/
structure Moved (W : World) (lb gb hb t : Nat) (ss : List Stp) (nx first : Option Nat) (many mv : Nat) (all : Value) (nn k : Nat) (wr : World) : Prop where
  kept : Kept (fun b => b = hb ∨ b = lb ∨ ∃ j s, ss[16 + j]? = some s ∧ s.b = b) W wr
  H : wr.heap[hb]? = some (groupObj t k (((ss.drop 16).take k).map (fun s => ptr s.b) ++ List.replicate (32 - k) (.pointer none)) (some gb) nx)
  L : wr.heap[lb]? = some (listObj first many (mv + k) all nn)
  S : ∀ (j : Nat) s, ss[16 + j]? = some s → wr.heap[s.b]? = some (stampObj s.id s.minor (if j < k then hb else gb))
theorem moved_zero {W : World} {lb gb hb tag t : Nat} {ss : List Stp} {pv nx first : Option Nat} {many mv : Nat} {all : Value} {nn : Nat} (h : Ready W lb gb hb tag t ss pv nx first many mv all nn) (o : Obj) :
    Moved (W.alloc o) lb gb hb t ss nx first many mv all nn 0 (W.alloc o) :=
  ⟨Kept.refl _ _, by rw [List.take_zero]; exact heap_alloc_old o h.H, heap_alloc_old _ h.L, fun j s hs => by simpa using heap_alloc_old o (h.S _ s hs)⟩
theorem Moved.drew {W : World} {lb gb hb t : Nat} {ss : List Stp} {nx first : Option Nat} {many mv : Nat} {all : Value} {nn k : Nat} {wr : World} (h : Moved W lb gb hb t ss nx first many mv all nn k wr) :
    Moved W lb gb hb t ss nx first many mv all nn k wr.drew := ⟨h.kept.drew, h.H, h.L, h.S⟩
/-- Block B is none of those that the loop turns. -/
theorem Moved.copy {W : World} {lb gb hb tag t : Nat} {ss : List Stp} {pv nx first : Option Nat} {many mv : Nat} {all : Value} {nn k : Nat} {wr : World} (r : Ready W lb gb hb tag t ss pv nx first many mv all nn) {o : Obj}
    (h : Moved (W.alloc o) lb gb hb t ss nx first many mv all nn k wr) : wr.heap[W.heap.size]? = some o := by
  rw [h.kept.block W.heap.size (by simp), heap_alloc_at]
  rintro (e | e | ⟨j, s, hs, e⟩)
  · have := heap_lt r.H; omega
  · have := heap_lt r.L; omega
  · have := heap_lt (r.S _ s hs); omega
theorem Moved.group {W : World} {lb gb hb tag t : Nat} {ss : List Stp} {pv nx first : Option Nat} {many mv : Nat} {all : Value} {nn k : Nat} {wr : World} (r : Ready W lb gb hb tag t ss pv nx first many mv all nn) {o : Obj}
    (h : Moved (W.alloc o) lb gb hb t ss nx first many mv all nn k wr) : wr.heap[gb]? = some (groupObj tag 32 (ss.map fun s => ptr s.b) pv (some hb)) := by
  rw [h.kept.block gb (by have := heap_lt r.G; simp; omega)]
  · exact heap_alloc_old _ r.G
  · rintro (e | e | ⟨j, s, hs, e⟩)
    · exact r.gh e
    · exact ne_list_group r.L r.G e.symm
    · exact ne_group_stamp r.G (r.S _ s hs) e.symm
theorem Moved.step {W : World} {lb gb hb t : Nat} {ss : List Stp} {nx first : Option Nat} {many mv : Nat} {all : Value} {nn k : Nat} {wr : World} (h : Moved W lb gb hb t ss nx first many mv all nn k wr)
    (hap : Apart ss) {s : Stp} (hs : ss[16 + k]? = some s) (hk : k < 16) :
    Moved W lb gb hb t ss nx first many mv all nn (k + 1)
      ((((wr.setCell ⟨hb, 2 + k, none⟩ (.pointer (some ⟨s.b, 0, none⟩))).setCell ⟨hb, 1, none⟩ (.int .i64 ((k + 1 : Nat) : Int))).setCell ⟨s.b, 2, none⟩ (.pointer (some ⟨hb, 0, none⟩))).setCell ⟨lb, 2, none⟩ (.int .i64 ((mv + k + 1 : Nat) : Int))) := by
  have hst := h.S k s hs
  have n1 := ne_list_group h.L h.H
  have n2 := ne_list_stamp h.L hst
  have n3 := ne_group_stamp h.H hst
  have hlen : (((ss.drop 16).take k).map (fun s => ptr s.b)).length = k := by
    have := (List.getElem?_eq_some_iff.1 hs).1
    simp; omega
  refine ⟨?_, ?_, ?_, ?_⟩
  · exact (((h.kept.setCell (fun _ => .inl rfl) _).setCell (fun _ => .inl rfl) _).setCell (fun _ => .inr (.inr ⟨k, s, hs, rfl⟩)) _).setCell (fun _ => .inr (.inl rfl)) _
  · rw [heap_set_other _ (Ne.symm n1), heap_set_other _ n3]
    refine group_set1 (n := k) ?_ (k + 1)
    have := group_seta h.H k (by simp only [List.length_append, hlen, List.length_replicate]; omega) (ptr s.b)
    have e : (((ss.drop 16).take k).map (fun s => ptr s.b) ++ List.replicate (32 - k) (Value.pointer none)).set k (ptr s.b) =
        ((ss.drop 16).take (k + 1)).map (fun s => ptr s.b) ++ List.replicate (32 - (k + 1)) (Value.pointer none) := by
      have hd : (ss.drop 16)[k]? = some s := by simpa using hs
      obtain ⟨hd1, hd2⟩ := List.getElem?_eq_some_iff.1 hd
      rw [List.set_append_right (h := by omega), hlen, Nat.sub_self, show 32 - k = (32 - (k + 1)) + 1 from by omega, List.replicate_succ, List.set_cons_zero, List.take_succ_eq_append_getElem hd1, hd2]
      simp
    rw [e] at this
    exact this
  · refine list_set2 (moves := mv + k) ?_ (mv + k + 1)
    rw [heap_set_other _ n2, heap_set_other _ n1, heap_set_other _ n1]
    exact h.L
  · intro j x hx
    have hx0 := h.S j x hx
    rw [heap_set_other _ (Ne.symm (ne_list_stamp h.L hx0))]
    by_cases hj : j = k
    · subst hj
      obtain rfl : s = x := by rw [hs] at hx; simpa using hx
      rw [if_pos (by omega)]
      refine stamp_set2 (g := if j < j then hb else gb) ?_ hb
      rw [heap_set_other _ (Ne.symm n3), heap_set_other _ (Ne.symm n3)]
      exact hx0
    · have hne : x.b ≠ s.b := fun e => by have := hap _ _ x s hx hs e; omega
      rw [heap_set_other _ hne, heap_set_other _ (Ne.symm (ne_group_stamp h.H hx0)), heap_set_other _ (Ne.symm (ne_group_stamp h.H hx0)), hx0]
      by_cases hlt : j < k
      · simp [hlt, Nat.lt_succ_of_lt hlt]
      · simp [hlt, show ¬ j < k + 1 from by omega]
/-- The first k places of the second half are empty. -/
def emptied (ss : List Stp) (k : Nat) : List Value := (ss.take 16).map (fun s => ptr s.b) ++ (List.replicate k (.pointer none) ++ (ss.drop (16 + k)).map (fun s => ptr s.b))
theorem emptied_zero (ss : List Stp) : emptied ss 0 = ss.map (fun s => ptr s.b) := by
  simp only [emptied, List.replicate_zero, List.nil_append, Nat.add_zero, ← List.map_append, List.take_append_drop]
theorem emptied_len {ss : List Stp} (h : ss.length = 32) {k : Nat} (hk : k ≤ 16) : (emptied ss k).length = 32 := by simp [emptied, h]; omega
theorem emptied_step {ss : List Stp} (h : ss.length = 32) {k : Nat} (hk : k < 16) : (emptied ss k).set (16 + k) (.pointer none) = emptied ss (k + 1) := by
  have h1 : ((ss.take 16).map (fun s => ptr s.b)).length = 16 := by simp [h]
  have h2 : 16 + k < ss.length := by omega
  unfold emptied
  rw [List.set_append_right (h := by omega), h1, List.set_append_right (h := by simp), List.length_replicate, show 16 + k - 16 - k = 0 from by omega, List.drop_eq_getElem_cons h2, List.map_cons, List.set_cons_zero]
  rw [List.replicate_succ', List.append_assoc]; rfl
theorem emptied_all {ss : List Stp} (h : ss.length = 32) : emptied ss 16 = (ss.take 16).map (fun s => ptr s.b) ++ List.replicate 16 (.pointer none) := by
  have : ss.drop 32 = [] := List.drop_eq_nil_of_le (by omega)
  simp [emptied, this]
structure Emptied (W : World) (gb hb tag : Nat) (ss : List Stp) (pv : Option Nat) (k : Nat) (wr : World) : Prop where
  kept : Kept (fun b => b = gb) W wr
  G : wr.heap[gb]? = some (groupObj tag 32 (emptied ss k) pv (some hb))
theorem Emptied.step {W : World} {gb hb tag : Nat} {ss : List Stp} {pv : Option Nat} {j : Nat} {wr : World} (h : Emptied W gb hb tag ss pv (j - 16) wr) (h32 : ss.length = 32) (h1 : 16 ≤ j) (h2 : j < 32) :
    Emptied W gb hb tag ss pv (j + 1 - 16) (wr.setCell ⟨gb, 2 + j, none⟩ (.pointer none)) := by
  refine ⟨h.kept.setCell (fun _ => rfl) _, ?_⟩
  have := group_seta h.G j (by rw [emptied_len h32 (by omega)]; omega) (.pointer none)
  have e := emptied_step h32 (k := j - 16) (by omega)
  rw [show 16 + (j - 16) = j from by omega, show j - 16 + 1 = j + 1 - 16 from by omega] at e
  rw [e] at this
  exact this
theorem ss_drop {ss : List Stp} (j : Nat) : (ss.drop 16)[j]? = ss[16 + j]? := by simp
/-- The two halves, ahead of the tags. -/
structure Parted (W w3 : World) (lb gb hb tag t : Nat) (ss : List Stp) (pv nx first : Option Nat) (many mv : Nat) (all : Value) (nn : Nat) : Prop where
  kept : Kept (fun b => b = gb ∨ b = hb ∨ b = lb ∨ ∃ s, s ∈ ss ∧ s.b = b) W w3
  G : GroupAt w3 pv (some hb) ⟨gb, tag, ss.take 16, List.replicate 16 (.pointer none)⟩
  H : GroupAt w3 (some gb) nx ⟨hb, t, ss.drop 16, List.replicate 16 (.pointer none)⟩
  L : w3.heap[lb]? = some (listObj first many (mv + 16) all nn)
theorem parted {W : World} {lb gb hb tag t : Nat} {ss : List Stp} {pv nx first : Option Nat} {many mv : Nat} {all : Value} {nn : Nat} {W2 wr : World} {o : Obj} (h32 : ss.length = 32) (hap : Apart ss)
    (r : Ready W lb gb hb tag t ss pv nx first many mv all nn) (m : Moved (W.alloc o) lb gb hb t ss nx first many mv all nn 16 W2) (e : Emptied W2 gb hb tag ss pv 16 wr) :
    Parted W (wr.setCell ⟨gb, 1, none⟩ (.int .i64 16)) lb gb hb tag t ss pv nx first many mv all nn := by
  have hm2 : ∀ b, (∃ j s, ss[16 + j]? = some s ∧ s.b = b) → ∃ s, s ∈ ss ∧ s.b = b := fun b ⟨j, s, hs, e⟩ => ⟨s, List.mem_of_getElem? hs, e⟩
  have hoth : ∀ b, b ≠ gb → b < W2.heap.size → (wr.setCell ⟨gb, 1, none⟩ (.int .i64 16)).heap[b]? = W2.heap[b]? := fun b hb hl => by rw [heap_set_other _ hb]; exact e.kept.block b hl hb
  have hH := m.H
  rw [List.take_of_length_le (by simp; omega)] at hH
  refine ⟨?_, ⟨?_, ?_, ?_⟩, ⟨?_, ?_, ?_⟩, ?_⟩
  · have k1 : Kept (fun b => b = gb ∨ b = hb ∨ b = lb ∨ ∃ s, s ∈ ss ∧ s.b = b) W W2 := ((Kept.refl _ W).alloc o).trans m.kept (fun x _ hx => hx.elim (fun a => .inr (.inl a)) (fun a => a.elim (fun b => .inr (.inr (.inl b))) (fun b => .inr (.inr (.inr (hm2 x b))))))
    exact (k1.trans e.kept (fun x _ hx => .inl hx)).setCell (fun _ => .inl rfl) _
  · have := group_set1 e.G 16
    rw [emptied_all h32] at this
    show _ = some (groupObj tag (ss.take 16).length ((ss.take 16).map (fun s => ptr s.b) ++ List.replicate 16 (.pointer none)) pv (some hb))
    rw [List.length_take, h32]
    exact this
  · simp [Grp.arr, h32]
  · intro s hs
    obtain ⟨j, hj, hs'⟩ := List.getElem_of_mem hs
    have hj2 : j < 16 := by simp at hj; omega
    have hs2 : ss[j]? = some s := by rw [← hs', List.getElem_take]; exact List.getElem?_eq_getElem _
    have hst := r.S j s hs2
    have hlt := heap_lt hst
    have hW2 : W2.heap[s.b]? = some (stampObj s.id s.minor gb) := by
      rw [m.kept.block s.b (by simp; omega)]
      · exact heap_alloc_old _ hst
      · rintro (e | e | ⟨k, x, hx, e⟩)
        · exact ne_group_stamp r.H hst e.symm
        · exact ne_list_stamp r.L hst e.symm
        · have := hap _ _ x s hx hs2 e; omega
    show (wr.setCell ⟨gb, 1, none⟩ (.int .i64 16)).heap[s.b]? = some (stampObj s.id s.minor gb)
    rw [hoth s.b (Ne.symm (ne_group_stamp r.G hst)) (heap_lt hW2)]
    exact hW2
  · show _ = some (groupObj t (ss.drop 16).length ((ss.drop 16).map (fun s => ptr s.b) ++ List.replicate 16 (.pointer none)) (some gb) nx)
    rw [hoth hb (Ne.symm r.gh) (heap_lt hH), List.length_drop, h32]
    exact hH
  · simp [Grp.arr, h32]
  · intro s hs
    obtain ⟨j, hj, hs'⟩ := List.getElem_of_mem hs
    have hj2 : j < 16 := by simp at hj; omega
    have hs2 : ss[16 + j]? = some s := by rw [← hs', List.getElem_drop]; exact List.getElem?_eq_getElem _
    have hst := m.S j s hs2
    rw [if_pos hj2] at hst
    show (wr.setCell ⟨gb, 1, none⟩ (.int .i64 16)).heap[s.b]? = some (stampObj s.id s.minor hb)
    rw [hoth s.b (Ne.symm (ne_group_stamp r.G (r.S _ s hs2))) (heap_lt hst)]
    exact hst
  · rw [hoth lb (ne_list_group r.L r.G) (heap_lt m.L)]
    exact m.L
theorem take_some {ss : List Stp} {j : Nat} {x : Stp} (h : (ss.take 16)[j]? = some x) : ss[j]? = some x ∧ j < 16 := by
  rw [List.getElem?_take] at h
  split at h
  · exact ⟨h, by assumption⟩
  · cases h
theorem apart_take {ss : List Stp} (h : Apart ss) : Apart (ss.take 16) := fun j k x y hj hk e => h j k x y (take_some hj).1 (take_some hk).1 e
theorem apart_drop {ss : List Stp} (h : Apart ss) : Apart (ss.drop 16) := fun j k x y hj hk e => by
  rw [ss_drop] at hj hk
  have := h _ _ x y hj hk e
  omega

/-- What split leaves. -/
structure Halved (W w' : World) (lb gb hb tag t : Nat) (ss : List Stp) (pv nx first : Option Nat) (many mv : Nat) (all : Value) (nn : Nat) : Prop where
  kept : Kept (fun b => b = gb ∨ b = hb ∨ b = lb ∨ ∃ s, s ∈ ss ∧ s.b = b) W w'
  G : w'.heap[gb]? = some (groupObj tag 16 ((ss.take 16).map (fun s => ptr s.b) ++ List.replicate 16 (.pointer none)) pv (some hb))
  H : w'.heap[hb]? = some (groupObj t 16 ((ss.drop 16).map (fun s => ptr s.b) ++ List.replicate 16 (.pointer none)) (some gb) nx)
  L : ∃ mv', mv' ≤ mv + 48 ∧ w'.heap[lb]? = some (listObj first many mv' all nn)
  S1 : ∀ (j : Nat) s, ss[j]? = some s → j < 16 → w'.heap[s.b]? = some (stampObj s.id (tagOf 16 j) gb)
  S2 : ∀ (j : Nat) s, ss[16 + j]? = some s → w'.heap[s.b]? = some (stampObj s.id (tagOf 16 j) hb)
/-- The first half has its tags. -/
structure Parted1 (W w4 : World) (lb gb hb tag t : Nat) (ss : List Stp) (pv nx first : Option Nat) (many mv : Nat) (all : Value) (nn : Nat) : Prop where
  kept : Kept (fun b => b = gb ∨ b = hb ∨ b = lb ∨ ∃ s, s ∈ ss ∧ s.b = b) W w4
  G : w4.heap[gb]? = some (groupObj tag 16 ((ss.take 16).map (fun s => ptr s.b) ++ List.replicate 16 (.pointer none)) pv (some hb))
  S1 : ∀ (j : Nat) s, ss[j]? = some s → j < 16 → w4.heap[s.b]? = some (stampObj s.id (tagOf 16 j) gb)
  H : GroupAt w4 (some gb) nx ⟨hb, t, ss.drop 16, List.replicate 16 (.pointer none)⟩
  L : ∃ mv', mv' ≤ mv + 32 ∧ w4.heap[lb]? = some (listObj first many mv' all nn)
theorem retag_first {W w3 : World} {lb gb hb tag t : Nat} {ss : List Stp} {pv nx first : Option Nat} {many mv : Nat} {all : Value} {nn : Nat} (h32 : ss.length = 32) (hap : Apart ss) (hmv : mv ≤ 900000000000)
    (p : Parted W w3 lb gb hb tag t ss pv nx first many mv all nn) :
    Calls Try.prog 37 #[.pointer (some ⟨lb, 0, none⟩), .pointer (some ⟨gb, 0, none⟩)] w3 fun e w4 => e = .returned (.tuple #[]) ∧ Parted1 W w4 lb gb hb tag t ss pv nx first many mv all nn := by
  have hl16 : (ss.take 16).length = 16 := by simp [h32]
  refine (retag_of w3 lb ⟨gb, tag, ss.take 16, List.replicate 16 (.pointer none)⟩ pv (some hb) first many (mv + 16) all nn p.G (apart_take hap) p.L (by omega)).mono ?_
  rintro _ w4 ⟨rfl, hr⟩
  have hr : RetagRel w3 lb w3.heap.size gb (ss.take 16) first many (mv + 16) all nn 16 w4 := by simpa only [hl16] using hr
  have hG : w3.heap[gb]? = some (groupObj tag 16 ((ss.take 16).map (fun s => ptr s.b) ++ List.replicate 16 (.pointer none)) pv (some hb)) := by
    have h := p.G.1
    simp only [hl16] at h
    exact h
  have hno : ∀ b, b ≠ lb → (∀ (j : Nat) s, ss[j]? = some s → j < 16 → s.b ≠ b) → b < w3.heap.size → w4.heap[b]? = w3.heap[b]? := fun b h1 h2 h3 => hr.kept.block b h3 (by
    rintro (e | ⟨s, hs, e⟩)
    · exact h1 e
    · obtain ⟨j, hj, hs'⟩ := List.getElem_of_mem hs
      have hs2 := take_some (List.getElem?_eq_some_iff.2 ⟨hj, hs'⟩)
      exact h2 j s hs2.1 hs2.2 e)
  have hst3 : ∀ (j : Nat) s, ss[j]? = some s → j < 16 → w3.heap[s.b]? = some (stampObj s.id s.minor gb) := fun j s hs hj =>
    p.G.2.2 s (List.mem_of_getElem? (i := j) (by rw [List.getElem?_take, if_pos hj]; exact hs))
  refine ⟨rfl, ⟨?_, ?_, ?_, ⟨?_, p.H.2.1, ?_⟩, ?_⟩⟩
  · exact p.kept.trans hr.kept (fun x _ hx => hx.elim (fun a => .inr (.inr (.inl a))) (fun ⟨s, hs, e⟩ => .inr (.inr (.inr ⟨s, List.mem_of_mem_take hs, e⟩))))
  · rw [hno gb (Ne.symm (ne_list_group p.L p.G.1)) (fun j s hs hj e => ne_group_stamp p.G.1 (hst3 j s hs hj) e.symm) (heap_lt hG)]
    exact hG
  · intro j s hs hj
    have := hr.stamps j s (by rw [List.getElem?_take, if_pos hj]; exact hs)
    rw [if_pos hj, hl16] at this
    exact this
  · rw [hno hb (Ne.symm (ne_list_group p.L p.H.1)) (fun j s hs hj e => ne_group_stamp p.H.1 (hst3 j s hs hj) e.symm) (heap_lt p.H.1)]
    exact p.H.1
  · intro s hs
    have hst := p.H.2.2 s hs
    obtain ⟨k, hk, hs'⟩ := List.getElem_of_mem hs
    have hs2 : ss[16 + k]? = some s := by rw [← ss_drop]; exact List.getElem?_eq_some_iff.2 ⟨hk, hs'⟩
    show w4.heap[s.b]? = _
    rw [hno s.b (Ne.symm (ne_list_stamp p.L hst)) (fun j x hx hj e => by have := hap _ _ x s hx hs2 e; omega) (heap_lt hst)]
    exact hst
  · obtain ⟨mv', h1, h2⟩ := hr.list
    exact ⟨mv', by omega, h2⟩
theorem retag_second {W w4 : World} {lb gb hb tag t : Nat} {ss : List Stp} {pv nx first : Option Nat} {many mv : Nat} {all : Value} {nn : Nat} (h32 : ss.length = 32) (hap : Apart ss) (hmv : mv ≤ 900000000000) (hgh : gb ≠ hb)
    (p : Parted1 W w4 lb gb hb tag t ss pv nx first many mv all nn) :
    Calls Try.prog 37 #[.pointer (some ⟨lb, 0, none⟩), .pointer (some ⟨hb, 0, none⟩)] w4 fun e w5 => e = .returned (.tuple #[]) ∧ Halved W w5 lb gb hb tag t ss pv nx first many mv all nn := by
  have hl16 : (ss.drop 16).length = 16 := by simp [h32]
  obtain ⟨mv', h1, hL⟩ := p.L
  refine (retag_of w4 lb ⟨hb, t, ss.drop 16, List.replicate 16 (.pointer none)⟩ (some gb) nx first many mv' all nn p.H (apart_drop hap) hL (by omega)).mono ?_
  rintro _ w5 ⟨rfl, hr⟩
  have hr : RetagRel w4 lb w4.heap.size hb (ss.drop 16) first many mv' all nn 16 w5 := by simpa only [hl16] using hr
  have hH : w4.heap[hb]? = some (groupObj t 16 ((ss.drop 16).map (fun s => ptr s.b) ++ List.replicate 16 (.pointer none)) (some gb) nx) := by
    have h := p.H.1
    simp only [hl16] at h
    exact h
  have hst4 : ∀ (j : Nat) s, ss[16 + j]? = some s → w4.heap[s.b]? = some (stampObj s.id s.minor hb) := fun j s hs =>
    p.H.2.2 s (List.mem_of_getElem? (i := j) (by rw [ss_drop]; exact hs))
  have hno : ∀ b, b ≠ lb → (∀ (j : Nat) s, ss[16 + j]? = some s → s.b ≠ b) → b < w4.heap.size → w5.heap[b]? = w4.heap[b]? := fun b h1 h2 h3 => hr.kept.block b h3 (by
    rintro (e | ⟨s, hs, e⟩)
    · exact h1 e
    · obtain ⟨j, hj, hs'⟩ := List.getElem_of_mem hs
      exact h2 j s (by rw [← ss_drop]; exact List.getElem?_eq_some_iff.2 ⟨hj, hs'⟩) e)
  refine ⟨rfl, ⟨?_, ?_, ?_, ?_, ?_, ?_⟩⟩
  · exact p.kept.trans hr.kept (fun x _ hx => hx.elim (fun a => .inr (.inr (.inl a))) (fun ⟨s, hs, e⟩ => .inr (.inr (.inr ⟨s, List.mem_of_mem_drop hs, e⟩))))
  · rw [hno gb (Ne.symm (ne_list_group hL p.G)) (fun j s hs e => ne_group_stamp p.G (hst4 j s hs) e.symm) (heap_lt p.G)]
    exact p.G
  · rw [hno hb (Ne.symm (ne_list_group hL hH)) (fun j s hs e => ne_group_stamp hH (hst4 j s hs) e.symm) (heap_lt hH)]
    exact hH
  · obtain ⟨mv2, h3, h4⟩ := hr.list
    exact ⟨mv2, by omega, h4⟩
  · intro j s hs hj
    have h5 := p.S1 j s hs hj
    rw [hno s.b (Ne.symm (ne_list_stamp hL h5)) (fun k x hx e => by have := hap _ _ x s hx hs e; omega) (heap_lt h5)]
    exact h5
  · intro j s hs
    have hj : j < 16 := by have := (List.getElem?_eq_some_iff.1 hs).1; omega
    have := hr.stamps j s (by rw [ss_drop]; exact hs)
    rw [if_pos hj, hl16] at this
    exact this
set_option maxHeartbeats 2000000 in
set_option maxRecDepth 100000 in
theorem split_walk (w : World) (lb gb : Nat) (ss : List Stp) (first : Option Nat) (many : Nat) (all : Value) (nn : Nat) (R : Nat → Nat → Nat → Option Nat → Option Nat → Nat → World → Prop) (h32 : ss.length = 32) (hap : Apart ss)
    (hA : Calls Try.prog 52 #[.pointer (some ⟨lb, 0, none⟩), .pointer (some ⟨gb, 0, none⟩)] w fun e W => ∃ hb tag t pv nx mv, e = .returned (.pointer (some ⟨hb, 0, none⟩)) ∧ mv ≤ 900000000000 ∧
      Ready W lb gb hb tag t ss pv nx first many mv all nn ∧ R hb tag t pv nx mv W) :
    Calls Try.prog 35 #[.pointer (some ⟨lb, 0, none⟩), .pointer (some ⟨gb, 0, none⟩)] w fun e w' => e = .returned (.tuple #[]) ∧ ∃ hb tag t pv nx mv W,
      R hb tag t pv nx mv W ∧ Halved W w' lb gb hb tag t ss pv nx first many mv all nn := by
  have HA := Lib.hid hA
  have H32 := Lib.hid h32
  have HP := Lib.hid hap
  clear hA h32 hap
  go_enter Try.func35, Try.ntmps35
  go_wp2_with fail
  refine HA.out.mono ?_
  rintro _ W ⟨hb, tag, t, pv, nx, mv, rfl, hmv, hr, hR⟩
  have c1 : W.cell? ⟨gb, 1, none⟩ = some (.int .i64 32) := group_c1 hr.G
  have hrg : W.rangeAt gb 2 (ss.map fun s => ptr s.b) := fun j v hv => group_ca hr.G hv
  have HI := Lib.hid hrg
  have hsz : (Try.prog.info? 69).map (·.size) = some (ss.map fun s => ptr s.b).length := by rw [List.length_map, H32.out]; kernel_rfl
  have HS := Lib.hid hsz
  clear hrg hsz
  have hgl := heap_lt hr.G
  have Hr := Lib.hid hr
  have HR := Lib.hid hR
  clear hr hR
  go_wp2_with (first | (refine wpList_load_mid rfl 69 (.tmp 20) rfl gb 2 rfl (ss.map fun s => ptr s.b) _ HI.out under69 rfl HS.out ?_) | (refine wpList_store_new rfl 69 (.tmp 6) (.tmp 21) rfl W _ (ss.map fun s => ptr s.b).toArray rfl rfl (by rw [List.size_toArray]; exact HS.out) (by simp [H32.out]) (by simp [Value.oneCell']) ?_))
  go_loopw [8, 29] (fun _ c wr => ∃ k : Nat, k ≤ 16 ∧ c = .int .i64 k ∧ Moved (W.alloc (.cells (ss.map fun s => ptr s.b).toArray 69)) lb gb hb t ss nx first many mv all nn k wr) (fun _ c _ => 16 - (intOf c).toNat)
  case atStart => exact ⟨0, by omega, rfl, moved_zero Hr.out _⟩
  case round =>
    obtain ⟨k, hk, rfl, hm⟩ := hrel
    by_cases hlt : k < 16
    · obtain ⟨s, hs⟩ : ∃ s, ss[16 + k]? = some s := ⟨ss[16 + k]'(by have := H32.out; omega), List.getElem?_eq_getElem _⟩
      have c2 : wr.cell? ⟨W.heap.size, 16 + k, none⟩ = some (.pointer (some ⟨s.b, 0, none⟩)) := by
        rw [cell_of_block (hm.copy Hr.out)]
        simp [hs]
      have c3 := group_c1 hm.H
      have f3 := group_fr hm.H 1
      have f4 := group_fr hm.H (2 + k)
      have c4 : wr.cell? ⟨hb, 2 + k, none⟩ = some (.pointer none) := by
        refine group_ca hm.H ?_
        have hl : (((ss.drop 16).take k).map (fun s => ptr s.b)).length = k := by simp [H32.out]; omega
        rw [List.getElem?_append_right (by omega), hl, Nat.sub_self, List.getElem?_replicate, if_pos (by omega)]
      have hk0 : (0 : Int) ≤ (k : Int) := by omega
      have hk1 : (k : Int) < 32 := by omega
      have hst := hm.S k s hs
      have f5 := stamp_fr hst 2
      have c6 := list_c2 hm.L
      have f6 := list_fr hm.L 2
      have c7 := stamp_c2 hst
      have n1 := ne_list_group hm.L hm.H
      have n2 := ne_list_stamp hm.L hst
      have n3 := ne_group_stamp hm.H hst
      have hstep := hm.step HP.out hs hlt
      have HST := Lib.hid hstep
      clear hstep hm hst hs
      go_wp2
      refine wp_region_tail 9 (by kernel_rfl) (by kernel_rfl) ?_
      simp only [List.take_succ_cons, List.take_zero, List.drop_succ_cons, List.drop_zero]
      repeat still_step
      refine wpStill_nil ?_
      go_wp2
      exact ⟨⟨k + 1, by omega, by go_num, HST.out.drew⟩, by simp [intOf]; omega⟩
    · obtain rfl : k = 16 := by omega
      have c2 := group_c1 (hm.group Hr.out)
      have HM := Lib.hid hm
      clear hm
      go_wp2
      obtain ⟨W2, rfl⟩ : ∃ W2 : World, W2 = wr := ⟨_, rfl⟩
      go_loopw [9] (fun c wr => ∃ j : Nat, 16 ≤ j ∧ j ≤ 32 ∧ c = .int .i64 j ∧ Emptied W2 gb hb tag ss pv (j - 16) wr) (fun c _ => 32 - (intOf c).toNat)
      case atStart => exact ⟨16, by omega, by omega, rfl, ⟨Kept.refl _ _, by rw [Nat.sub_self, emptied_zero]; exact HM.out.group Hr.out⟩⟩
      case round =>
        obtain ⟨j, hj1, hj2, rfl, he⟩ := hrel
        have d1 := group_c1 he.G
        by_cases hlt : j < 32
        · obtain ⟨v, hv⟩ : ∃ v, (emptied ss (j - 16))[j]? = some v := ⟨_, List.getElem?_eq_getElem (by rw [emptied_len H32.out (by omega)]; omega)⟩
          have d2 := group_ca he.G hv
          have g2 := group_fr he.G (2 + j)
          have hstep := he.step H32.out hj1 hlt
          have HST := Lib.hid hstep
          clear hstep he hv
          go_wp2
          exact ⟨⟨j + 1, by omega, by omega, by go_num, HST.out⟩, by simp [intOf]; omega⟩
        · obtain rfl : j = 32 := by omega
          have d2 := group_fr he.G 1
          have hp := parted H32.out HP.out Hr.out HM.out he
          have HPP := Lib.hid hp
          clear hp he
          go_wp2_with fail
          refine (retag_first H32.out HP.out hmv HPP.out).mono ?_
          rintro _ w4 ⟨rfl, hp1⟩
          have HP1 := Lib.hid hp1
          clear hp1
          go_wp2_with fail
          refine (retag_second H32.out HP.out hmv Hr.out.gh HP1.out).mono ?_
          rintro _ w5 ⟨rfl, hh⟩
          have HH := Lib.hid hh
          clear hh
          go_wp2
          go_end0
          exact ⟨rfl, hb, tag, t, pv, nx, mv, W, HR.out, HH.out⟩
end Go.Proofs.Ytijceljhpbdnnaa
