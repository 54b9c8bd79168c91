/-
  Insert. Conditions: each theorem's own hypotheses on memory.
-/
import Derived.Test.YtijceljhpbdnnaaGrow
import Derived.BigQuiet
import Derived.WalkMore
namespace Go.Proofs.Ytijceljhpbdnnaa
open Go.RowKit

set_option maxRecDepth 100000 in
theorem insert_no (l v : Value) (w : World) (hf : Calls Try.prog 34 #[l, v] w fun e w' => e = .returned (.pointer none) ∧ w = w') :
    Calls Try.prog 16 #[l, v] w fun e w' => e = .returned (.tuple #[.int .i64 0, .int .i64 180]) ∧ w = w' := by
  have Hf := Lib.hid hf
  clear hf
  go_enter Try.func16, Try.ntmps16
  go_wp2_with fail
  go_step3
  go_wp2_with fail
  refine Hf.out.mono ?_
  rintro e w' ⟨rfl, rfl⟩
  go_wp2
  rw [Exit.noGoto_ret]
  go_ret2
  exact ⟨rfl, rfl⟩
set_option maxRecDepth 100000 in
theorem insert_long (lb sb made cap ab : Nat) (v : Value) (w : World) (hf : Calls Try.prog 34 #[.pointer (some ⟨lb, 0, none⟩), v] w fun e w' => e = .returned (.pointer (some ⟨sb, 0, none⟩)) ∧ w = w')
    (c : w.cell? ⟨lb, 3, none⟩ = some (.slice (some ⟨ab, 0, none⟩) made cap)) (hm : 100000 ≤ made) :
    Calls Try.prog 16 #[.pointer (some ⟨lb, 0, none⟩), v] w fun e w' => e = .returned (.tuple #[.int .i64 0, .int .i64 2]) ∧ w = w' := by
  have Hf := Lib.hid hf
  have hm2 : (100000 : Int) ≤ (made : Int) := by omega
  clear hf
  go_enter Try.func16, Try.ntmps16
  go_wp2_with fail
  go_step3
  go_wp2_with fail
  refine Hf.out.mono ?_
  rintro e w' ⟨rfl, rfl⟩
  go_wp2
  rw [Exit.noGoto_ret]
  go_ret2
  exact ⟨rfl, rfl⟩

/-- The order with a stamp put behind place k of group g. -/
def Ord.put (O : Ord) (l : List Grp) (g : Grp) (r : List Grp) (k xb m : Nat) (all' : Value) : Ord :=
  { lb := O.lb, all := all', P := O.P ++ [some xb], gs := l ++ { g with ss := putAt g.ss k ⟨xb, O.P.length, m⟩, rest := g.rest.drop 1 } :: r, moves := O.moves }
theorem put_inv {wr w5 : World} {O : Ord} (h : Inv wr O) {l r : List Grp} {g : Grp} {k xb m : Nat} {s : Stp} {all' : Value} (e : O.gs = l ++ g :: r) (hk : g.ss[k]? = some s)
    (hx : wr.heap.size ≤ xb) (hkept : Kept (fun b => b = g.b ∨ b = O.lb ∨ O.all.ownBlock = some b) wr w5)
    (hg : w5.heap[g.b]? = some (groupObj g.tag (g.ss.length + 1) ((putAt g.ss k ⟨xb, O.P.length, m⟩).map (fun s => ptr s.b) ++ g.rest.drop 1) (lastB none l) (headB none r)))
    (hxo : w5.heap[xb]? = some (stampObj O.P.length m g.b))
    (hl : w5.heap[O.lb]? = some (listObj (headB none O.gs) O.gs.length O.moves all' ((stampsOf O.gs).length + 1)))
    (hrow : w5.ownsRow 0 67 1 all' (O.P.length + 1) ((O.P.map fun o => .pointer (optp o)) ++ [ptr xb]))
    (hn : g.ss.length < 32) (h1 : s.minor < m) (h2 : m < ceil g.ss k) (h3 : m < space) (hmade : O.P.length < 100000) : Inv w5 (O.put l g r k xb m all') := by
  have hG := h.group e
  obtain ⟨hkl, hks⟩ := List.getElem?_eq_some_iff.1 hk
  have hgm : g ∈ O.gs := by rw [e]; simp
  have hnd := h.wf.nodup
  rw [e] at hnd
  have hd : (foot l ++ (g.foot ++ foot r)).Nodup := by simpa using hnd
  have hdl := (List.nodup_append.1 hd).2.2
  have hd2 := (List.nodup_append.1 hd).2.1
  have hgr := (List.nodup_append.1 hd2).2.2
  have hgn := (List.nodup_append.1 hd2).1
  have hgf : g.b ∈ g.foot := by simp [Grp.foot]
  have hoth : ∀ k, k ∈ foot O.gs → k ≠ g.b → w5.heap[k]? = wr.heap[k]? := fun k hk hne => hkept.block k (h.own_lt (.inr (.inr hk))) (by
    rintro (e1 | e1 | e1)
    · exact hne e1
    · exact h.lb_foot (e1 ▸ hk)
    · exact (h.ab_foot e1).1 hk)
  have hplen : (putAt g.ss k ⟨xb, O.P.length, m⟩).length = g.ss.length + 1 := by simp [putAt]; omega
  have hlenS : (stampsOf (l ++ ({ g with ss := putAt g.ss k ⟨xb, O.P.length, m⟩, rest := g.rest.drop 1 } : Grp) :: r)).length = (stampsOf O.gs).length + 1 := by
    rw [e]; simp only [stampsOf_append, stampsOf_cons, List.length_append, hplen]; omega
  have hwf : Wf (O.put l g r k xb m all') := h.wf.put (g2 := { g with ss := putAt g.ss k ⟨xb, O.P.length, m⟩, rest := g.rest.drop 1 }) (x := ⟨xb, O.P.length, m⟩) e hk rfl rfl rfl rfl rfl rfl
    (fun hm => by have hm2 : xb ∈ foot O.gs := hm; have := h.own_lt (.inr (.inr hm2)); omega) h1 h2 h3 hmade (fun v hv => List.mem_of_mem_drop hv)
  have hhead : headB none (O.put l g r k xb m all').gs = headB none O.gs := by rw [e]; cases l <;> rfl
  have hlg : (O.put l g r k xb m all').gs.length = O.gs.length := by rw [e]; simp [Ord.put]
  refine ⟨?_, ?_, ?_, hwf⟩
  · rw [hhead, hlg]
    show w5.heap[O.lb]? = some (listObj _ _ O.moves all' (stampsOf (l ++ ({ g with ss := putAt g.ss k ⟨xb, O.P.length, m⟩, rest := g.rest.drop 1 } : Grp) :: r)).length)
    rw [hlenS]; exact hl
  · show w5.ownsRow 0 67 1 all' (O.P ++ [some xb]).length ((O.P ++ [some xb]).map fun o => .pointer (optp o))
    rw [List.length_append, List.map_append]
    exact hrow
  · have hseg := h.seg
    rw [e, seg_append] at hseg
    show Seg w5 none (l ++ ({ g with ss := putAt g.ss k ⟨xb, O.P.length, m⟩, rest := g.rest.drop 1 } : Grp) :: r) none
    rw [seg_append]
    refine ⟨?_, ⟨?_, ?_, ?_⟩, ?_⟩
    · exact seg_frame hseg.1 (fun k hk => hoth k (by rw [e]; simp [hk]) (fun e1 => hdl k hk g.b (by simp [hgf]) e1))
    · show w5.heap[g.b]? = some (groupObj g.tag (putAt g.ss k ⟨xb, O.P.length, m⟩).length ((putAt g.ss k ⟨xb, O.P.length, m⟩).map (fun s => ptr s.b) ++ g.rest.drop 1) (lastB none l) (headB none r))
      rw [hplen]; exact hg
    · show ((putAt g.ss k ⟨xb, O.P.length, m⟩).map (fun s => ptr s.b) ++ g.rest.drop 1).length = 32
      have := hG.2.1
      simp [Grp.arr] at this
      rw [List.length_append, List.length_map, hplen, List.length_drop]
      omega
    · intro y hy
      rcases putAt_mem (show y ∈ putAt g.ss k ⟨xb, O.P.length, m⟩ from hy) with rfl | hy
      · exact hxo
      · show w5.heap[y.b]? = _
        have hyf : y.b ∈ foot O.gs := by rw [e]; simp only [foot_append, foot_cons, Grp.foot, List.mem_append, List.mem_cons, List.mem_map]; exact .inr (.inl (.inr ⟨y, hy, rfl⟩))
        rw [hoth y.b hyf (fun e1 => (List.nodup_cons.1 hgn).1 (by rw [← e1]; exact List.mem_map.2 ⟨y, hy, rfl⟩))]
        exact hG.2.2 y hy
    · exact seg_frame hseg.2.2 (fun k hk => hoth k (by rw [e]; simp [hk]) (fun e1 => hgr g.b hgf k hk e1.symm))
end Go.Proofs.Ytijceljhpbdnnaa
