/-
  Insert into a group that has room. Conditions: each theorem's own hypotheses on memory.
-/
import Derived.Test.YtijceljhpbdnnaaInsertW
import Derived.OneCell
import Derived.Maps.AppendAt
namespace Go.Proofs.Ytijceljhpbdnnaa
open Go.RowKit

theorem info67 : (Try.prog.info? 67).map (fun i => (i.zero, i.size, i.bytes)) = some (some (.pointer none), 1, 8) := by kernel_rfl
set_option maxHeartbeats 8000000 in
set_option maxRecDepth 100000 in
theorem insert_plain (w : World) (O : Ord) (v : Value) (l r : List Grp) (g : Grp) (k : Nat) (s : Stp) (lb sb made : Nat) (h : Inv w O) (e : O.gs = l ++ g :: r) (hk : g.ss[k]? = some s) (hn : g.ss.length < 32) (hlb : O.lb = lb) (hsb : s.b = sb) (hPP : O.P.length = made)
    (hmade : made < 100000) (hmv : O.moves ≤ 800000000000)
    (hf : Calls Try.prog 34 #[.pointer (some ⟨lb, 0, none⟩), v] w fun e w' => e = .returned (.pointer (some ⟨sb, 0, none⟩)) ∧ w = w') :
    Calls Try.prog 16 #[.pointer (some ⟨lb, 0, none⟩), v] w fun e w' => e = .returned (.tuple #[.int .i64 made, .int .i64 0]) ∧ ∃ ss mv xb m all', Inserted w w' O l g r k ss mv xb m all' := by
  obtain ⟨ab, cap, cur, hall, hg, hc1, hc2, ht⟩ := h.table
  have hG := h.group e
  have c1 := list_c3 h.list
  rw [hall] at c1
  have c2 := group_c1 hG.1
  have hst := hG.2.2 s (List.mem_of_getElem? hk)
  have c3 := stamp_c2 hst
  have hpl := place_ord h e hk
  have hroom0 : ∀ m, Roomy w O l g r g.ss O.moves (w.drewN m) := fun m => ⟨by rw [show O.tagged l g r g.ss O.moves = O from by cases O; simp only [Ord.tagged] at e ⊢; rw [e]]; exact h.drewN m, .inl ⟨rfl, rfl⟩, (Kept.refl _ _).drewN m⟩
  have hm1 : decide ((100000 : Int) ≤ (made : Int)) = false := by simp; omega
  have hn1 : ((g.ss.length : Int) == 32) = false := by simp; omega
  rw [hlb] at c1
  rw [hPP] at hall c1
  rw [hsb] at c3 hpl
  have HF := Lib.hid hf
  clear hf
  have HR0 := Lib.hid hroom0
  have HP := Lib.hid hpl
  have HI := Lib.hid h
  have HK := Lib.hid hk
  have HE := Lib.hid e
  clear hroom0 hpl h hk e ht hg hc1 hc2 hG hst
  generalize hgb : g.b = gb at *
  generalize hNN : g.ss.length = n at *
  have HGB := Lib.hid hgb
  have HSB := Lib.hid hsb
  have HLB := Lib.hid hlb
  have HNN := Lib.hid hNN
  have HPP := Lib.hid hPP
  have HALL := Lib.hid hall
  have HMD := Lib.hid hmade
  have HMV := Lib.hid hmv
  clear hgb hsb hlb hNN hPP hmade hmv hall
  obtain ⟨i0, hi, hz0, hz1, hz2⟩ := info_parts info67
  go_enter Try.func16, Try.ntmps16
  go_wp2_with fail
  go_step3
  go_wp2_with fail
  refine HF.out.mono ?_
  rintro _ w' ⟨rfl, rfl⟩
  go_wp2_with fail
  refine HP.out.mono ?_
  rintro _ w' ⟨rfl, m, rfl⟩
  go_wp2_with fail
  go_step3
  go_wp2_with fail
  go_loopw [9, 10] (fun _ _ wr => ∃ ss mv, Roomy w O l g r ss mv wr) (fun _ _ wr => lacks sb ((g.ss[k + 1]?).map (·.b)) wr)
  case atStart => exact ⟨_, _, HR0.out m⟩
  case round =>
    obtain ⟨ss, mv, hr⟩ := hrel
    obtain ⟨t, ht, htb, htid⟩ := hr.at HK.out
    have hG : GroupAt wr (lastB none l) (headB none r) { g with ss := ss } := hr.inv.group (l := l) (r := r) rfl
    have hssl := hr.length
    rw [HNN.out] at hssl
    have d1 : wr.cell? ⟨gb, 1, none⟩ = some (.int .i64 n) := by have := group_c1 hG.1; rw [← HGB.out]; rw [← hssl]; exact this
    have d2 : wr.cell? ⟨sb, 1, none⟩ = some (.int .i64 t.minor) := by rw [← HSB.out, ← htb]; exact stamp_c1 (hG.2.2 t (List.mem_of_getElem? ht))
    have hsm : t.minor < 1099511627776 := hr.inv.wf.minorLt t (by
      show t ∈ stampsOf (l ++ { g with ss := ss } :: r)
      simp only [stampsOf_append, stampsOf_cons, List.mem_append]
      exact .inr (.inl (List.mem_of_getElem? ht)))
    have hkn : k < n := by rw [← HNN.out]; exact (List.getElem?_eq_some_iff.1 HK.out).1
    have hw1 : IntKind.i64.wrap ((k : Int) + 1) = (k : Int) + 1 := IntWalk.i64_in _ (by omega)
    by_cases hnx : k + 1 < n
    · obtain ⟨y, hy⟩ : ∃ y, ss[k + 1]? = some y := ⟨ss[k + 1]'(by omega), List.getElem?_eq_getElem _⟩
      have hceil : ceil ss k = y.minor := by unfold ceil; rw [hy]
      have hx1 : (k : Int) + 1 < (n : Int) := by omega
      have hx2 : ((k : Int) + 1).toNat = k + 1 := by omega
      have hx3 : (0 : Int) ≤ (k : Int) + 1 := by omega
      have hx4 : (k : Int) + 1 < 32 := by omega
      have d0 : wr.cell? ⟨gb, 2 + (k + 1), none⟩ = some (.pointer (some ⟨y.b, 0, none⟩)) := by
        rw [← HGB.out]
        refine group_ca hG.1 ?_
        show (ss.map (fun s => ptr s.b) ++ g.rest)[k + 1]? = _
        rw [List.getElem?_append_left (by simp; omega), List.getElem?_map, hy]; rfl
      have d00 : wr.cell? ⟨y.b, 1, none⟩ = some (.int .i64 y.minor) := stamp_c1 (hG.2.2 y (List.mem_of_getElem? hy))
      have hym : y.minor < 1099511627776 := hr.inv.wf.minorLt y (by
        show y ∈ stampsOf (l ++ { g with ss := ss } :: r)
        simp only [stampsOf_append, stampsOf_cons, List.mem_append]
        exact .inr (.inl (List.mem_of_getElem? hy)))
      have hty : t.minor < y.minor := pairwise_lt (hr.inv.wf.minors { g with ss := ss } (by simp [Ord.tagged])) ht hy (by omega)
      generalize y.minor = c at *
      generalize y.b = yb at *
      clear hy
      by_cases hgap : t.minor + 2 ≤ ceil ss k
      · have HRR := Lib.hid hr
        have HT := Lib.hid ht
        clear hr hG ht
        rw [hceil] at hgap
        generalize hsmm : t.minor = sm at *
        have hq : ((c : Int) - (sm : Int)) / 2 = (((c - sm) / 2 : Nat) : Int) := by omega
        have HQ := Lib.hid hq
        clear hq
        go_wp2_with fail
        go_quiet (fail)
        have hr0 : Roomy w O l g r ss mv (wr.drewN nq) := ⟨HRR.out.inv.drewN nq, HRR.out.alt, HRR.out.kept.drewN nq⟩
        generalize wr.drewN nq = W0 at hr0 ⊢
        have hG0 : GroupAt W0 (lastB none l) (headB none r) { g with ss := ss } := hr0.inv.group (l := l) (r := r) rfl
        have G0 : W0.heap[gb]? = some (groupObj g.tag n (ss.map (fun s => ptr s.b) ++ g.rest) (lastB none l) (headB none r)) := by
          have := hG0.1
          rw [← HGB.out, ← hssl]; exact this
        have hlen32 : (ss.map (fun s => ptr s.b) ++ g.rest).length = 32 := hG0.2.1
        have L0 := hr0.inv.list
        simp only [Ord.tagged] at L0
        rw [HLB.out, HALL.out] at L0
        have row0 := hr0.inv.row
        simp only [Ord.tagged] at row0
        rw [HALL.out, HPP.out] at row0
        have hab := hr0.inv.ab_foot (ab := ab) (by simp only [Ord.tagged]; rw [HALL.out]; rfl)
        have habg : gb ≠ ab := fun e1 => hab.1 (by rw [← e1, ← HGB.out]; exact mem_foot_group (g := { g with ss := ss }) (by simp [Ord.tagged]))
        have hablb : ab ≠ lb := by have := hab.2; simp only [Ord.tagged] at this; rw [HLB.out] at this; exact this
        have habl : ab < W0.heap.size := hr0.inv.own_lt (.inr (.inl (by simp only [Ord.tagged]; rw [HALL.out]; rfl)))
        have hne := ne_list_group L0 G0
        have hgl := heap_lt G0
        have hll := heap_lt L0
        have e1 := list_c3 L0
        have e2 := group_c1 G0
        have hk31 : k + 2 ≤ 32 := by omega
        have hk4 : IntKind.i64.wrap ((k : Int) + 2) = (k : Int) + 2 := IntWalk.i64_in _ (by omega)
        have hk5 : ((k : Int) + 2).toNat = k + 2 := by omega
        have hk6 : ((k : Int) + 1).toNat = k + 1 := by omega
        have hk7 : (0 : Int) ≤ (k : Int) + 2 := by omega
        have hk8 : (0 : Int) ≤ (k : Int) + 1 := by omega
        have hk9 : (k : Int) + 2 ≤ 32 := by omega
        have hk10 : (k : Int) + 1 ≤ (n : Int) := by omega
        have hn32 : n ≤ 32 := by omega
        have hMM : (sm : Int) + ((c : Int) - (sm : Int)) / 2 = ((sm + (c - sm) / 2 : Nat) : Int) := by omega
        rw [hMM]
        have hmb : t.minor < sm + (c - sm) / 2 ∧ sm + (c - sm) / 2 < ceil ss k ∧ sm + (c - sm) / 2 < space := by rw [hceil, hsmm]; unfold space; omega
        generalize sm + (c - sm) / 2 = mm at hmb ⊢
        have HMB := Lib.hid hmb
        have HR0' := Lib.hid hr0
        have HG0 := Lib.hid G0
        have HL0 := Lib.hid L0
        have HROW := Lib.hid row0
        have HLEN := Lib.hid hlen32
        clear hmb hMM hr0 G0 L0 row0 hlen32 hG0 hab
        go_wp2_with fail
        refine wp_region_tail 16 (by kernel_rfl) (by kernel_rfl) ?_
        simp only [List.take_succ_cons, List.take_zero, List.drop_succ_cons, List.drop_zero]
        repeat still_step
        refine wpStill_nil ?_
        refine wpList_copy_group rfl (.tmp 103) (.tmp 113) rfl _ _ _ _ _ _ rfl rfl gb g.tag n (ss.map (fun s => ptr s.b) ++ g.rest) (lastB none l) (headB none r) (heap_alloc_old _ HG0.out) (k + 2) ((ss.drop (k + 1)).map fun s => ptr s.b) ?_ ?_ ?_ ?_ ?_
        · rw [List.length_map, List.length_drop, hssl]; show _ = min _ _; omega
        · intro h0
          rw [List.length_map, List.length_drop, hssl] at h0
          refine ⟨by rw [cutOff_lt (by omega)], k + 1, by rw [cutOff_lt (by omega)], fun j v hj => ?_⟩
          rw [List.getElem?_append_left (by have := (List.getElem?_eq_some_iff.1 hj).1; simp at this ⊢; omega), List.getElem?_map]
          rw [List.getElem?_map, List.getElem?_drop] at hj
          exact hj
        · rw [HLEN.out, List.length_map, List.length_drop, hssl]; omega
        · intro v hv
          obtain ⟨y, _, rfl⟩ := List.mem_map.1 hv
          rfl
        · intro w1 hK hG1
          have kw1 : Kept (fun b => b = gb) W0 w1 := (((Kept.refl (fun b => b = gb) W0).alloc _).drew).trans hK (fun x _ hx => hx)
          have hsz1 : W0.heap.size + 1 ≤ w1.heap.size := by have := hK.size; simp at this; omega
          have X1 : w1.heap[W0.heap.size]? = some (.cells #[.int .i64 made, .int .i64 (mm : Int), .pointer (some ⟨gb, 0, none⟩)] 73 (0, 0)) := by
            rw [hK.block W0.heap.size (by simp) (by omega)]; exact heap_alloc_at W0 _
          have L1 : w1.heap[lb]? = _ := (kw1.block lb hll hne).trans HL0.out
          have row1 : w1.ownsRow 0 67 1 (.slice (some ⟨ab, 0, none⟩) made cap) made (O.P.map fun o => .pointer (optp o)) := by
            obtain ⟨q1, q2⟩ := HROW.out
            refine ⟨q1, ?_⟩
            rcases q2 with q2 | ⟨q, cap', cur', hv, hz, hg, hrest⟩
            · exact .inl q2
            · cases hv
              exact .inr ⟨ab, cap, cur', rfl, hz, by rw [kw1.block ab habl (Ne.symm habg)]; exact hg, hrest⟩
          have hlen2 : (splice (ss.map (fun s => ptr s.b) ++ g.rest) (k + 2) ((ss.drop (k + 1)).map fun s => ptr s.b)).length = 32 := by
            rw [length_splice _ _ _ (by rw [HLEN.out, List.length_map, List.length_drop, hssl]; omega), HLEN.out]
          obtain ⟨u, hu⟩ : ∃ u, (splice (ss.map (fun s => ptr s.b) ++ g.rest) (k + 2) ((ss.drop (k + 1)).map fun s => ptr s.b))[k + 1]? = some u := ⟨_, List.getElem?_eq_getElem (by rw [hlen2]; omega)⟩
          have d3 := group_ca hG1 hu
          have d4 := group_c1 hG1
          have d5 := fun o => group_fr hG1 o
          have d6 := list_c3 L1
          have d7 := list_c4 L1
          have d8 := fun o => list_fr L1 o
          have d9 : w1.cell? ⟨W0.heap.size, 0, none⟩ = some (.int .i64 made) := by rw [cell_of_block X1]; rfl
          have hgl1 : gb < w1.heap.size := by omega
          have hll1 : lb < w1.heap.size := by omega
          have hnx1 : gb ≠ W0.heap.size := by omega
          have hnx2 : lb ≠ W0.heap.size := by omega
          have hkk : (k : Int) + 1 < 32 := by omega
          have hnab : (Value.slice (some ⟨ab, 0, none⟩) made cap).ownBlock ≠ some gb := by simp [Value.ownBlock]; omega
          have HNAB := Lib.hid hnab
          generalize hxb : W0.heap.size = xb at *
          generalize hnn : (stampsOf (l ++ { b := g.b, tag := g.tag, ss := ss, rest := g.rest } :: r)).length = nn at *
          have hnnb : nn ≤ 100000 := by
            have h1 := HR0'.out.inv.wf.stamps_le
            have h2 := HR0'.out.inv.wf.made
            simp only [Ord.tagged] at h1 h2
            omega
          have HXB := Lib.hid hxb
          have HNNN := Lib.hid hnn
          have HK1 := Lib.hid kw1
          have HX1 := Lib.hid X1
          have HL1 := Lib.hid L1
          have HROW1 := Lib.hid row1
          have HG1 := Lib.hid hG1
          have HLEN2 := Lib.hid hlen2
          clear hxb hnn kw1 X1 L1 row1 hG1 hlen2 hu hK d0 d00 d1 d2 c1 c2 c3 e1 e2 hnab
          go_wp2_with (at_builtin; refine wpList_append_kin rfl (.tmp 133) (.tmp 135) 64 rfl 0 67 i0 (.pointer none) 1 8 elem64 hi hz0 hz1 hz2 rfl (by decide) (.slice (some ⟨ab, 0, none⟩) made cap) made (O.P.map fun o => .pointer (optp o)) rfl ((ownsRow_setCell_other (ownsRow_setCell_other HROW1.out HNAB.out _) HNAB.out _).alloc _) ⟨w1.heap.size, 0, none⟩ 1 1 [.pointer (some ⟨xb, 0, none⟩)] rfl rfl (by intro j u hj; have := cell_one_new ((w1.setCell ⟨gb, 2 + (k + 1), none⟩ (.pointer (some ⟨xb, 0, none⟩))).setCell ⟨gb, 1, none⟩ (.int .i64 ((n : Int) + 1))) (.pointer (some ⟨xb, 0, none⟩)) 67 j u hj; simpa [World.setCell] using this) (by simp [Value.oneCell']) (by have := HMD.out; unfold maxLen; omega) (by have := HMD.out; omega) (Nat.zero_le _) ?_; intro v2 w2 hown2 hgrow2 hkin2; obtain ⟨g2, cap2, rfl⟩ := ownsRow_succ hown2; have hbl : ∀ b, b < w1.heap.size → b ≠ gb → b ≠ ab → w2.heap[b]? = w1.heap[b]? := (fun b hb h1 h2 => by rw [hgrow2.block b (by simp [World.setCell]; omega) (fun e1 => h2 (Option.some.inj e1)), Below.heap_alloc _ _ _ (by simpa [World.setCell] using hb), heap_set_other _ h1, heap_set_other _ h1]); have hL2 := (hbl lb hll1 (by omega) (by omega)).trans HL1.out; have f6 := list_c3 hL2; have f7 := list_c4 hL2; have f8 := (fun o => list_fr hL2 o); have f9 : w2.cell? ⟨xb, 0, none⟩ = some (.int .i64 made) := (by have h9 := (hbl xb (by omega) (by omega) (by omega)).trans HX1.out; rw [cell_of_block h9]; rfl); have HO2 := Lib.hid hown2; have HG2 := Lib.hid hgrow2; have HK2 := Lib.hid hkin2; clear hown2 hgrow2 hkin2 hbl hL2 d3 d4 d5 d6 d7 d8 d9)
          rw [Exit.noGoto_ret]
          go_ret2
          exact ⟨rfl, ss, mv, xb, mm, _, insert_fin (s := t) HR0'.out HE.out HT.out HGB.out HLB.out HNN.out HPP.out HALL.out hn HMD.out HXB.out HMB.out.1 HMB.out.2.1 HMB.out.2.2 HK1.out hsz1 HX1.out (by rw [← HNNN.out] at HL1; exact HL1.out) HG1.out HLEN2.out HO2.out HG2.out HK2.out nn HNNN.out⟩
      · have hnext := hr.next HE.out (fun x hx => (tagged_own HE.out hr.core x).1 hx) HMV.out ht (by omega) (by rw [HNN.out]; omega)
        rw [HGB.out, HLB.out] at hnext
        have hmeas := hr.lacks ht
        rw [if_neg hgap] at hmeas
        rw [htb, HSB.out] at hmeas
        have HRR := Lib.hid hr
        have HNX := Lib.hid hnext
        have HT := Lib.hid ht
        have HMEAS := Lib.hid hmeas
        clear hr hG ht hnext hmeas
        rw [hceil] at hgap
        generalize hsmm : t.minor = sm at *
        go_wp2_with fail
        refine HNX.out.mono ?_
        rintro _ w2 ⟨rfl, mv2, hr2⟩
        have HR2 := Lib.hid hr2
        clear hr2
        go_wp2_with fail
        refine ⟨⟨_, _, HR2.out⟩, ?_⟩
        have h3 := HR2.out.lacks (reminor_at HK.out)
        rw [if_pos (reminor_gap (by rw [HNN.out]; omega) (reminor_at HK.out))] at h3
        have h4 : ({ s with minor := tagOf g.ss.length k } : Stp).b = sb := HSB.out
        rw [h4] at h3
        rw [h3, HMEAS.out]; omega
    · have hceil : ceil ss k = 1099511627776 := by unfold ceil; rw [List.getElem?_eq_none (by omega)]
      have hx1 : ¬ ((k : Int) + 1 < (n : Int)) := by omega
      by_cases hgap : t.minor + 2 ≤ ceil ss k
      · have HRR := Lib.hid hr
        have HT := Lib.hid ht
        clear hr hG ht
        rw [hceil] at hgap
        generalize hsmm : t.minor = sm at *
        have hq : ((1099511627776 : Int) - (sm : Int)) / 2 = (((1099511627776 - sm) / 2 : Nat) : Int) := by omega
        have HQ := Lib.hid hq
        clear hq
        go_wp2_with fail
        go_quiet (fail)
        have hr0 : Roomy w O l g r ss mv (wr.drewN nq) := ⟨HRR.out.inv.drewN nq, HRR.out.alt, HRR.out.kept.drewN nq⟩
        generalize wr.drewN nq = W0 at hr0 ⊢
        have hG0 : GroupAt W0 (lastB none l) (headB none r) { g with ss := ss } := hr0.inv.group (l := l) (r := r) rfl
        have G0 : W0.heap[gb]? = some (groupObj g.tag n (ss.map (fun s => ptr s.b) ++ g.rest) (lastB none l) (headB none r)) := by
          have := hG0.1
          rw [← HGB.out, ← hssl]; exact this
        have hlen32 : (ss.map (fun s => ptr s.b) ++ g.rest).length = 32 := hG0.2.1
        have L0 := hr0.inv.list
        simp only [Ord.tagged] at L0
        rw [HLB.out, HALL.out] at L0
        have row0 := hr0.inv.row
        simp only [Ord.tagged] at row0
        rw [HALL.out, HPP.out] at row0
        have hab := hr0.inv.ab_foot (ab := ab) (by simp only [Ord.tagged]; rw [HALL.out]; rfl)
        have habg : gb ≠ ab := fun e1 => hab.1 (by rw [← e1, ← HGB.out]; exact mem_foot_group (g := { g with ss := ss }) (by simp [Ord.tagged]))
        have hablb : ab ≠ lb := by have := hab.2; simp only [Ord.tagged] at this; rw [HLB.out] at this; exact this
        have habl : ab < W0.heap.size := hr0.inv.own_lt (.inr (.inl (by simp only [Ord.tagged]; rw [HALL.out]; rfl)))
        have hne := ne_list_group L0 G0
        have hgl := heap_lt G0
        have hll := heap_lt L0
        have e1 := list_c3 L0
        have e2 := group_c1 G0
        have hk31 : k + 2 ≤ 32 := by omega
        have hk4 : IntKind.i64.wrap ((k : Int) + 2) = (k : Int) + 2 := IntWalk.i64_in _ (by omega)
        have hk5 : ((k : Int) + 2).toNat = k + 2 := by omega
        have hk6 : ((k : Int) + 1).toNat = k + 1 := by omega
        have hk7 : (0 : Int) ≤ (k : Int) + 2 := by omega
        have hk8 : (0 : Int) ≤ (k : Int) + 1 := by omega
        have hk9 : (k : Int) + 2 ≤ 32 := by omega
        have hk10 : (k : Int) + 1 ≤ (n : Int) := by omega
        have hn32 : n ≤ 32 := by omega
        have hMM : (sm : Int) + (1099511627776 - (sm : Int)) / 2 = ((sm + (1099511627776 - sm) / 2 : Nat) : Int) := by omega
        rw [hMM]
        have hmb : t.minor < sm + (1099511627776 - sm) / 2 ∧ sm + (1099511627776 - sm) / 2 < ceil ss k ∧ sm + (1099511627776 - sm) / 2 < space := by rw [hceil, hsmm]; unfold space; omega
        generalize sm + (1099511627776 - sm) / 2 = mm at hmb ⊢
        have HMB := Lib.hid hmb
        have HR0' := Lib.hid hr0
        have HG0 := Lib.hid G0
        have HL0 := Lib.hid L0
        have HROW := Lib.hid row0
        have HLEN := Lib.hid hlen32
        clear hmb hMM hr0 G0 L0 row0 hlen32 hG0 hab
        go_wp2_with fail
        refine wp_region_tail 16 (by kernel_rfl) (by kernel_rfl) ?_
        simp only [List.take_succ_cons, List.take_zero, List.drop_succ_cons, List.drop_zero]
        repeat still_step
        refine wpStill_nil ?_
        refine wpList_copy_group rfl (.tmp 103) (.tmp 113) rfl _ _ _ _ _ _ rfl rfl gb g.tag n (ss.map (fun s => ptr s.b) ++ g.rest) (lastB none l) (headB none r) (heap_alloc_old _ HG0.out) (k + 2) ((ss.drop (k + 1)).map fun s => ptr s.b) ?_ ?_ ?_ ?_ ?_
        · rw [List.length_map, List.length_drop, hssl]; show _ = min _ _; omega
        · intro h0
          rw [List.length_map, List.length_drop, hssl] at h0
          refine ⟨by rw [cutOff_lt (by omega)], k + 1, by rw [cutOff_lt (by omega)], fun j v hj => ?_⟩
          rw [List.getElem?_append_left (by have := (List.getElem?_eq_some_iff.1 hj).1; simp at this ⊢; omega), List.getElem?_map]
          rw [List.getElem?_map, List.getElem?_drop] at hj
          exact hj
        · rw [HLEN.out, List.length_map, List.length_drop, hssl]; omega
        · intro v hv
          obtain ⟨y, _, rfl⟩ := List.mem_map.1 hv
          rfl
        · intro w1 hK hG1
          have kw1 : Kept (fun b => b = gb) W0 w1 := (((Kept.refl (fun b => b = gb) W0).alloc _).drew).trans hK (fun x _ hx => hx)
          have hsz1 : W0.heap.size + 1 ≤ w1.heap.size := by have := hK.size; simp at this; omega
          have X1 : w1.heap[W0.heap.size]? = some (.cells #[.int .i64 made, .int .i64 (mm : Int), .pointer (some ⟨gb, 0, none⟩)] 73 (0, 0)) := by
            rw [hK.block W0.heap.size (by simp) (by omega)]; exact heap_alloc_at W0 _
          have L1 : w1.heap[lb]? = _ := (kw1.block lb hll hne).trans HL0.out
          have row1 : w1.ownsRow 0 67 1 (.slice (some ⟨ab, 0, none⟩) made cap) made (O.P.map fun o => .pointer (optp o)) := by
            obtain ⟨q1, q2⟩ := HROW.out
            refine ⟨q1, ?_⟩
            rcases q2 with q2 | ⟨q, cap', cur', hv, hz, hg, hrest⟩
            · exact .inl q2
            · cases hv
              exact .inr ⟨ab, cap, cur', rfl, hz, by rw [kw1.block ab habl (Ne.symm habg)]; exact hg, hrest⟩
          have hlen2 : (splice (ss.map (fun s => ptr s.b) ++ g.rest) (k + 2) ((ss.drop (k + 1)).map fun s => ptr s.b)).length = 32 := by
            rw [length_splice _ _ _ (by rw [HLEN.out, List.length_map, List.length_drop, hssl]; omega), HLEN.out]
          obtain ⟨u, hu⟩ : ∃ u, (splice (ss.map (fun s => ptr s.b) ++ g.rest) (k + 2) ((ss.drop (k + 1)).map fun s => ptr s.b))[k + 1]? = some u := ⟨_, List.getElem?_eq_getElem (by rw [hlen2]; omega)⟩
          have d3 := group_ca hG1 hu
          have d4 := group_c1 hG1
          have d5 := fun o => group_fr hG1 o
          have d6 := list_c3 L1
          have d7 := list_c4 L1
          have d8 := fun o => list_fr L1 o
          have d9 : w1.cell? ⟨W0.heap.size, 0, none⟩ = some (.int .i64 made) := by rw [cell_of_block X1]; rfl
          have hgl1 : gb < w1.heap.size := by omega
          have hll1 : lb < w1.heap.size := by omega
          have hnx1 : gb ≠ W0.heap.size := by omega
          have hnx2 : lb ≠ W0.heap.size := by omega
          have hkk : (k : Int) + 1 < 32 := by omega
          have hnab : (Value.slice (some ⟨ab, 0, none⟩) made cap).ownBlock ≠ some gb := by simp [Value.ownBlock]; omega
          have HNAB := Lib.hid hnab
          generalize hxb : W0.heap.size = xb at *
          generalize hnn : (stampsOf (l ++ { b := g.b, tag := g.tag, ss := ss, rest := g.rest } :: r)).length = nn at *
          have hnnb : nn ≤ 100000 := by
            have h1 := HR0'.out.inv.wf.stamps_le
            have h2 := HR0'.out.inv.wf.made
            simp only [Ord.tagged] at h1 h2
            omega
          have HXB := Lib.hid hxb
          have HNNN := Lib.hid hnn
          have HK1 := Lib.hid kw1
          have HX1 := Lib.hid X1
          have HL1 := Lib.hid L1
          have HROW1 := Lib.hid row1
          have HG1 := Lib.hid hG1
          have HLEN2 := Lib.hid hlen2
          clear hxb hnn kw1 X1 L1 row1 hG1 hlen2 hu hK d1 d2 c1 c2 c3 e1 e2 hnab
          go_wp2_with (at_builtin; refine wpList_append_kin rfl (.tmp 133) (.tmp 135) 64 rfl 0 67 i0 (.pointer none) 1 8 elem64 hi hz0 hz1 hz2 rfl (by decide) (.slice (some ⟨ab, 0, none⟩) made cap) made (O.P.map fun o => .pointer (optp o)) rfl ((ownsRow_setCell_other (ownsRow_setCell_other HROW1.out HNAB.out _) HNAB.out _).alloc _) ⟨w1.heap.size, 0, none⟩ 1 1 [.pointer (some ⟨xb, 0, none⟩)] rfl rfl (by intro j u hj; have := cell_one_new ((w1.setCell ⟨gb, 2 + (k + 1), none⟩ (.pointer (some ⟨xb, 0, none⟩))).setCell ⟨gb, 1, none⟩ (.int .i64 ((n : Int) + 1))) (.pointer (some ⟨xb, 0, none⟩)) 67 j u hj; simpa [World.setCell] using this) (by simp [Value.oneCell']) (by have := HMD.out; unfold maxLen; omega) (by have := HMD.out; omega) (Nat.zero_le _) ?_; intro v2 w2 hown2 hgrow2 hkin2; obtain ⟨g2, cap2, rfl⟩ := ownsRow_succ hown2; have hbl : ∀ b, b < w1.heap.size → b ≠ gb → b ≠ ab → w2.heap[b]? = w1.heap[b]? := (fun b hb h1 h2 => by rw [hgrow2.block b (by simp [World.setCell]; omega) (fun e1 => h2 (Option.some.inj e1)), Below.heap_alloc _ _ _ (by simpa [World.setCell] using hb), heap_set_other _ h1, heap_set_other _ h1]); have hL2 := (hbl lb hll1 (by omega) (by omega)).trans HL1.out; have f6 := list_c3 hL2; have f7 := list_c4 hL2; have f8 := (fun o => list_fr hL2 o); have f9 : w2.cell? ⟨xb, 0, none⟩ = some (.int .i64 made) := (by have h9 := (hbl xb (by omega) (by omega) (by omega)).trans HX1.out; rw [cell_of_block h9]; rfl); have HO2 := Lib.hid hown2; have HG2 := Lib.hid hgrow2; have HK2 := Lib.hid hkin2; clear hown2 hgrow2 hkin2 hbl hL2 d3 d4 d5 d6 d7 d8 d9)
          rw [Exit.noGoto_ret]
          go_ret2
          exact ⟨rfl, ss, mv, xb, mm, _, insert_fin (s := t) HR0'.out HE.out HT.out HGB.out HLB.out HNN.out HPP.out HALL.out hn HMD.out HXB.out HMB.out.1 HMB.out.2.1 HMB.out.2.2 HK1.out hsz1 HX1.out (by rw [← HNNN.out] at HL1; exact HL1.out) HG1.out HLEN2.out HO2.out HG2.out HK2.out nn HNNN.out⟩
      · have hnext := hr.next HE.out (fun x hx => (tagged_own HE.out hr.core x).1 hx) HMV.out ht (by omega) (by rw [HNN.out]; omega)
        rw [HGB.out, HLB.out] at hnext
        have hmeas := hr.lacks ht
        rw [if_neg hgap] at hmeas
        rw [htb, HSB.out] at hmeas
        have HRR := Lib.hid hr
        have HNX := Lib.hid hnext
        have HT := Lib.hid ht
        have HMEAS := Lib.hid hmeas
        clear hr hG ht hnext hmeas
        rw [hceil] at hgap
        generalize hsmm : t.minor = sm at *
        go_wp2_with fail
        refine HNX.out.mono ?_
        rintro _ w2 ⟨rfl, mv2, hr2⟩
        have HR2 := Lib.hid hr2
        clear hr2
        go_wp2_with fail
        refine ⟨⟨_, _, HR2.out⟩, ?_⟩
        have h3 := HR2.out.lacks (reminor_at HK.out)
        rw [if_pos (reminor_gap (by rw [HNN.out]; omega) (reminor_at HK.out))] at h3
        have h4 : ({ s with minor := tagOf g.ss.length k } : Stp).b = sb := HSB.out
        rw [h4] at h3
        rw [h3, HMEAS.out]; omega
end Go.Proofs.Ytijceljhpbdnnaa
