/-
  remove: a stamp taken out of its group. Conditions: each theorem's own hypotheses on memory.
-/
import Derived.Test.YtijceljhpbdnnaaCopy
namespace Go.Proofs.Ytijceljhpbdnnaa
open Go.RowKit

/-- What the copy moves: the places behind k. -/
def behind (arr : List Value) (L k : Nat) : List Value := (arr.take L).drop (k + 1)
theorem behind_length {arr : List Value} {L k : Nat} (h : L ≤ arr.length) : (behind arr L k).length = L - (k + 1) := by simp [behind]; omega
theorem behind_get {arr : List Value} {L k j : Nat} {v : Value} (h : (behind arr L k)[j]? = some v) : arr[(k + 1) + j]? = some v := by
  simp only [behind, List.getElem?_drop, List.getElem?_take] at h
  split at h
  · exact h
  · simp at h
theorem behind_one {g : Grp} {k : Nat} : ∀ v ∈ behind g.arr g.ss.length k, v.oneCell' = true := by
  intro v hv
  have h1 : v ∈ g.ss.map (fun s => ptr s.b) := by
    have := List.mem_of_mem_drop hv
    rw [Grp.arr, List.take_append_of_le_length (by simp), List.take_of_length_le (by simp)] at this
    exact this
  obtain ⟨s, _, rfl⟩ := List.mem_map.1 h1
  rfl
/-- The array without the stamp at place k: the later ones have moved up, the last place is nil. -/
def Grp.less (g : Grp) (k : Nat) : List Value := (splice g.arr k (behind g.arr g.ss.length k)).set (g.ss.length - 1) (.pointer none)

set_option maxHeartbeats 1000000 in
set_option maxRecDepth 100000 in
theorem remove_keep (w : World) (lb : Nat) (g : Grp) (pv nx : Option Nat) (k : Nat) (s : Stp) (hG : GroupAt w pv nx g) (hap : Apart g.ss) (hs : g.ss[k]? = some s) (h2 : 2 ≤ g.ss.length) :
    Calls Try.prog 43 #[.pointer (some ⟨lb, 0, none⟩), .pointer (some ⟨s.b, 0, none⟩)] w fun e w' => e = .returned (.tuple #[]) ∧
      Kept (fun b => b = g.b) w w' ∧ w'.heap[g.b]? = some (groupObj g.tag (g.ss.length - 1) (g.less k) pv nx) := by
  have hp := place_of hG hs hap
  have hk : k < g.ss.length := (List.getElem?_eq_some_iff.1 hs).1
  obtain ⟨h1, h32, hst⟩ := hG
  have hL : g.ss.length ≤ 32 := by simp [Grp.arr] at h32; omega
  have c1 := stamp_c2 (hst s (List.mem_of_getElem? hs))
  have c2 := group_c1 h1
  have hcl := behind_length (k := k) (show g.ss.length ≤ g.arr.length by omega)
  have hone := behind_one (g := g) (k := k)
  have hsrc : ∀ (j : Nat) (v : Value), (behind g.arr g.ss.length k)[j]? = some v → g.arr[(k + 1) + j]? = some v := fun j v h => behind_get h
  have Hp := Lib.hid hp
  have H1 := Lib.hid h1
  have H32 := Lib.hid h32
  unfold Grp.less
  clear hp h1 h32 hst hap
  generalize hcs : behind g.arr g.ss.length k = cs at *
  have Hcl := Lib.hid hcl
  have Hone := Lib.hid hone
  have Hsrc := Lib.hid hsrc
  clear hcs hcl hone hsrc
  generalize hgb : g.b = gb at *
  generalize hLL : g.ss.length = L at *
  clear hgb hs hLL
  have hk32 : ¬ k = 32 := by omega
  have hk1 : (k : Int) ≤ 32 := by omega
  have hk2 : (k : Int) + 1 ≤ (L : Int) := by omega
  have hk3 : (0 : Int) ≤ (k : Int) + 1 := by omega
  have hk4 : IntKind.i64.wrap ((k : Int) + 1) = (k : Int) + 1 := IntWalk.i64_in _ (by omega)
  have hk5 : ((k : Int) + 1).toNat = k + 1 := by omega
  go_enter Try.func43, Try.ntmps43
  go_wp2_with (go_at_call 36; refine Hp.out.mono ?_; rintro e w' ⟨rfl, m, rfl⟩)
  refine wp_region_tail 15 (by kernel_rfl) (by kernel_rfl) ?_
  simp only [List.take_succ_cons, List.take_zero, List.drop_succ_cons, List.drop_zero]
  repeat still_step
  refine wpStill_nil ?_
  refine wpList_copy_group rfl (.tmp 17) (.tmp 27) rfl _ _ _ _ _ _ rfl rfl gb g.tag L g.arr pv nx H1.out k cs ?_ ?_ (by rw [Hcl.out, H32.out]; omega) Hone.out ?_
  · rw [Hcl.out]; show _ = min _ _; omega
  · intro h0
    rw [Hcl.out] at h0
    refine ⟨?_, k + 1, ?_, fun j v hj => Hsrc.out j v hj⟩
    · rw [cutOff_lt (by omega)]
    · rw [cutOff_lt (by omega)]
  · intro w1 hK hG1
    obtain ⟨M, rfl⟩ : ∃ M, L = M + 1 := ⟨L - 1, by omega⟩
    have d1 := group_c1 hG1
    have d2 := fun o => group_fr hG1 o
    have hlen : (splice g.arr k cs).length = 32 := by rw [length_splice _ _ _ (by rw [Hcl.out, H32.out]; omega), H32.out]
    obtain ⟨v, hv⟩ : ∃ v, (splice g.arr k cs)[M]? = some v := ⟨_, List.getElem?_eq_getElem (by rw [hlen]; omega)⟩
    have d3 := group_ca hG1 hv
    have HK := Lib.hid hK
    have HG := Lib.hid hG1
    have HL := Lib.hid hlen
    clear hK hG1 hlen hv hk1 hk2 hk3 hk4 hk5 c1 c2
    have hM0 : 0 < M := by omega
    have hM1 : (M : Int) < 32 := by omega
    go_wp2
    refine wp_region_tail 8 (by kernel_rfl) (by kernel_rfl) ?_
    simp only [List.take_succ_cons, List.take_zero, List.drop_succ_cons, List.drop_zero]
    repeat still_step
    refine wpStill_nil ?_
    go_wp2
    have h1 := group_set1 HG.out M
    have h2 := group_seta h1 M (by rw [HL.out]; omega) (.pointer none)
    refine bodyPost_ret (results_none rfl _ _ _) rfl ⟨rfl, ?_, h2⟩
    have k0 : Kept (fun b => b = gb) w w1 := ⟨HK.out.os, HK.out.tape, HK.out.output, HK.out.size, HK.out.block⟩
    exact ((k0.setCell (fun _ => rfl) _).setCell (fun _ => rfl) _).drew

set_option maxHeartbeats 4000000 in
set_option maxRecDepth 100000 in
/-- The group's only stamp, the group being neither the first nor the last. -/
theorem remove_mid (w : World) (lb : Nat) (g p q : Grp) (pp qn : Option Nat) (s : Stp) (first : Option Nat) (many moves : Nat) (all : Value) (nn : Nat)
    (hG : GroupAt w (some p.b) (some q.b) g) (hap : Apart g.ss) (hs : g.ss[0]? = some s) (h2 : g.ss.length = 1)
    (hp : w.heap[p.b]? = some (groupObj p.tag p.ss.length p.arr pp (some g.b))) (hp32 : p.arr.length = 32)
    (hq : w.heap[q.b]? = some (groupObj q.tag q.ss.length q.arr (some g.b) qn)) (hq32 : q.arr.length = 32)
    (hgp : g.b ≠ p.b) (hgq : g.b ≠ q.b) (hpq : p.b ≠ q.b) (hl : w.heap[lb]? = some (listObj first (many + 1) moves all nn)) (hmany : many < 1000000000) :
    Calls Try.prog 43 #[.pointer (some ⟨lb, 0, none⟩), .pointer (some ⟨s.b, 0, none⟩)] w fun e w' => e = .returned (.tuple #[]) ∧
      Kept (fun b => b = g.b ∨ b = p.b ∨ b = q.b ∨ b = lb) w w' ∧ w'.heap[p.b]? = some (groupObj p.tag p.ss.length p.arr pp (some q.b)) ∧
      w'.heap[q.b]? = some (groupObj q.tag q.ss.length q.arr (some p.b) qn) ∧ w'.heap[lb]? = some (listObj first many moves all nn) := by
  have hpl := place_of hG hs hap
  obtain ⟨h1, h32, hst⟩ := hG
  have c1 := stamp_c2 (hst s (List.mem_of_getElem? hs))
  have c2 := group_c1 h1
  have c3 := group_c34 h1 h32
  have c4 := group_c35 h1 h32
  have c5 := list_c1 hl
  have c6 := list_fr hl 1
  have nlp := ne_list_group hl hp
  have nlq := ne_list_group hl hq
  have nlg := ne_list_group hl h1
  simp only [optp_some] at c3 c4
  have Hp := Lib.hid hpl
  have H1 := Lib.hid h1
  have H32 := Lib.hid h32
  have HP := Lib.hid hp
  have HQ := Lib.hid hq
  have HP32 := Lib.hid hp32
  have HQ32 := Lib.hid hq32
  have HL := Lib.hid hl
  rw [h2] at c2 H1
  clear hpl h1 h32 hst hap hs h2 hp hq hp32 hq32 hl
  generalize hgb : g.b = gb at *
  generalize hpb : p.b = pb at *
  generalize hqb : q.b = qb at *
  generalize harr : g.arr = arr at *
  generalize hparr : p.arr = parr at *
  generalize hqarr : q.arr = qarr at *
  clear hgb hpb hqb harr hparr hqarr
  have hw1 : IntKind.i64.wrap 1 = 1 := by decide
  have hcut : ∀ w, (Instr.sliceAt 69 (.pointer (some ⟨gb, 2, none⟩)) (some (.int .i64 1)) (some (.int .i64 1)) none).run Try.prog w = .ok (.slice (some ⟨gb, cutOff 1, none⟩) 0 31) w := fun w => cut_lh w gb 1 1 (by omega) (by omega) (by omega)
  go_enter Try.func43, Try.ntmps43
  go_wp2_with (go_at_call 36; refine Hp.out.mono ?_; rintro e w' ⟨rfl, m, rfl⟩)
  refine wp_region_tail 15 (by kernel_rfl) (by kernel_rfl) ?_
  simp only [List.take_succ_cons, List.take_zero, List.drop_succ_cons, List.drop_zero]
  repeat still_step
  refine wpStill_nil ?_
  refine wpList_copy_group rfl (.tmp 17) (.tmp 27) rfl _ _ _ _ _ _ rfl rfl gb g.tag 1 arr (some pb) (some qb) H1.out 0 [] ?_ ?_ (by rw [H32.out]; simp) (by simp) ?_
  · rfl
  · intro h0; simp at h0
  · intro w1 hK hG1
    have hP1 : w1.heap[pb]? = some (groupObj p.tag p.ss.length parr pp (some gb)) := by rw [← HP.out]; exact hK.block pb (heap_lt HP.out) (Ne.symm hgp)
    have hQ1 : w1.heap[qb]? = some (groupObj q.tag q.ss.length qarr (some gb) qn) := by rw [← HQ.out]; exact hK.block qb (heap_lt HQ.out) (Ne.symm hgq)
    have hL1 : w1.heap[lb]? = some (listObj first (many + 1) moves all nn) := by rw [← HL.out]; exact hK.block lb (heap_lt HL.out) nlg
    have hlen : (splice arr 0 []).length = 32 := by rw [length_splice _ _ _ (by simp), H32.out]
    obtain ⟨v, hv⟩ : ∃ v, (splice arr 0 [])[0]? = some v := ⟨_, List.getElem?_eq_getElem (by rw [hlen]; omega)⟩
    have d1 := group_c1 hG1
    have d2 := fun o => group_fr hG1 o
    have d3 : w1.cell? ⟨gb, 2, none⟩ = some v := group_ca hG1 hv
    have d4 := group_c34 hG1 hlen
    have d5 := group_c35 hG1 hlen
    have e1 := group_c35 hP1 HP32.out
    have e2 := fun o => group_fr hP1 o
    have f1 := group_c34 hQ1 HQ32.out
    have f2 := fun o => group_fr hQ1 o
    have l1 := list_c1 hL1
    have l2 := fun o => list_fr hL1 o
    simp only [optp_some] at d4 d5 e1 f1
    have HK := Lib.hid hK
    have HG := Lib.hid hG1
    have HLen := Lib.hid hlen
    have HPP := Lib.hid hP1
    have HQQ := Lib.hid hQ1
    have HLL := Lib.hid hL1
    clear hK hG1 hlen hv hP1 hQ1 hL1 c1 c2 c3 c4 c5 c6 hcut hw1
    go_wp2
    refine wp_region_tail 8 (by kernel_rfl) (by kernel_rfl) ?_
    simp only [List.take_succ_cons, List.take_zero, List.drop_succ_cons, List.drop_zero]
    repeat still_step
    refine wpStill_nil ?_
    go_wp2
    refine wp_region_tail 10 (by kernel_rfl) (by kernel_rfl) ?_
    simp only [List.take_succ_cons, List.take_zero, List.drop_succ_cons, List.drop_zero]
    repeat still_step
    refine wpStill_nil ?_
    go_wp2
    refine wp_region_tail 10 (by kernel_rfl) (by kernel_rfl) ?_
    simp only [List.take_succ_cons, List.take_zero, List.drop_succ_cons, List.drop_zero]
    repeat still_step
    refine wpStill_nil ?_
    go_wp2
    refine bodyPost_end (results_none rfl _ _ _) rfl ⟨rfl, ?_, ?_, ?_, ?_⟩
    · have k0 : Kept (fun b => b = gb ∨ b = pb ∨ b = qb ∨ b = lb) w w1 := ⟨HK.out.os, HK.out.tape, HK.out.output, HK.out.size, fun i hi hn => HK.out.block i hi (fun e => hn (.inl e))⟩
      exact ((((((((k0.setCell (fun _ => .inl rfl) _).setCell (fun _ => .inl rfl) _).setCell (fun _ => .inr (.inr (.inr rfl))) _).setCell (fun _ => .inr (.inl rfl)) _).setCell (fun _ => .inr (.inr (.inl rfl))) _).drew).drew).drew)
    · show (World.setCell _ _ _).heap[pb]? = _
      rw [heap_set_other _ hpq]
      refine group_set35 (tag := p.tag) (n := p.ss.length) (arr := parr) (pv := pp) (nx := some gb) ?_ HP32.out (some qb)
      rw [heap_set_other _ (Ne.symm nlp), heap_set_other _ (Ne.symm hgp), heap_set_other _ (Ne.symm hgp)]; exact HPP.out
    · show (World.setCell _ _ _).heap[qb]? = _
      refine group_set34 (tag := q.tag) (n := q.ss.length) (arr := qarr) (pv := some gb) (nx := qn) ?_ HQ32.out (some pb)
      rw [heap_set_other _ (Ne.symm hpq), heap_set_other _ (Ne.symm nlq), heap_set_other _ (Ne.symm hgq), heap_set_other _ (Ne.symm hgq)]; exact HQQ.out
    · show (World.setCell _ _ _).heap[lb]? = _
      rw [heap_set_other _ nlq, heap_set_other _ nlp]
      refine list_set1 (first := first) (many := many + 1) ?_ many
      rw [heap_set_other _ nlg, heap_set_other _ nlg]; exact HLL.out
set_option maxHeartbeats 1000000 in
set_option maxRecDepth 100000 in
/-- The group's only stamp, the group being the last and not the first. -/
theorem remove_end (w : World) (lb : Nat) (g p : Grp) (pp : Option Nat) (s : Stp) (first : Option Nat) (many moves : Nat) (all : Value) (nn : Nat)
    (hG : GroupAt w (some p.b) none g) (hap : Apart g.ss) (hs : g.ss[0]? = some s) (h2 : g.ss.length = 1)
    (hp : w.heap[p.b]? = some (groupObj p.tag p.ss.length p.arr pp (some g.b))) (hp32 : p.arr.length = 32)
    (hgp : g.b ≠ p.b) (hl : w.heap[lb]? = some (listObj first (many + 1) moves all nn)) (hmany : many < 1000000000) :
    Calls Try.prog 43 #[.pointer (some ⟨lb, 0, none⟩), .pointer (some ⟨s.b, 0, none⟩)] w fun e w' => e = .returned (.tuple #[]) ∧
      Kept (fun b => b = g.b ∨ b = p.b ∨ b = lb) w w' ∧ w'.heap[p.b]? = some (groupObj p.tag p.ss.length p.arr pp none) ∧
      w'.heap[lb]? = some (listObj first many moves all nn) := by
  have hpl := place_of hG hs hap
  obtain ⟨h1, h32, hst⟩ := hG
  have c1 := stamp_c2 (hst s (List.mem_of_getElem? hs))
  have c2 := group_c1 h1
  have c3 := group_c34 h1 h32
  have c4 := group_c35 h1 h32
  have c5 := list_c1 hl
  have c6 := list_fr hl 1
  have nlp := ne_list_group hl hp
  have nlg := ne_list_group hl h1
  simp only [optp_some, optp_none] at c3 c4
  have Hp := Lib.hid hpl
  have H1 := Lib.hid h1
  have H32 := Lib.hid h32
  have HP := Lib.hid hp
  have HP32 := Lib.hid hp32
  have HL := Lib.hid hl
  rw [h2] at c2 H1
  clear hpl h1 h32 hst hap hs h2 hp hp32 hl
  generalize hgb : g.b = gb at *
  generalize hpb : p.b = pb at *
  generalize harr : g.arr = arr at *
  generalize hparr : p.arr = parr at *
  clear hgb hpb harr hparr
  have hw1 : IntKind.i64.wrap 1 = 1 := by decide
  have hcut : ∀ w, (Instr.sliceAt 69 (.pointer (some ⟨gb, 2, none⟩)) (some (.int .i64 1)) (some (.int .i64 1)) none).run Try.prog w = .ok (.slice (some ⟨gb, cutOff 1, none⟩) 0 31) w := fun w => cut_lh w gb 1 1 (by omega) (by omega) (by omega)
  go_enter Try.func43, Try.ntmps43
  go_wp2_with (go_at_call 36; refine Hp.out.mono ?_; rintro e w' ⟨rfl, m, rfl⟩)
  refine wp_region_tail 15 (by kernel_rfl) (by kernel_rfl) ?_
  simp only [List.take_succ_cons, List.take_zero, List.drop_succ_cons, List.drop_zero]
  repeat still_step
  refine wpStill_nil ?_
  refine wpList_copy_group rfl (.tmp 17) (.tmp 27) rfl _ _ _ _ _ _ rfl rfl gb g.tag 1 arr (some pb) none H1.out 0 [] ?_ ?_ (by rw [H32.out]; simp) (by simp) ?_
  · rfl
  · intro h0; simp at h0
  · intro w1 hK hG1
    have hP1 : w1.heap[pb]? = some (groupObj p.tag p.ss.length parr pp (some gb)) := by rw [← HP.out]; exact hK.block pb (heap_lt HP.out) (Ne.symm hgp)
    have hL1 : w1.heap[lb]? = some (listObj first (many + 1) moves all nn) := by rw [← HL.out]; exact hK.block lb (heap_lt HL.out) nlg
    have hlen : (splice arr 0 []).length = 32 := by rw [length_splice _ _ _ (by simp), H32.out]
    obtain ⟨v, hv⟩ : ∃ v, (splice arr 0 [])[0]? = some v := ⟨_, List.getElem?_eq_getElem (by rw [hlen]; omega)⟩
    have d1 := group_c1 hG1
    have d2 := fun o => group_fr hG1 o
    have d3 : w1.cell? ⟨gb, 2, none⟩ = some v := group_ca hG1 hv
    have d4 := group_c34 hG1 hlen
    have d5 := group_c35 hG1 hlen
    have e1 := group_c35 hP1 HP32.out
    have e2 := fun o => group_fr hP1 o
    have l1 := list_c1 hL1
    have l2 := fun o => list_fr hL1 o
    simp only [optp_some, optp_none] at d4 d5 e1
    have HK := Lib.hid hK
    have HG := Lib.hid hG1
    have HLen := Lib.hid hlen
    have HPP := Lib.hid hP1
    have HLL := Lib.hid hL1
    clear hK hG1 hlen hv hP1 hL1 c1 c2 c3 c4 c5 c6 hcut hw1
    go_wp2
    refine wp_region_tail 8 (by kernel_rfl) (by kernel_rfl) ?_
    simp only [List.take_succ_cons, List.take_zero, List.drop_succ_cons, List.drop_zero]
    repeat still_step
    refine wpStill_nil ?_
    go_wp2
    refine wp_region_tail 10 (by kernel_rfl) (by kernel_rfl) ?_
    simp only [List.take_succ_cons, List.take_zero, List.drop_succ_cons, List.drop_zero]
    repeat still_step
    refine wpStill_nil ?_
    go_wp2
    refine bodyPost_end (results_none rfl _ _ _) rfl ⟨rfl, ?_, ?_, ?_⟩
    · have k0 : Kept (fun b => b = gb ∨ b = pb ∨ b = lb) w w1 := ⟨HK.out.os, HK.out.tape, HK.out.output, HK.out.size, fun i hi hn => HK.out.block i hi (fun e => hn (.inl e))⟩
      exact ((((((k0.setCell (fun _ => .inl rfl) _).setCell (fun _ => .inl rfl) _).setCell (fun _ => .inr (.inr rfl)) _).setCell (fun _ => .inr (.inl rfl)) _).drew).drew)
    · show (World.setCell _ _ _).heap[pb]? = _
      refine group_set35 (tag := p.tag) (n := p.ss.length) (arr := parr) (pv := pp) (nx := some gb) ?_ HP32.out none
      rw [heap_set_other _ (Ne.symm nlp), heap_set_other _ (Ne.symm hgp), heap_set_other _ (Ne.symm hgp)]; exact HPP.out
    · show (World.setCell _ _ _).heap[lb]? = _
      rw [heap_set_other _ nlp]
      refine list_set1 (first := first) (many := many + 1) ?_ many
      rw [heap_set_other _ nlg, heap_set_other _ nlg]; exact HLL.out
end Go.Proofs.Ytijceljhpbdnnaa
