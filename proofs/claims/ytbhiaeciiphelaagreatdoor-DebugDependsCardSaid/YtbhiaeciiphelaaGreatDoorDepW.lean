/-
  DERIVED. How what is reached spreads: the walk of the whole. Condition: the list lies in memory as read leaves it.
-/
import Derived.Test.YtbhiaeciiphelaaGreatDoorDepV
import Derived.Test.YtbhiaeciiphelaaGreatDoorShelf
import Derived.Laws.IdiomRangeMap
namespace Go.Proofs.YtbhiaeciiphelaaGreatDoor
open Go.RowKit Go.Shelf
theorem keeps_of_below {w w' : World} (h : Below w.heap.size w w') : Keeps w w' := ⟨h.os, h.tape, h.output, h.size, fun k hk _ => h.block k hk⟩
theorem clone_of (w : World) (v : Value) (l : List Int) (h : IntsAt w v l) (hl : l.length ≤ 1000000) :
    Calls Tryz.prog 96 #[v] w fun e w' => ∃ v', e = .returned v' ∧ w'.ownsRow w.heap.size 3 1 v' l.length (ints l) ∧ Keeps w w' := by
  obtain ⟨p, c, rfl, hc⟩ := h
  cases l with
  | nil =>
    cases p with
    | none =>
      refine (Tryz.slices_Clone_int_nil _ c w).mono ?_
      rintro _ w' ⟨rfl, rfl⟩
      exact ⟨_, rfl, World.ownsRow_nil _ _ _ _, Keeps.refl _⟩
    | some a =>
      refine (Tryz.slices_Clone_int_zero a c w).mono ?_
      rintro _ w' ⟨v', rfl, h1, _, h2⟩
      exact ⟨_, rfl, h1, keeps_of_below h2⟩
  | cons x l =>
    obtain ⟨g, o, rfl, _⟩ := hc 0 x rfl
    refine (Tryz.slices_Clone_int g o (x :: l).length c (x :: l) w (Nat.le_refl _) (by omega) (fun j hj => ?_)).mono ?_
    · obtain ⟨g', o', e, h2⟩ := hc j _ (List.getElem?_eq_getElem hj)
      injection e with e
      injection e with e1 e2
      subst e1 e2
      rw [h2, List.getD_eq_getElem?_getD, List.getElem?_eq_getElem hj]; rfl
    · rintro _ w' ⟨v', rfl, h1, _, h2⟩
      rw [List.take_length] at h1
      exact ⟨_, rfl, h1, keeps_of_below h2⟩
def mapLen (b : Nat) (W : World) : Nat := match W.heap[b]? with
  | some (.map es _) => es.size
  | _ => 0
theorem MapG.mapLen {α : Type} [DecidableEq α] {w : World} {M : Nat} {K : α → Value} {m : List (α × Int)} (h : MapG w M K m) : mapLen M w = m.length := by
  obtain ⟨es, cl, h1, h2, _⟩ := h.block
  have := congrArg List.length h2
  simp at this
  unfold YtbhiaeciiphelaaGreatDoor.mapLen
  rw [h1]; exact this
section
variable {w W : World} {B : SB} {L : Nat} {m : List (Int × Nat)} {met : List (Int × Int)} {next : List Int} {sm : List (Nat × Int)}
theorem SMem.cut {x : Int} (h : SMem w W B L m met (x :: next) sm) : ∃ g o cap, W.heap[B.n]? = some (.cells #[.slice (some ⟨g, o, none⟩) (next.length + 1) cap] 35 (0, 0)) ∧ W.cell? ⟨g, o, none⟩ = some (.int .i64 x) ∧
    (∀ W : World, (Instr.slice 35 (.slice (some ⟨g, o, none⟩) (next.length + 1) cap) (some (.int .i64 1)) none none).run Tryz.prog W = .ok (.slice (some ⟨g, (if cap = 1 then o else o + 1), none⟩) next.length (cap - 1)) W) ∧
    SMem w (W.setCell ⟨B.n, 0, none⟩ (.slice (some ⟨g, (if cap = 1 then o else o + 1), none⟩) next.length (cap - 1))) B L m met next sm := by
  obtain ⟨v, hv1, hv2⟩ := h.row
  obtain ⟨g, o, cap, rfl, h1, h2, h3⟩ := hv2.cut
  obtain ⟨es, cl, hs1, _⟩ := h.mapS.block
  obtain ⟨em, cm, hm1, _⟩ := h.mapM.block
  refine ⟨g, o, cap, hv1, h1, h2, ⟨Kept.one0 h.kept h.nb.2.2.2.1 _ _, ?_, ?_, ?_, h.mapS.same ?_, h.mapM.same ?_, ⟨_, by rw [heap_set_same hv1]; rfl, h3.same fun k hk => heap_set_other _ ?_⟩, h.keys, h.spans, h.bnd, h.pos, h.ne, h.nb⟩⟩
  · rw [heap_set_other _ (fun e => by have := h.hl; rw [e, hv1] at this; simp at this)]; exact h.hl
  · rw [heap_set_other _ (fun e => by have := h.hs; rw [e, hv1] at this; simp at this)]; exact h.hs
  · rw [heap_set_other _ (fun e => by have := h.hm; rw [e, hv1] at this; simp at this)]; exact h.hm
  · rw [heap_set_other _ (fun e => by rw [e, hv1] at hs1; simp at hs1)]
  · rw [heap_set_other _ (fun e => by rw [e, hv1] at hm1; simp at hm1)]
  · intro e
    obtain ⟨_, cur, hcur⟩ := h3.block hk
    rw [e, hv1] at hcur
    simp at hcur
theorem SMem.empty (h : SMem w W B L m met [] sm) : ∃ p c, W.heap[B.n]? = some (.cells #[.slice p 0 c] 35 (0, 0)) := by
  obtain ⟨v, hv1, hv2⟩ := h.row
  obtain ⟨p, c, rfl⟩ := hv2.form
  exact ⟨p, c, hv1⟩
end
def SpreadPost (evs : List Ev) (f : St) (fr : List Int) (w : World) (e : Ending) (w' : World) : Prop :=
  ∃ mm met lev, e = .returned (.map (some mm)) ∧ MapG w' mm kI met ∧ (∃ seen, Spr evs f fr none none met [] seen) ∧ Bfs evs f fr none met [] lev ∧ Keeps w w'
def lenAt (b : Nat) (W : World) : Nat := match W.cell? ⟨b, 0, none⟩ with
  | some (.slice _ n _) => n
  | _ => 0
theorem SMem.lenAt {w W : World} {B : SB} {L : Nat} {m : List (Int × Nat)} {met : List (Int × Int)} {next : List Int} {sm : List (Nat × Int)} (h : SMem w W B L m met next sm) : lenAt B.n W = next.length := by
  obtain ⟨v, hv1, hv2⟩ := h.row
  obtain ⟨p, c, rfl⟩ := hv2.form
  unfold YtbhiaeciiphelaaGreatDoor.lenAt
  rw [cell_of_block hv1]; rfl
set_option maxHeartbeats 8000000 in
set_option maxRecDepth 100000 in
theorem spread_of (w0 w : World) (a : Option Addr) (n c L M : Nat) (wv : Value) (m : List (Int × Nat)) (rf : Nat → Value) (evs : List Ev) (f : St) (h : EvIn w a n evs) (hro : readOf evs = some f)
    (hm : RMem w0 w (.slice a n c) L M wv m rf f.sps f.within) (v : Value) (fr : List Int) (hv : IntsAt w v fr) (hnd : fr.Nodup) (hfr : fr.length ≤ 60000) :
    Calls Tryz.prog 68 #[.pointer (some ⟨L, 0, none⟩), v] w (SpreadPost evs f fr w) := by
  have HI := Lib.hid h
  have HM := Lib.hid hm
  have HO := Lib.hid hro
  have HV := Lib.hid hv
  have HNd := Lib.hid hnd
  obtain ⟨pv, cv, rfl, hvc⟩ := hv
  have HVc := Lib.hid hvc
  clear h hm hro hnd hvc
  have hmm := @run_makeMap Tryz.prog
  go_enter Tryz.func68, Tryz.ntmps68
  go_wp2_with (go_at_call 96; refine hold ?_)
  refine Lib.hid ?_
  obtain ⟨W0, hW0⟩ : ∃ W0, W0 = (((((w.alloc (.cells #[.pointer (some ⟨L, 0, none⟩)] 93)).alloc (.map #[] 0)).alloc (.cells #[.map (some (w.heap.size + 1))] 137)).alloc (.map #[] 0)).alloc (.cells #[.map (some (w.heap.size + 1 + 1 + 1))] 177)) := ⟨_, rfl⟩
  have hk0 : Keeps w W0 := by rw [hW0]; exact Kept.alloc (Kept.alloc (Kept.alloc (Kept.alloc (Keeps.alloc _ _) _) _) _) _
  have e1 : (w.alloc (.cells #[.pointer (some ⟨L, 0, none⟩)] 93)).heap.size = w.heap.size + 1 := World.size_alloc _ _
  have e2 : ((w.alloc (.cells #[.pointer (some ⟨L, 0, none⟩)] 93)).alloc (.map #[] 0)).heap.size = w.heap.size + 1 + 1 := by rw [World.size_alloc, e1]
  have e3 : (((w.alloc (.cells #[.pointer (some ⟨L, 0, none⟩)] 93)).alloc (.map #[] 0)).alloc (.cells #[.map (some (w.heap.size + 1))] 137)).heap.size = w.heap.size + 1 + 1 + 1 := by rw [World.size_alloc, e2]
  have e4 : ((((w.alloc (.cells #[.pointer (some ⟨L, 0, none⟩)] 93)).alloc (.map #[] 0)).alloc (.cells #[.map (some (w.heap.size + 1))] 137)).alloc (.map #[] 0)).heap.size = w.heap.size + 1 + 1 + 1 + 1 := by rw [World.size_alloc, e3]
  have a1 : W0.heap[w.heap.size]? = some (.cells #[.pointer (some ⟨L, 0, none⟩)] 93 (0, 0)) := by rw [hW0]; exact heap_alloc_old _ (heap_alloc_old _ (heap_alloc_old _ (heap_alloc_old _ (heap_alloc_at _ _))))
  have a2 : W0.heap[w.heap.size + 1]? = some (.map #[] 0) := by rw [hW0]; refine heap_alloc_old _ (heap_alloc_old _ (heap_alloc_old _ ?_)); rw [← e1]; exact heap_alloc_at _ _
  have a3 : W0.heap[w.heap.size + 1 + 1]? = some (.cells #[.map (some (w.heap.size + 1))] 137 (0, 0)) := by rw [hW0]; refine heap_alloc_old _ (heap_alloc_old _ ?_); rw [← e2]; exact heap_alloc_at _ _
  have a4 : W0.heap[w.heap.size + 1 + 1 + 1]? = some (.map #[] 0) := by rw [hW0]; refine heap_alloc_old _ ?_; rw [← e3]; exact heap_alloc_at _ _
  have a5 : W0.heap[w.heap.size + 1 + 1 + 1 + 1]? = some (.cells #[.map (some (w.heap.size + 1 + 1 + 1))] 177 (0, 0)) := by rw [hW0, ← e4]; exact heap_alloc_at _ _
  have hsz0 : W0.heap.size = w.heap.size + 5 := by rw [hW0, World.size_alloc, e4]
  rw [← hW0]
  refine (clone_of W0 _ fr (HV.out.keeps hk0) (by omega)).mono ?_
  rintro _ w1 ⟨v', rfl, hrow, hk1⟩
  obtain ⟨B, hB⟩ : ∃ B : SB, B = ⟨w.heap.size, w.heap.size + 1 + 1 + 1 + 1, w.heap.size + 1 + 1, w1.heap.size, w.heap.size + 1 + 1 + 1, w.heap.size + 1⟩ := ⟨_, rfl⟩
  have hs0 : SMem w (w1.alloc (.cells #[v'] 35)) B L m [] fr [] := by
    rw [hB]
    have hno : ∀ x : Nat, ¬ False := fun _ x => x
    refine ⟨Kept.alloc (Keeps.trans hk0 hk1) _, heap_alloc_old _ (hk1.at a1 (fun x => x)), heap_alloc_old _ (hk1.at a5 (fun x => x)), heap_alloc_old _ (hk1.at a3 (fun x => x)), ⟨⟨_, _, heap_alloc_old _ (hk1.at a4 (fun x => x)), rfl, by simp, by simp⟩, by simp⟩, ⟨⟨_, _, heap_alloc_old _ (hk1.at a2 (fun x => x)), rfl, by simp, by simp⟩, by simp⟩, ⟨v', heap_alloc_at _ _, (Tail.of_own (row_lower hrow hk0.size)).alloc _⟩, fun p hp => by simp at hp, fun k y b hb => ?_, HM.out.bnd, fun p hp => by simp at hp, by show w.heap.size + 1 + 1 + 1 ≠ w.heap.size + 1; omega, ?_⟩
    · have hk : k < f.sps.length := by rw [← HM.out.len]; exact (List.getElem?_eq_some_iff.1 hb).1
      have h9 := HM.out.sp k _ _ (List.getElem?_eq_getElem hk) hb
      exact ⟨heap_lt h9, _, _, h9⟩
    · have := hk1.size
      simp only
      omega
  obtain ⟨pc, cc', rfl⟩ := row_slice hrow
  have HS0 := Lib.hid hs0
  clear hs0 hrow hk1 hk0 a1 a2 a3 a4 a5 e1 e2 e3 e4 hW0 hsz0
  have HB := Lib.hid hB
  have hb1 : B.m = w.heap.size + 1 + 1 := by rw [hB]
  have hb2 : B.mm = w.heap.size + 1 := by rw [hB]
  have hb3 : B.n = w1.heap.size := by rw [hB]
  have hb4 : B.s = w.heap.size + 1 + 1 + 1 + 1 := by rw [hB]
  have hb5 : B.l = w.heap.size := by rw [hB]
  have HB1 := Lib.hid hb1
  have HB2 := Lib.hid hb2
  have HB3 := Lib.hid hb3
  have HB4 := Lib.hid hb4
  have HB5 := Lib.hid hb5
  clear hb1 hb2 hb3 hb4 hb5 hB hmm
  go_wp2_with fail
  go_loopw [18] (fun q W => ∃ i : Nat, i ≤ fr.length ∧ q = .int .i64 i ∧ SMem w W B L m ((fr.take i).map fun z => (z, z)) fr []) (fun q _ => fr.length - (intOf q).toNat)
  case atStart => exact ⟨0, Nat.zero_le _, rfl, HS0.out⟩
  case round =>
    obtain ⟨i, hi, rfl, hS⟩ := hrel
    have hbm := cell_of_block hS.hm 0
    rw [HB1.out, HB2.out] at hbm
    simp at hbm
    have k7 : (0 : Int) ≤ i := by omega
    have HS := Lib.hid hS
    clear hS
    by_cases hil : i < fr.length
    · obtain ⟨z, hz⟩ : ∃ z, fr[i]? = some z := ⟨_, List.getElem?_eq_getElem hil⟩
      obtain ⟨g, o, rfl, hgc⟩ := HVc.out i z hz
      have hgc2 := cell_keeps HS.out.kept hgc
      have k6 : (i : Int) < fr.length := by omega
      have hnz : getG ((fr.take i).map fun z => (z, z)) z = none := by
        refine getG_none fun y hy => ?_
        obtain ⟨u, hu, e⟩ := List.mem_map.1 hy
        injection e with e1 e2
        subst e1
        obtain ⟨j, hj⟩ := List.mem_iff_getElem?.1 hu
        rw [List.getElem?_take] at hj
        split at hj
        · rename_i hji
          have := (List.getElem?_inj (by omega) HNd.out).1 (hj.trans hz.symm)
          omega
        · cases hj
      obtain ⟨w3, hput, hk3, -, hm3⟩ := HS.out.putM hnz z
      rw [HB2.out] at hput
      have HM3 := Lib.hid hm3
      have HZ := Lib.hid hz
      clear hm3 hk3 hz hnz hgc
      go_wp2_with fail
      go_roundw
      case rel =>
        refine ⟨i + 1, by omega, by go_num, ?_⟩
        obtain ⟨h1, h2⟩ := List.getElem?_eq_some_iff.1 HZ.out
        rw [List.take_succ_eq_append_getElem h1, h2, List.map_append]
        exact HM3.out
      case measure => simp [intOf] <;> omega
    · obtain rfl : i = fr.length := by omega
      rw [List.take_length] at HS
      go_wp2_with fail
      go_loopw [] (fun W => ∃ met next sm lev, SMem w W B L m met next sm ∧ Spr evs f fr none none met next (seenAt m sm) ∧ Bfs evs f fr none met next lev) (fun W => 2 * (90000 - mapLen B.mm W) + lenAt B.n W)
      case atStart =>
        refine ⟨_, _, _, fun _ => 0, HS.out, ?_, Bfs.start evs f fr⟩
        have e : seenAt m [] = fun _ => 0 := by
          funext k
          unfold seenAt
          cases m[k]? <;> rfl
        rw [e]
        exact Spr.start evs f fr
      case round =>
        obtain ⟨met, next, sm, lev, h1, h2, h3⟩ := hrel
        have T1 := Lib.hid h1
        have T2 := Lib.hid h2
        have T3 := Lib.hid h3
        have hbm2 := cell_of_block h1.hm 0
        rw [HB1.out, HB2.out] at hbm2
        simp at hbm2
        clear h1 h2 h3 hbm
        cases next with
        | nil =>
          obtain ⟨pn, cn, hbn⟩ := T1.out.empty
          have hbn2 := cell_of_block hbn 0
          rw [HB3.out] at hbn2
          simp at hbn2
          clear hbn
          go_wp2_with fail
          try rw [Exit.noGoto_ret]
          refine bodyPost_ret (results_tmp rfl _ _ _) rfl ?_
          have hM := T1.out.mapM
          rw [HB2.out] at hM
          exact ⟨_, met, lev, rfl, hM, ⟨_, T2.out⟩, T3.out, T1.out.kept⟩
        | cons x next =>
          obtain ⟨g, o, cap, hbn, hx, -, hm2⟩ := T1.out.cut
          have hbn2 := cell_of_block hbn 0
          have hbf2 := free_of_block hbn 0
          rw [HB3.out] at hbn2 hbf2
          simp at hbn2
          have k8 : (0 : Int) < (next.length : Int) + 1 := by omega
          obtain ⟨o', ho'⟩ : ∃ o', o' = if cap = 1 then o else o + 1 := ⟨_, rfl⟩
          rw [← ho'] at hm2
          have hsp := spread1_of w0 w (wr.setCell ⟨B.n, 0, none⟩ (.slice (some ⟨g, o', none⟩) next.length (cap - 1))) a n c L M wv m rf evs f HI.out HO.out HM.out B fr x ((met.length : Int) - next.length, met.length) met next sm lev ⟨hm2, T2.out.take, T3.out.take, rfl, Nat.le_refl _⟩ hfr
          rw [HB1.out, HB3.out, HB4.out, HB5.out] at hsp
          have hml1 := T1.out.mapM.mapLen
          have hml2 := T1.out.lenAt
          have hfw := T2.out.few HO.out T1.out.mapM.nd
          simp only [List.length_cons] at hml2
          have HSp := Lib.hid hsp
          have HL1 := Lib.hid hml1
          have HL2 := Lib.hid hml2
          clear hbn hm2 hsp hml1 hml2
          have hcc : cap = 1 ∨ ¬ cap = 1 := by omega
          rcases hcc with hcc | hcc
          · rw [if_pos hcc] at ho'
            subst hcc ho'
            go_wp2_with (go_at_call 97; refine HSp.out.mono ?_; rintro _ w4 ⟨rfl, met', next', sm', lev', hs4⟩; have H4 := Lib.hid hs4; clear hs4)
            go_roundw
            case rel => exact ⟨met', next', sm', lev', H4.out.mem, H4.out.spr, H4.out.bfs⟩
            case measure =>
              have h8 := H4.out.bal
              have h9 := H4.out.spr.few HO.out H4.out.mem.mapM.nd
              rw [HL1.out, HL2.out, H4.out.mem.mapM.mapLen, H4.out.mem.lenAt]
              have h7 := H4.out.spr.len
              simp only at h8
              omega
          · rw [if_neg hcc] at ho'
            subst ho'
            go_wp2_with (go_at_call 97; refine HSp.out.mono ?_; rintro _ w4 ⟨rfl, met', next', sm', lev', hs4⟩; have H4 := Lib.hid hs4; clear hs4)
            go_roundw
            case rel => exact ⟨met', next', sm', lev', H4.out.mem, H4.out.spr, H4.out.bfs⟩
            case measure =>
              have h8 := H4.out.bal
              have h9 := H4.out.spr.few HO.out H4.out.mem.mapM.nd
              rw [HL1.out, HL2.out, H4.out.mem.mapM.mapLen, H4.out.mem.lenAt]
              have h7 := H4.out.spr.len
              simp only at h8
              omega
end Go.Proofs.YtbhiaeciiphelaaGreatDoor
namespace Go.Proofs.YtbhiaeciiphelaaGreatDoor
open Go.RowKit
theorem next_any (W : World) (ty : TypeId) (it bm since : Nat) (seen : Array Nat) (es : Array MapEntry) (hit : W.heap[it]? = some (.mapIter (some bm) since seen since)) (hb : W.heap[bm]? = some (.map es since)) (hold : ∀ x ∈ es.toList, x.born < since) :
    ((leftOf es seen).size = 0 ∧ (Instr.next (.pointer (some ⟨it, 0, none⟩)) false ty).run Tryz.prog W = .ok (.tuple #[.bool false]) W) ∨
    ∃ e ∈ (leftOf es seen).toList, ∃ W', (Instr.next (.pointer (some ⟨it, 0, none⟩)) false ty).run Tryz.prog W = .ok (.tuple #[.bool true, e.key, e.val]) W' ∧ W'.heap[it]? = some (.mapIter (some bm) since (seen.push e.born) since) ∧ Kept (fun b => b = it) W W' ∧ W'.heap.size = W.heap.size := by
  have g1 : (getObj it).run Tryz.prog W = .ok (.mapIter (some bm) since seen since) W := by simp only [getObj, Sem.run, hit]
  have g2 : (getObj bm).run Tryz.prog W = .ok (.map es since) W := by simp only [getObj, Sem.run, hb]
  simp only [Instr.next, Sem.run_bind, g1, g2, Result.andThen_ok, next_test_false seen es since since hold (Nat.le_refl _), Bool.false_eq_true, if_false]
  unfold leftOf
  have hmem : ∀ x ∈ (Array.filter (fun e => !seen.contains e.born) es).toList, x.born < since := fun x hx => hold x (by simp at hx ⊢; exact hx.1)
  generalize Array.filter (fun e => !seen.contains e.born) es = L at hmem ⊢
  have e1 : L.filter (fun x => decide (x.born < since)) = L := Array.filter_eq_self.2 (fun x hx => by simpa using hmem x (by simpa using hx))
  have e2 : L.filter (fun x => decide (x.born ≥ since)) = #[] := by
    rw [Array.filter_eq_empty_iff]
    intro x hx
    have := hmem x (by simpa using hx)
    simp
    omega
  simp only [e1, e2, Array.append_empty]
  by_cases h0 : L.size = 0
  · left
    have : L = #[] := Array.eq_empty_of_size_eq_zero h0
    subst this
    refine ⟨rfl, ?_⟩
    simp [choose, Sem.run, Question.forced]
  · right
    have hne : L.isEmpty = false := by simp [Array.isEmpty, h0]
    simp only [hne, Bool.false_eq_true, if_false, Array.empty_append, Array.size_map]
    have hch : ∃ (j : Nat) (w1 : World), j < L.size ∧ w1.heap = W.heap ∧ Keeps W w1 ∧ (choose (Question.mapNext L.size)).run Tryz.prog W = .ok j w1 := by
      by_cases hf : L.size ≤ 1
      · exact ⟨0, W, by omega, rfl, Keeps.refl _, by simp [choose, Sem.run, Question.forced, hf]⟩
      · exact ⟨_, W.drew, Nat.mod_lt _ (by omega), rfl, Keeps.drew _, by
          simp only [choose, Sem.run, Question.forced, decide_eq_true_eq, hf, if_false, Question.cut]
          rfl⟩
    obtain ⟨j, w1, hj, hheap, hk1, hrun⟩ := hch
    have hit1 : w1.heap[it]? = some (.mapIter (some bm) since seen since) := by rw [hheap]; exact hit
    have hset : ∀ o : Obj, (setObj it o).run Tryz.prog w1 = .ok () { w1 with heap := w1.heap.setIfInBounds it o } := fun o => by
      simp only [setObj, Sem.run, hit1]
    refine ⟨L[j], by simp, { w1 with heap := w1.heap.setIfInBounds it (.mapIter (some bm) since (seen.push L[j].born) since) }, ?_, ?_, ?_, by simp [hheap]⟩
    · simp only [hrun, Array.getElem?_map, Array.getElem?_eq_getElem hj, Option.map_some, Sem.run_bind, hset, Result.andThen_ok]
      rfl
    · show (w1.heap.setIfInBounds it _)[it]? = _
      rw [Array.getElem?_setIfInBounds_self_of_lt (heap_lt hit1)]
    · exact (Kept.mono (T := fun b => b = it) hk1 (fun _ _ h => h.elim)).putObj (fun _ => rfl) _
theorem entry_any (W : World) (it bm since : Nat) (seen : Array Nat) (es : Array MapEntry) (e : MapEntry) (hit : W.heap[it]? = some (.mapIter (some bm) since (seen.push e.born) since)) (hb : W.heap[bm]? = some (.map es since)) (he : e ∈ es.toList) (hn : (es.toList.map (·.born)).Nodup) :
    (Instr.entry (.pointer (some ⟨it, 0, none⟩))).run Tryz.prog W = .ok (.tuple #[e.key, e.val]) W := by
  have g1 : (getObj it).run Tryz.prog W = .ok (.mapIter (some bm) since (seen.push e.born) since) W := by simp only [getObj, Sem.run, hit]
  have g2 : (getObj bm).run Tryz.prog W = .ok (.map es since) W := by simp only [getObj, Sem.run, hb]
  have hf : es.find? (·.born == e.born) = some e := by rw [← Array.find?_toList]; exact find_born e es.toList hn he
  simp only [Instr.entry, Sem.run_bind, g1, g2, Result.andThen_ok, Array.back?_push, bne_self_eq_false, Bool.false_eq_true, if_false, hf]
  rfl
theorem slots_len (l : List Int) : (slots l).length ≤ 30000 := by
  unfold slots
  exact Nat.le_trans (List.length_filter_le _ _) (by simp)
theorem slots_rise (l : List Int) : (slots l).Pairwise (· < ·) := by
  unfold slots
  refine List.Pairwise.filter _ ?_
  rw [List.pairwise_map]
  exact List.pairwise_lt_range.imp fun h => by omega
structure GJ (w3 W : World) (it bm since : Nat) (es : Array MapEntry) (seen : Array Nat) (out : List Int) (v : Value) : Prop where
  kept : Keeps w3 W
  hit : W.heap[it]? = some (.mapIter (some bm) since seen since)
  row : W.ownsRow w3.heap.size 3 1 v out.length (ints out)
  len : out.length + (leftOf es seen).size ≤ es.size
  mem : ∀ z, z ∈ out ↔ ∃ e ∈ es.toList, seen.contains e.born = true ∧ e.key = .int .i64 z
theorem left_le (es : Array MapEntry) (seen : Array Nat) : (leftOf es seen).size ≤ es.size := by
  unfold leftOf; exact Array.size_filter_le
theorem GJ.start {w3 : World} {bm since : Nat} {es : Array MapEntry} : GJ w3 (w3.alloc (.mapIter (some bm) since #[] since)) w3.heap.size bm since es #[] [] (.slice none 0 0) :=
  ⟨Keeps.alloc _ _, heap_alloc_at _ _, World.ownsRow_nil _ _ _ _, by have := left_le es #[]; simpa using this, fun z => by simp⟩
theorem GJ.step {w3 W W1 W2 : World} {it bm since : Nat} {es : Array MapEntry} {seen : Array Nat} {out : List Int} {v v' : Value} {e : MapEntry} {z : Int} {o : Obj} (h : GJ w3 W it bm since es seen out v) (hit3 : w3.heap.size ≤ it) (hn : (es.toList.map (·.born)).Nodup) (he : e ∈ (leftOf es seen).toList) (hz : e.key = .int .i64 z)
    (h1 : W1.heap[it]? = some (.mapIter (some bm) since (seen.push e.born) since)) (hk : Kept (fun b => b = it) W W1) (hg : (W1.alloc o).grownBy W2 v.ownBlock) (hr : W2.ownsRow w3.heap.size 3 1 v' (out.length + 1) (ints out ++ [.int .i64 z])) :
    GJ w3 W2 it bm since es (seen.push e.born) (out ++ [z]) v' := by
  have hne : v.ownBlock ≠ some it := by
    intro e8
    obtain ⟨cur, hc⟩ := row_block h.row e8
    rw [h.hit] at hc
    simp at hc
  have hk2 : Kept (fun b => v.ownBlock = some b) W1 W2 := ((Kept.refl _ W1).alloc o).grown hg (fun b hb _ => hb)
  obtain ⟨he1, he2⟩ := mem_left he
  refine ⟨Kept.trans (Kept.trans h.kept hk (fun b hb e8 => by omega)) hk2 (fun b hb e8 => by have := (h.row.lt b e8).1; omega), hk2.at h1 hne, ?_, ?_, fun z' => ?_⟩
  · have e1 : (out ++ [z]).length = out.length + 1 := by simp
    have e2 : ints (out ++ [z]) = ints out ++ [.int .i64 z] := by simp [ints]
    rw [e1, e2]; exact hr
  · have := left_shrinks es seen e he
    have := h.len
    simp only [List.length_append, List.length_singleton]
    omega
  · rw [List.mem_append, List.mem_singleton, h.mem]
    constructor
    · rintro (⟨e', h3, h4, h5⟩ | rfl)
      · exact ⟨e', h3, by rw [contains_push, h4]; rfl, h5⟩
      · exact ⟨e, he1, by rw [contains_push, beq_self_eq_true, Bool.or_true], hz⟩
    · rintro ⟨e', h3, h4, h5⟩
      rw [contains_push, Bool.or_eq_true] at h4
      rcases h4 with h4 | h4
      · exact .inl ⟨e', h3, h4, h5⟩
      · right
        have h6 : e'.born = e.born := by simpa using h4
        have h7 := find_born e es.toList hn he1
        have h8 := find_born e' es.toList hn h3
        rw [h6, h7] at h8
        injection h8 with h8
        rw [← h8, hz] at h5
        simpa using h5.symm
theorem GJ.all {w3 W : World} {it bm since : Nat} {es : Array MapEntry} {seen : Array Nat} {out : List Int} {v : Value} (h : GJ w3 W it bm since es seen out v) (h0 : (leftOf es seen).size = 0) {met : List (Int × Int)} (hm : es.toList.map (fun e => (e.key, e.val)) = met.map (fun p => (kI p.1, Value.int .i64 p.2))) :
    ∀ z, z ∈ out ↔ z ∈ met.map (·.1) := by
  intro z
  rw [h.mem]
  have hall : ∀ e ∈ es.toList, seen.contains e.born = true := by
    intro e he
    cases hc : seen.contains e.born with
    | true => rfl
    | false =>
      have : e ∈ leftOf es seen := by
        unfold leftOf
        rw [Array.mem_filter]
        exact ⟨Array.mem_toList_iff.1 he, by rw [hc]; rfl⟩
      have h2 := Array.size_pos_of_mem this
      omega
  constructor
  · rintro ⟨e, he, _, hz⟩
    have h1 : (e.key, e.val) ∈ met.map (fun p => (kI p.1, Value.int .i64 p.2)) := hm ▸ List.mem_map.2 ⟨e, he, rfl⟩
    obtain ⟨p, hp, e1⟩ := List.mem_map.1 h1
    injection e1 with e1 _
    rw [hz] at e1
    exact List.mem_map.2 ⟨p, hp, by simpa using e1⟩
  · intro hz
    obtain ⟨p, hp, rfl⟩ := List.mem_map.1 hz
    have h1 : (kI p.1, Value.int .i64 p.2) ∈ es.toList.map (fun e => (e.key, e.val)) := hm ▸ List.mem_map.2 ⟨p, hp, rfl⟩
    obtain ⟨e, he, e1⟩ := List.mem_map.1 h1
    injection e1 with e1 _
    exact ⟨e, he, hall e he, e1⟩
set_option maxHeartbeats 8000000 in
set_option maxRecDepth 100000 in
theorem debugDepends_of (w : World) (a : Option Addr) (n c : Nat) (evs : List Ev) (h : EvIn w a n evs) (y : Int) :
    Calls Tryz.prog 37 #[.slice a n c, .int .i64 y] w (DirPostD w (outDepends evs y)) := by
  have HI := Lib.hid h
  cases hro : readOf evs with
  | none =>
    have ho : outDepends evs y = ([], 250) := by unfold outDepends; rw [hro]
    rw [ho]
    have HF := Lib.hid (found_no w a n c evs h y hro)
    clear h ho hro
    go_enter Tryz.func37, Tryz.ntmps37
    go_wp2_with (go_at_call 48; refine HF.out.mono ?_; rintro _ w1 ⟨rfl, hk⟩; have HK := Lib.hid hk; clear hk)
    go_ret2
    exact dird_none HK.out
  | some f =>
    cases hix : idxOf f y with
    | none =>
      have ho : outDepends evs y = ([], 3) := by unfold outDepends; rw [hro]; simp only [hix]
      rw [ho]
      have HF := Lib.hid (found_none w a n c evs h y f hro (idx_none hix))
      clear h ho hro hix
      go_enter Tryz.func37, Tryz.ntmps37
      go_wp2_with (go_at_call 48; refine HF.out.mono ?_; rintro _ w1 ⟨rfl, hk⟩; have HK := Lib.hid hk; clear hk)
      go_ret2
      exact dird_none HK.out
    | some k =>
      obtain ⟨p, hp, hpy⟩ := idx_some hix
      have ho : outDepends evs y = (slots (reachOf evs f y), 0) := by unfold outDepends; rw [hro]; simp only [hix]
      rw [ho]
      have hany : f.sps.any (fun p => p.addr == y) = true := List.any_eq_true.2 ⟨p, List.mem_of_getElem? hp, by simp [hpy]⟩
      obtain ⟨s, st, wr, hr, ha⟩ := momRun hro evs.length (Nat.le_refl _)
      rw [List.take_length] at hr
      obtain ⟨rfl, _⟩ := momEnd hro hr ha
      have hkl := (List.getElem?_eq_some_iff.1 hp).1
      obtain ⟨wl, hw⟩ := Ways.ex ha.ok.outer k evs.length hkl
      have hgs := gath_sees hro hkl hw
      have huni : ∀ (j : Nat) (q : Sp), s.sps[j]? = some q → q.addr = y → j = k := by
        intro j q hq hqy
        have e1 : (s.sps.map (·.addr))[j]? = some y := by rw [List.getElem?_map, hq, ← hqy]; rfl
        have e2 : (s.sps.map (·.addr))[k]? = some y := by rw [List.getElem?_map, hp, ← hpy]; rfl
        exact (List.getElem?_inj (List.getElem?_eq_some_iff.1 e1).1 ha.ok.nd).1 (e1.trans e2.symm)
      have hfs : ∀ z, z ∈ slots (seesOf evs s k) ↔ z ∈ sq evs s y := by
        intro z
        have h2 : sq evs s y = seesOf evs s k := by unfold sq; rw [hix]
        rw [h2, mem_slots]
        exact ⟨fun h => h.2, fun h => ⟨sq_rng hro y z (by rw [h2]; exact h), h⟩⟩
      obtain ⟨fr, hfr⟩ : ∃ fr, fr = slots (seesOf evs s k) := ⟨_, rfl⟩
      have hfl : fr.length ≤ 30000 := by rw [hfr]; exact slots_len _
      have hfd : fr.Nodup := by rw [hfr]; exact (slots_rise _).imp fun h => by omega
      rw [← hfr] at hgs hfs
      have HF := Lib.hid (found_yes w a n c evs h y s hro hany)
      have HU := Lib.hid huni
      have HW := Lib.hid hw
      have HG := Lib.hid hgs
      have HO := Lib.hid hro
      have HFs := Lib.hid hfs
      have HFd := Lib.hid hfd
      obtain ⟨i3, hi3, hz3, hs3, hb3⟩ := info_parts info3
      clear h ho hro hix hp hpy hany hr ha hkl hw hgs huni hfr hfs hfd
      go_enter Tryz.func37, Tryz.ntmps37
      go_wp2_with (go_at_call 48; refine hold ?_)
      refine Lib.hid ?_
      refine HF.out.mono ?_
      rintro _ w1 ⟨L, M, wv, m, rf, k', p', b, rfl, hm, hp', hpy', hmb⟩
      obtain rfl := HU.out k' p' hp' hpy'
      have HD := Lib.hid (direct_of w w1 a n c L M wv m rf evs s (HI.out.keeps hm.kept) HO.out hm k' b y wl HW.out hmb)
      have HM := Lib.hid hm
      clear hm hp' hpy' hmb
      go_wp2_with (go_at_call 65; refine hold ?_)
      refine Lib.hid ?_
      refine HD.out.mono ?_
      rintro _ w2 ⟨v, rfl, hrow, hk⟩
      rw [HG.out] at hrow
      obtain ⟨p5, c5, rfl⟩ := row_slice hrow
      have HS := Lib.hid (spread_of w w2 a n c L M wv m rf evs s (HI.out.keeps (Keeps.trans HM.out.kept hk)) HO.out (HM.out.keeps hk) _ fr (ints_at hrow) HFd.out (by omega))
      have HK2 := Lib.hid (Keeps.trans HM.out.kept hk)
      clear hrow hk HF HD
      go_wp2_with (go_at_call 68; refine hold ?_)
      refine Lib.hid ?_
      refine HS.out.mono ?_
      rintro _ w3 ⟨mm, met, lev, rfl, hmap, ⟨seen0, hspr⟩, hbfs, hk3⟩
      obtain ⟨⟨es, cl, hes1, hes2, hes3, hes4⟩, hmnd⟩ := hmap
      have hfew := hspr.few HO.out hmnd
      have hesl : es.size = met.length := by
        have := congrArg List.length hes2
        simpa using this
      have hrg := run_range_map (P := Tryz.prog) w3 137 3 3 mm es cl (by kernel_rfl) hes1
      have HSpr := Lib.hid hspr
      have HE2 := Lib.hid hes2
      have HE1 := Lib.hid hes1
      have HE3 := Lib.hid hes3
      have HE4 := Lib.hid hes4
      have HK3 := Lib.hid (Keeps.trans HK2.out hk3)
      clear hspr hbfs hk3 hes1 hes2 hes3 hes4 hmnd
      go_wp2_with fail
      go_loopw [9] (fun v W => ∃ seen out, GJ w3 W w3.heap.size mm cl es seen out v) (fun _ W => (leftOf es (W.iterSeen w3.heap.size)).size)
      case atStart => exact ⟨_, _, GJ.start⟩
      case round =>
        obtain ⟨seen, out, hgj⟩ := hrel
        obtain ⟨pv, cv, hv⟩ := row_slice hgj.row
        subst hv
        have hEs := hgj.kept.at HE1.out (fun x => x)
        have HJ := Lib.hid hgj
        have hlen := hgj.len
        have hks := hgj.kept.size
        rcases next_any wr 0 w3.heap.size mm cl seen es hgj.hit hEs HE4.out with ⟨h0, hnx⟩ | ⟨e, he, w5, hnx, hit5, hk5, hs5⟩
        · have hall := HJ.out.all h0 HE2.out
          have hre : Reach evs s y (met.map (·.1)) := HSpr.out.reach HFs.out
          have hsl : rise out = slots (reachOf evs s y) := by
            rw [← reach_slots hre, rise_slots (fun z hz => ?_)]
            · exact slots_congr hall
            · obtain ⟨x9, hx9, rfl⟩ := List.mem_map.1 ((hall z).1 hz)
              obtain ⟨i9, hi9⟩ := List.mem_iff_getElem?.1 hx9
              rcases HSpr.out.par i9 x9.1 x9.2 hi9 with ⟨h1, _⟩ | ⟨h1, _⟩
              · exact sq_rng HO.out y _ ((HFs.out _).1 h1)
              · exact sq_rng HO.out _ _ h1
          have HR := Lib.hid (rising_of wr w3.heap.size _ out HJ.out.row (by omega))
          have HSl := Lib.hid hsl
          clear hall hre hsl hgj
          go_wp2_with (go_at_call 69; refine hold ?_)
          refine Lib.hid ?_
          refine HR.out.mono ?_
          rintro _ w6 ⟨v6, rfl, hr6, _, hk6⟩
          rw [HSl.out] at hr6
          obtain ⟨p6, c6, rfl⟩ := row_slice hr6
          have HR6 := Lib.hid hr6
          have HK6 := Lib.hid hk6
          clear hr6 hk6
          go_wp2
          go_ret2
          refine ⟨p6, c6, rfl, ints_at HR6.out, Kept.trans (Keeps.trans HK3.out HJ.out.kept) HK6.out (fun b hb e8 => ?_)⟩
          have h7 := (HJ.out.row.lt b e8).1
          have h8 := HK3.out.size
          omega
        · obtain ⟨z, hz⟩ : ∃ z, e.key = .int .i64 z := by
            have h1 : (e.key, e.val) ∈ met.map (fun p => (kI p.1, Value.int .i64 p.2)) := HE2.out ▸ List.mem_map.2 ⟨e, (mem_left he).1, rfl⟩
            obtain ⟨p, _, e1⟩ := List.mem_map.1 h1
            injection e1 with e1 _
            exact ⟨_, e1.symm⟩
          have hen := entry_any w5 w3.heap.size mm cl seen es e hit5 (hk5.at hEs (fun e8 => by have := heap_lt HE1.out; omega)) (mem_left he).1 HE3.out
          rw [hz] at hnx hen
          have hr5 : w5.ownsRow w3.heap.size 3 1 (.slice pv out.length cv) out.length (ints out) := row_same HJ.out.row fun g hg => hk5.block g (HJ.out.row.lt g hg).2 (fun e8 => by
            obtain ⟨cur, hc⟩ := row_block HJ.out.row hg
            rw [e8, HJ.out.hit] at hc
            simp at hc)
          have HR5 := Lib.hid hr5
          have HH5 := Lib.hid hit5
          have HK5 := Lib.hid hk5
          have HEl := Lib.hid he
          have HZ := Lib.hid hz
          have HS5 := Lib.hid hs5
          clear hr5 hit5 hk5 he hz hs5 hgj
          go_wp2_with (at_builtin; refine hold ?_)
          refine Lib.hid ?_
          refine wpList_append_own_at _ rfl (.tmp 31) (.tmp 33) 35 rfl w3.heap.size 3 i3 (.int .i64 0) 1 8 under35 hi3 hz3 hs3 hb3 rfl (by decide) (.slice pv out.length cv) out.length (ints out) rfl (HR5.out.alloc _) ⟨w5.heap.size, 0, none⟩ 1 1 [.int .i64 z] rfl rfl (cell_one_new _ _ _) (by simp [Value.oneCell']) (by unfold maxLen; omega) (by omega) (by rw [World.size_alloc, HS5.out]; omega) ?_
          intro v7 w7 hown7 hgrow7 hnil7 hat7
          have hst := HJ.out.step (Nat.le_refl _) HE3.out HEl.out HZ.out HH5.out HK5.out hgrow7 hown7
          have HSt := Lib.hid hst
          clear hst hown7 hgrow7 hnil7 hat7
          go_wp2_with fail
          go_roundw
          case rel => exact ⟨_, _, HSt.out⟩
          case measure =>
            have e1 : w7.iterSeen w3.heap.size = seen.push e.born := by unfold World.iterSeen; rw [HSt.out.hit]
            have e2 : wr.iterSeen w3.heap.size = seen := by unfold World.iterSeen; rw [HJ.out.hit]
            rw [e1, e2]
            exact left_shrinks es seen e HEl.out
end Go.Proofs.YtbhiaeciiphelaaGreatDoor
namespace Go.Proofs.YtbhiaeciiphelaaGreatDoor
open Go.RowKit
theorem dir_len (evs : List Ev) (y : Int) : (outDirect evs y).1.length ≤ 30000 ∧ (outDepends evs y).1.length ≤ 30000 := by
  have hs : ∀ l, (slots l).length ≤ 30000 := fun l => slots_len _
  cases hro : readOf evs with
  | none =>
    have h1 : outDirect evs y = ([], 250) := by unfold outDirect; rw [hro]
    have h2 : outDepends evs y = ([], 250) := by unfold outDepends; rw [hro]
    rw [h1, h2]; exact ⟨Nat.zero_le _, Nat.zero_le _⟩
  | some f =>
    cases hix : idxOf f y with
    | none =>
      have h1 : outDirect evs y = ([], 3) := by unfold outDirect; rw [hro]; simp only [hix]
      have h2 : outDepends evs y = ([], 3) := by unfold outDepends; rw [hro]; simp only [hix]
      rw [h1, h2]; exact ⟨Nat.zero_le _, Nat.zero_le _⟩
    | some k =>
      have h1 : outDirect evs y = (slots (seesOf evs f k), 0) := by unfold outDirect; rw [hro]; simp only [hix]
      have h2 : outDepends evs y = (slots (reachOf evs f y), 0) := by unfold outDepends; rw [hro]; simp only [hix]
      rw [h1, h2]; dsimp only
      refine ⟨?_, ?_⟩
      · exact hs (seesOf evs f k)
      · exact hs (reachOf evs f y)
set_option maxHeartbeats 8000000 in
set_option maxRecDepth 100000 in
theorem depends_of {w : World} (hs : Calls Tryz.prog 9 #[] w fun e w' => e = .returned (.bool true) ∧ Keeps w w') (a : Option Addr) (n c : Nat) (evs : List Ev) (hev : EvsAt w a evs) (hn : n = evs.length) (y : Int) :
    Calls Tryz.prog 7 #[.slice a n c, .int .i64 y] w fun e w' => e = .returned (.bool true) ∧ Keeps w w' := by
  have HS := Lib.hid hs
  clear hs
  by_cases hfew : n ≤ 600
  · have hI : EvIn w a n evs := ⟨hev, hn, by omega⟩
    have H35 := Lib.hid (fun (W : World) (hK : Keeps w W) => debugDirect_of W a n c evs (hI.keeps hK) y)
    have H36 := Lib.hid (fun (W : World) (hK : Keeps w W) => refDirect_of W a n c evs (hI.keeps hK) y)
    have H37 := Lib.hid (fun (W : World) (hK : Keeps w W) => debugDepends_of W a n c evs (hI.keeps hK) y)
    have H38 := Lib.hid (fun (W : World) (hK : Keeps w W) => refDepends_of W a n c evs (hI.keeps hK) y)
    have HL := Lib.hid (dir_len evs y)
    obtain ⟨l1, e1, h1⟩ : ∃ l e, outDirect evs y = (l, e) := ⟨_, _, rfl⟩
    obtain ⟨l2, e2, h2⟩ : ∃ l e, outDepends evs y = (l, e) := ⟨_, _, rfl⟩
    rw [h1] at H35 H36 HL
    rw [h2] at H37 H38 HL
    clear h1 h2 hev hn hI
    have k0 : (n : Int) ≤ 600 := by omega
    go_enter Tryz.func7, Tryz.ntmps7
    go_wp2_with fail
    refine HS.out.mono ?_
    rintro _ w1 ⟨rfl, hk⟩
    have HK1 := Lib.hid hk
    clear hk
    go_wp2_with fail
    refine (few_of _ _ _ _).mono ?_
    rintro _ w1' ⟨rfl, rfl⟩
    have hd : decide (n ≤ 600) = true := by simp [hfew]
    rw [hd]
    go_wp2_with fail
    refine (H35.out _ HK1.out).mono ?_
    rintro _ w2 ⟨p1, c1, rfl, hi1, hk⟩
    have HI1 := Lib.hid hi1
    have HK2 := Lib.hid (Keeps.trans HK1.out hk)
    clear hk hi1
    go_wp2_with fail
    refine (H36.out _ HK2.out).mono ?_
    rintro _ w3 ⟨p2, c2, rfl, hi2, hk⟩
    have HI2 := Lib.hid hi2
    have HI1' := Lib.hid (HI1.out.keeps hk)
    have HK3 := Lib.hid (Keeps.trans HK2.out hk)
    clear hk hi2
    go_wp2_with fail
    refine (H37.out _ (Keeps.trans HK3.out (Keeps.alloc _ _))).mono ?_
    rintro _ w4 ⟨p3, c3, rfl, hi3, hk⟩
    have HB4 := Lib.hid (hk.at (heap_alloc_at w3 _) (fun x => x))
    have HI3 := Lib.hid hi3
    have HI1a := Lib.hid (HI1'.out.keeps (Keeps.trans (Keeps.alloc _ _) hk))
    have HI2a := Lib.hid (HI2.out.keeps (Keeps.trans (Keeps.alloc _ _) hk))
    have HK4 := Lib.hid (Keeps.trans (Keeps.trans HK3.out (Keeps.alloc _ _)) hk)
    clear hk hi3
    go_wp2_with fail
    refine (H38.out _ HK4.out).mono ?_
    rintro _ w5 ⟨p4, c4, rfl, hi4, hk⟩
    have hB5 := hk.at HB4.out (fun x => x)
    have hB5a := heap_alloc_old (.cells #[.slice p4 l2.length c4, .int .i64 e2] 72) hB5
    have hB6 := heap_alloc_at w5 (.cells #[.slice p4 l2.length c4, .int .i64 e2] 72)
    have d0 := cell_of_block hB5a 0
    have d1 := cell_of_block hB5a 1
    have d2 := cell_of_block hB6 0
    have d3 := cell_of_block hB6 1
    simp at d0 d1 d2 d3
    have HK5 := Lib.hid (Keeps.trans HK4.out hk)
    have HB6 := Lib.hid hB6
    have H1b := Lib.hid ((HI1a.out.keeps hk).keeps (Keeps.alloc w5 (.cells #[.slice p4 l2.length c4, .int .i64 e2] 72)))
    have H2b := Lib.hid ((HI2a.out.keeps hk).keeps (Keeps.alloc w5 (.cells #[.slice p4 l2.length c4, .int .i64 e2] 72)))
    have H3b := Lib.hid ((HI3.out.keeps hk).keeps (Keeps.alloc w5 (.cells #[.slice p4 l2.length c4, .int .i64 e2] 72)))
    have H4b := Lib.hid (hi4.keeps (Keeps.alloc w5 (.cells #[.slice p4 l2.length c4, .int .i64 e2] 72)))
    clear hk hi4 hB5 hB5a hB6
    have hq1 := intsSame_of _ _ _ l1 l1 H1b.out H2b.out (Nat.le_trans HL.out.1 (by decide))
    rw [decide_eq_true rfl] at hq1
    have HQ1 := Lib.hid hq1
    have H6 := Lib.hid (show ∀ W, Keeps (w5.alloc (.cells #[.slice p4 l2.length c4, .int .i64 e2] 72)) W → Calls Tryz.prog 20 #[.slice p3 l2.length c3, .slice p4 l2.length c4] W fun e w' => e = .returned (.bool true) ∧ Keeps W w' from fun W hW => by
      have hq2 := intsSame_of W _ _ l2 l2 (H3b.out.keeps hW) (H4b.out.keeps hW) (Nat.le_trans HL.out.2 (by decide))
      rw [decide_eq_true rfl] at hq2
      exact hq2)
    clear hq1
    go_wp2_with (go_at_call 20; refine hold ?_)
    refine Lib.hid ?_
    refine HQ1.out.mono ?_
    rintro _ w6 ⟨rfl, hk⟩
    have hb7 := hk.at HB6.out (fun x => x)
    have g2 := cell_of_block hb7 0
    have g3 := cell_of_block hb7 1
    simp at g2 g3
    clear hb7
    have HK6 := Lib.hid hk
    clear hk d0 d1 d2 d3
    go_wp2_with (go_at_call 20; refine hold ?_)
    refine Lib.hid ?_
    refine (H6.out _ HK6.out).mono ?_
    rintro _ w7 ⟨rfl, hk⟩
    have HK7 := Lib.hid (Keeps.trans (Keeps.trans (Keeps.trans HK5.out (Keeps.alloc _ _)) HK6.out) hk)
    clear hk
    go_wp2
    go_ret
    exact ⟨rfl, HK7.out⟩
  · have k0 : ¬ (n : Int) ≤ 600 := by omega
    clear hev hn
    go_enter Tryz.func7, Tryz.ntmps7
    go_wp2_with fail
    refine HS.out.mono ?_
    rintro _ w1 ⟨rfl, hk⟩
    have HK1 := Lib.hid hk
    clear hk
    go_wp2_with fail
    refine (few_of _ _ _ _).mono ?_
    rintro _ w1' ⟨rfl, rfl⟩
    have hd : decide (n ≤ 600) = false := by simp [hfew]
    rw [hd]
    go_wp2
    go_ret
    exact ⟨rfl, HK1.out⟩
end Go.Proofs.YtbhiaeciiphelaaGreatDoor
