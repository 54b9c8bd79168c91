/-
  DERIVED. How what is reached spreads: the walk of the whole. Condition: the list lies in memory as read leaves it.
-/
import Derived.Test.YtbhiaeciiphelaaGreatDoorDepV
import Derived.Test.YtbhiaeciiphelaaGreatDoorShelf
import Derived.Laws.IdiomRangeMap
namespace Go.Proofs.YtbhiaeciiphelaaGreatDoor
open Go.RowKit Go.Shelf
theorem keeps_of_below {w w' : World} (h : Below w.heap.size w w') : Keeps w w' := ⟨h.os, h.tape, h.output, h.size, fun k hk _ => h.block k hk⟩
theorem clone_of (w : World) (v : Value) (l : List Int) (h : IntsAt w v l) (hl : l.length ≤ 1000000) :
    Calls Tryz.prog 96 #[v] w fun e w' => ∃ v', e = .returned v' ∧ w'.ownsRow w.heap.size 3 1 v' l.length (ints l) ∧ Keeps w w' := by
  obtain ⟨p, c, rfl, hc⟩ := h
  cases l with
  | nil =>
    cases p with
    | none =>
      refine (Tryz.slices_Clone_int_nil _ c w).mono ?_
      rintro _ w' ⟨rfl, rfl⟩
      exact ⟨_, rfl, World.ownsRow_nil _ _ _ _, Keeps.refl _⟩
    | some a =>
      refine (Tryz.slices_Clone_int_zero a c w).mono ?_
      rintro _ w' ⟨v', rfl, h1, _, h2⟩
      exact ⟨_, rfl, h1, keeps_of_below h2⟩
  | cons x l =>
    obtain ⟨g, o, rfl, _⟩ := hc 0 x rfl
    refine (Tryz.slices_Clone_int g o (x :: l).length c (x :: l) w (Nat.le_refl _) (by omega) (fun j hj => ?_)).mono ?_
    · obtain ⟨g', o', e, h2⟩ := hc j _ (List.getElem?_eq_getElem hj)
      injection e with e
      injection e with e1 e2
      subst e1 e2
      rw [h2, List.getD_eq_getElem?_getD, List.getElem?_eq_getElem hj]; rfl
    · rintro _ w' ⟨v', rfl, h1, _, h2⟩
      rw [List.take_length] at h1
      exact ⟨_, rfl, h1, keeps_of_below h2⟩
def mapLen (b : Nat) (W : World) : Nat := match W.heap[b]? with
  | some (.map es _) => es.size
  | _ => 0
theorem MapG.mapLen {α : Type} [DecidableEq α] {w : World} {M : Nat} {K : α → Value} {m : List (α × Int)} (h : MapG w M K m) : mapLen M w = m.length := by
  obtain ⟨es, cl, h1, h2, _⟩ := h.block
  have := congrArg List.length h2
  simp at this
  unfold YtbhiaeciiphelaaGreatDoor.mapLen
  rw [h1]; exact this
section
variable {w W : World} {B : SB} {L : Nat} {m : List (Int × Nat)} {met : List (Int × Int)} {next : List Int} {sm : List (Nat × Int)}
theorem SMem.cut {x : Int} (h : SMem w W B L m met (x :: next) sm) : ∃ g o cap, W.heap[B.n]? = some (.cells #[.slice (some ⟨g, o, none⟩) (next.length + 1) cap] 35 (0, 0)) ∧ W.cell? ⟨g, o, none⟩ = some (.int .i64 x) ∧
    (∀ W : World, (Instr.slice 35 (.slice (some ⟨g, o, none⟩) (next.length + 1) cap) (some (.int .i64 1)) none none).run Tryz.prog W = .ok (.slice (some ⟨g, (if cap = 1 then o else o + 1), none⟩) next.length (cap - 1)) W) ∧
    SMem w (W.setCell ⟨B.n, 0, none⟩ (.slice (some ⟨g, (if cap = 1 then o else o + 1), none⟩) next.length (cap - 1))) B L m met next sm := by
  obtain ⟨v, hv1, hv2⟩ := h.row
  obtain ⟨g, o, cap, rfl, h1, h2, h3⟩ := hv2.cut
  obtain ⟨es, cl, hs1, _⟩ := h.mapS.block
  obtain ⟨em, cm, hm1, _⟩ := h.mapM.block
  refine ⟨g, o, cap, hv1, h1, h2, ⟨Kept.one0 h.kept h.nb.2.2.2.1 _ _, ?_, ?_, ?_, h.mapS.same ?_, h.mapM.same ?_, ⟨_, by rw [heap_set_same hv1]; rfl, h3.same fun k hk => heap_set_other _ ?_⟩, h.keys, h.spans, h.bnd, h.pos, h.ne, h.nb⟩⟩
  · rw [heap_set_other _ (fun e => by have := h.hl; rw [e, hv1] at this; simp at this)]; exact h.hl
  · rw [heap_set_other _ (fun e => by have := h.hs; rw [e, hv1] at this; simp at this)]; exact h.hs
  · rw [heap_set_other _ (fun e => by have := h.hm; rw [e, hv1] at this; simp at this)]; exact h.hm
  · rw [heap_set_other _ (fun e => by rw [e, hv1] at hs1; simp at hs1)]
  · rw [heap_set_other _ (fun e => by rw [e, hv1] at hm1; simp at hm1)]
  · intro e
    obtain ⟨_, cur, hcur⟩ := h3.block hk
    rw [e, hv1] at hcur
    simp at hcur
theorem SMem.empty (h : SMem w W B L m met [] sm) : ∃ p c, W.heap[B.n]? = some (.cells #[.slice p 0 c] 35 (0, 0)) := by
  obtain ⟨v, hv1, hv2⟩ := h.row
  obtain ⟨p, c, rfl⟩ := hv2.form
  exact ⟨p, c, hv1⟩
end
def SpreadPost (evs : List Ev) (f : St) (fr : List Int) (w : World) (e : Ending) (w' : World) : Prop :=
  ∃ mm met lev, e = .returned (.map (some mm)) ∧ MapG w' mm kI met ∧ (∃ seen, Spr evs f fr none none met [] seen) ∧ Bfs evs f fr none met [] lev ∧ Keeps w w'
def lenAt (b : Nat) (W : World) : Nat := match W.cell? ⟨b, 0, none⟩ with
  | some (.slice _ n _) => n
  | _ => 0
theorem SMem.lenAt {w W : World} {B : SB} {L : Nat} {m : List (Int × Nat)} {met : List (Int × Int)} {next : List Int} {sm : List (Nat × Int)} (h : SMem w W B L m met next sm) : lenAt B.n W = next.length := by
  obtain ⟨v, hv1, hv2⟩ := h.row
  obtain ⟨p, c, rfl⟩ := hv2.form
  unfold YtbhiaeciiphelaaGreatDoor.lenAt
  rw [cell_of_block hv1]; rfl
set_option maxHeartbeats 8000000 in
set_option maxRecDepth 100000 in
theorem spread_of (w0 w : World) (a : Option Addr) (n c L M : Nat) (wv : Value) (m : List (Int × Nat)) (rf : Nat → Value) (evs : List Ev) (f : St) (h : EvIn w a n evs) (hro : readOf evs = some f)
    (hm : RMem w0 w (.slice a n c) L M wv m rf f.sps f.within) (v : Value) (fr : List Int) (hv : IntsAt w v fr) (hnd : fr.Nodup) (hfr : fr.length ≤ 60000) :
    Calls Tryz.prog 68 #[.pointer (some ⟨L, 0, none⟩), v] w (SpreadPost evs f fr w) := by
  have HI := Lib.hid h
  have HM := Lib.hid hm
  have HO := Lib.hid hro
  have HV := Lib.hid hv
  have HNd := Lib.hid hnd
  obtain ⟨pv, cv, rfl, hvc⟩ := hv
  have HVc := Lib.hid hvc
  clear h hm hro hnd hvc
  have hmm := @run_makeMap Tryz.prog
  go_enter Tryz.func68, Tryz.ntmps68
  go_wp2_with (go_at_call 96; refine hold ?_)
  refine Lib.hid ?_
  obtain ⟨W0, hW0⟩ : ∃ W0, W0 = (((((w.alloc (.cells #[.pointer (some ⟨L, 0, none⟩)] 93)).alloc (.map #[] 0)).alloc (.cells #[.map (some (w.heap.size + 1))] 137)).alloc (.map #[] 0)).alloc (.cells #[.map (some (w.heap.size + 1 + 1 + 1))] 177)) := ⟨_, rfl⟩
  have hk0 : Keeps w W0 := by rw [hW0]; exact Kept.alloc (Kept.alloc (Kept.alloc (Kept.alloc (Keeps.alloc _ _) _) _) _) _
  have e1 : (w.alloc (.cells #[.pointer (some ⟨L, 0, none⟩)] 93)).heap.size = w.heap.size + 1 := World.size_alloc _ _
  have e2 : ((w.alloc (.cells #[.pointer (some ⟨L, 0, none⟩)] 93)).alloc (.map #[] 0)).heap.size = w.heap.size + 1 + 1 := by rw [World.size_alloc, e1]
  have e3 : (((w.alloc (.cells #[.pointer (some ⟨L, 0, none⟩)] 93)).alloc (.map #[] 0)).alloc (.cells #[.map (some (w.heap.size + 1))] 137)).heap.size = w.heap.size + 1 + 1 + 1 := by rw [World.size_alloc, e2]
  have e4 : ((((w.alloc (.cells #[.pointer (some ⟨L, 0, none⟩)] 93)).alloc (.map #[] 0)).alloc (.cells #[.map (some (w.heap.size + 1))] 137)).alloc (.map #[] 0)).heap.size = w.heap.size + 1 + 1 + 1 + 1 := by rw [World.size_alloc, e3]
  have a1 : W0.heap[w.heap.size]? = some (.cells #[.pointer (some ⟨L, 0, none⟩)] 93 (0, 0)) := by rw [hW0]; exact heap_alloc_old _ (heap_alloc_old _ (heap_alloc_old _ (heap_alloc_old _ (heap_alloc_at _ _))))
  have a2 : W0.heap[w.heap.size + 1]? = some (.map #[] 0) := by rw [hW0]; refine heap_alloc_old _ (heap_alloc_old _ (heap_alloc_old _ ?_)); rw [← e1]; exact heap_alloc_at _ _
  have a3 : W0.heap[w.heap.size + 1 + 1]? = some (.cells #[.map (some (w.heap.size + 1))] 137 (0, 0)) := by rw [hW0]; refine heap_alloc_old _ (heap_alloc_old _ ?_); rw [← e2]; exact heap_alloc_at _ _
  have a4 : W0.heap[w.heap.size + 1 + 1 + 1]? = some (.map #[] 0) := by rw [hW0]; refine heap_alloc_old _ ?_; rw [← e3]; exact heap_alloc_at _ _
  have a5 : W0.heap[w.heap.size + 1 + 1 + 1 + 1]? = some (.cells #[.map (some (w.heap.size + 1 + 1 + 1))] 177 (0, 0)) := by rw [hW0, ← e4]; exact heap_alloc_at _ _
  have hsz0 : W0.heap.size = w.heap.size + 5 := by rw [hW0, World.size_alloc, e4]
  rw [← hW0]
  refine (clone_of W0 _ fr (HV.out.keeps hk0) (by omega)).mono ?_
  rintro _ w1 ⟨v', rfl, hrow, hk1⟩
  obtain ⟨B, hB⟩ : ∃ B : SB, B = ⟨w.heap.size, w.heap.size + 1 + 1 + 1 + 1, w.heap.size + 1 + 1, w1.heap.size, w.heap.size + 1 + 1 + 1, w.heap.size + 1⟩ := ⟨_, rfl⟩
  have hs0 : SMem w (w1.alloc (.cells #[v'] 35)) B L m [] fr [] := by
    rw [hB]
    have hno : ∀ x : Nat, ¬ False := fun _ x => x
    refine ⟨Kept.alloc (Keeps.trans hk0 hk1) _, heap_alloc_old _ (hk1.at a1 (fun x => x)), heap_alloc_old _ (hk1.at a5 (fun x => x)), heap_alloc_old _ (hk1.at a3 (fun x => x)), ⟨⟨_, _, heap_alloc_old _ (hk1.at a4 (fun x => x)), rfl, by simp, by simp⟩, by simp⟩, ⟨⟨_, _, heap_alloc_old _ (hk1.at a2 (fun x => x)), rfl, by simp, by simp⟩, by simp⟩, ⟨v', heap_alloc_at _ _, (Tail.of_own (row_lower hrow hk0.size)).alloc _⟩, fun p hp => by simp at hp, fun k y b hb => ?_, HM.out.bnd, fun p hp => by simp at hp, by show w.heap.size + 1 + 1 + 1 ≠ w.heap.size + 1; omega, ?_⟩
    · have hk : k < f.sps.length := by rw [← HM.out.len]; exact (List.getElem?_eq_some_iff.1 hb).1
      have h9 := HM.out.sp k _ _ (List.getElem?_eq_getElem hk) hb
      exact ⟨heap_lt h9, _, _, h9⟩
    · have := hk1.size
      simp only
      omega
  obtain ⟨pc, cc', rfl⟩ := row_slice hrow
  have HS0 := Lib.hid hs0
  clear hs0 hrow hk1 hk0 a1 a2 a3 a4 a5 e1 e2 e3 e4 hW0 hsz0
  have HB := Lib.hid hB
  have hb1 : B.m = w.heap.size + 1 + 1 := by rw [hB]
  have hb2 : B.mm = w.heap.size + 1 := by rw [hB]
  have hb3 : B.n = w1.heap.size := by rw [hB]
  have hb4 : B.s = w.heap.size + 1 + 1 + 1 + 1 := by rw [hB]
  have hb5 : B.l = w.heap.size := by rw [hB]
  have HB1 := Lib.hid hb1
  have HB2 := Lib.hid hb2
  have HB3 := Lib.hid hb3
  have HB4 := Lib.hid hb4
  have HB5 := Lib.hid hb5
  clear hb1 hb2 hb3 hb4 hb5 hB hmm
  go_wp2_with fail
  go_loopw [18] (fun q W => ∃ i : Nat, i ≤ fr.length ∧ q = .int .i64 i ∧ SMem w W B L m ((fr.take i).map fun z => (z, z)) fr []) (fun q _ => fr.length - (intOf q).toNat)
  case atStart => exact ⟨0, Nat.zero_le _, rfl, HS0.out⟩
  case round =>
    obtain ⟨i, hi, rfl, hS⟩ := hrel
    have hbm := cell_of_block hS.hm 0
    rw [HB1.out, HB2.out] at hbm
    simp at hbm
    have k7 : (0 : Int) ≤ i := by omega
    have HS := Lib.hid hS
    clear hS
    by_cases hil : i < fr.length
    · obtain ⟨z, hz⟩ : ∃ z, fr[i]? = some z := ⟨_, List.getElem?_eq_getElem hil⟩
      obtain ⟨g, o, rfl, hgc⟩ := HVc.out i z hz
      have hgc2 := cell_keeps HS.out.kept hgc
      have k6 : (i : Int) < fr.length := by omega
      have hnz : getG ((fr.take i).map fun z => (z, z)) z = none := by
        refine getG_none fun y hy => ?_
        obtain ⟨u, hu, e⟩ := List.mem_map.1 hy
        injection e with e1 e2
        subst e1
        obtain ⟨j, hj⟩ := List.mem_iff_getElem?.1 hu
        rw [List.getElem?_take] at hj
        split at hj
        · rename_i hji
          have := (List.getElem?_inj (by omega) HNd.out).1 (hj.trans hz.symm)
          omega
        · cases hj
      obtain ⟨w3, hput, hk3, -, hm3⟩ := HS.out.putM hnz z
      rw [HB2.out] at hput
      have HM3 := Lib.hid hm3
      have HZ := Lib.hid hz
      clear hm3 hk3 hz hnz hgc
      go_wp2_with fail
      go_roundw
      case rel =>
        refine ⟨i + 1, by omega, by go_num, ?_⟩
        obtain ⟨h1, h2⟩ := List.getElem?_eq_some_iff.1 HZ.out
        rw [List.take_succ_eq_append_getElem h1, h2, List.map_append]
        exact HM3.out
      case measure => simp [intOf] <;> omega
    · obtain rfl : i = fr.length := by omega
      rw [List.take_length] at HS
      go_wp2_with fail
      go_loopw [] (fun W => ∃ met next sm lev, SMem w W B L m met next sm ∧ Spr evs f fr none none met next (seenAt m sm) ∧ Bfs evs f fr none met next lev) (fun W => 2 * (90000 - mapLen B.mm W) + lenAt B.n W)
      case atStart =>
        refine ⟨_, _, _, fun _ => 0, HS.out, ?_, Bfs.start evs f fr⟩
        have e : seenAt m [] = fun _ => 0 := by
          funext k
          unfold seenAt
          cases m[k]? <;> rfl
        rw [e]
        exact Spr.start evs f fr
      case round =>
        obtain ⟨met, next, sm, lev, h1, h2, h3⟩ := hrel
        have T1 := Lib.hid h1
        have T2 := Lib.hid h2
        have T3 := Lib.hid h3
        have hbm2 := cell_of_block h1.hm 0
        rw [HB1.out, HB2.out] at hbm2
        simp at hbm2
        clear h1 h2 h3 hbm
        cases next with
        | nil =>
          obtain ⟨pn, cn, hbn⟩ := T1.out.empty
          have hbn2 := cell_of_block hbn 0
          rw [HB3.out] at hbn2
          simp at hbn2
          clear hbn
          go_wp2_with fail
          try rw [Exit.noGoto_ret]
          refine bodyPost_ret (results_tmp rfl _ _ _) rfl ?_
          have hM := T1.out.mapM
          rw [HB2.out] at hM
          exact ⟨_, met, lev, rfl, hM, ⟨_, T2.out⟩, T3.out, T1.out.kept⟩
        | cons x next =>
          obtain ⟨g, o, cap, hbn, hx, -, hm2⟩ := T1.out.cut
          have hbn2 := cell_of_block hbn 0
          have hbf2 := free_of_block hbn 0
          rw [HB3.out] at hbn2 hbf2
          simp at hbn2
          have k8 : (0 : Int) < (next.length : Int) + 1 := by omega
          obtain ⟨o', ho'⟩ : ∃ o', o' = if cap = 1 then o else o + 1 := ⟨_, rfl⟩
          rw [← ho'] at hm2
          have hsp := spread1_of w0 w (wr.setCell ⟨B.n, 0, none⟩ (.slice (some ⟨g, o', none⟩) next.length (cap - 1))) a n c L M wv m rf evs f HI.out HO.out HM.out B fr x ((met.length : Int) - next.length, met.length) met next sm lev ⟨hm2, T2.out.take, T3.out.take, rfl, Nat.le_refl _⟩ hfr
          rw [HB1.out, HB3.out, HB4.out, HB5.out] at hsp
          have hml1 := T1.out.mapM.mapLen
          have hml2 := T1.out.lenAt
          have hfw := T2.out.few HO.out T1.out.mapM.nd
          simp only [List.length_cons] at hml2
          have HSp := Lib.hid hsp
          have HL1 := Lib.hid hml1
          have HL2 := Lib.hid hml2
          clear hbn hm2 hsp hml1 hml2
          have hcc : cap = 1 ∨ ¬ cap = 1 := by omega
          rcases hcc with hcc | hcc
          · rw [if_pos hcc] at ho'
            subst hcc ho'
            go_wp2_with (go_at_call 97; refine HSp.out.mono ?_; rintro _ w4 ⟨rfl, met', next', sm', lev', hs4⟩; have H4 := Lib.hid hs4; clear hs4)
            go_roundw
            case rel => exact ⟨met', next', sm', lev', H4.out.mem, H4.out.spr, H4.out.bfs⟩
            case measure =>
              have h8 := H4.out.bal
              have h9 := H4.out.spr.few HO.out H4.out.mem.mapM.nd
              rw [HL1.out, HL2.out, H4.out.mem.mapM.mapLen, H4.out.mem.lenAt]
              have h7 := H4.out.spr.len
              simp only at h8
              omega
          · rw [if_neg hcc] at ho'
            subst ho'
            go_wp2_with (go_at_call 97; refine HSp.out.mono ?_; rintro _ w4 ⟨rfl, met', next', sm', lev', hs4⟩; have H4 := Lib.hid hs4; clear hs4)
            go_roundw
            case rel => exact ⟨met', next', sm', lev', H4.out.mem, H4.out.spr, H4.out.bfs⟩
            case measure =>
              have h8 := H4.out.bal
              have h9 := H4.out.spr.few HO.out H4.out.mem.mapM.nd
              rw [HL1.out, HL2.out, H4.out.mem.mapM.mapLen, H4.out.mem.lenAt]
              have h7 := H4.out.spr.len
              simp only at h8
              omega
end Go.Proofs.YtbhiaeciiphelaaGreatDoor
namespace Go.Proofs.YtbhiaeciiphelaaGreatDoor
open Go.RowKit
structure GJ (w3 W : World) (it bm since : Nat) (es : Array MapEntry) (seen : Array Nat) (out : List Int) (v : Value) : Prop where
  kept : Keeps w3 W
  hit : W.heap[it]? = some (.mapIter (some bm) since seen since)
  row : W.ownsRow w3.heap.size 3 1 v out.length (ints out)
  len : out.length + (leftOf es seen).size ≤ es.size
  mem : ∀ z, z ∈ out ↔ ∃ e ∈ es.toList, seen.contains e.born = true ∧ e.key = .int .i64 z
theorem left_le (es : Array MapEntry) (seen : Array Nat) : (leftOf es seen).size ≤ es.size := by
  unfold leftOf; exact Array.size_filter_le
theorem GJ.start {w3 : World} {bm since : Nat} {es : Array MapEntry} : GJ w3 (w3.alloc (.mapIter (some bm) since #[] since)) w3.heap.size bm since es #[] [] (.slice none 0 0) :=
  ⟨Keeps.alloc _ _, heap_alloc_at _ _, World.ownsRow_nil _ _ _ _, by have := left_le es #[]; simpa using this, fun z => by simp⟩
theorem GJ.step {w3 W W1 W2 : World} {it bm since : Nat} {es : Array MapEntry} {seen : Array Nat} {out : List Int} {v v' : Value} {e : MapEntry} {z : Int} {o : Obj} (h : GJ w3 W it bm since es seen out v) (hit3 : w3.heap.size ≤ it) (hn : (es.toList.map (·.born)).Nodup) (he : e ∈ (leftOf es seen).toList) (hz : e.key = .int .i64 z)
    (h1 : W1.heap[it]? = some (.mapIter (some bm) since (seen.push e.born) since)) (hk : Kept (fun b => b = it) W W1) (hg : (W1.alloc o).grownBy W2 v.ownBlock) (hr : W2.ownsRow w3.heap.size 3 1 v' (out.length + 1) (ints out ++ [.int .i64 z])) :
    GJ w3 W2 it bm since es (seen.push e.born) (out ++ [z]) v' := by
  have hne : v.ownBlock ≠ some it := by
    intro e8
    obtain ⟨cur, hc⟩ := row_block h.row e8
    rw [h.hit] at hc
    simp at hc
  have hk2 : Kept (fun b => v.ownBlock = some b) W1 W2 := ((Kept.refl _ W1).alloc o).grown hg (fun b hb _ => hb)
  obtain ⟨he1, he2⟩ := mem_left he
  refine ⟨Kept.trans (Kept.trans h.kept hk (fun b hb e8 => by omega)) hk2 (fun b hb e8 => by have := (h.row.lt b e8).1; omega), hk2.at h1 hne, ?_, ?_, fun z' => ?_⟩
  · have e1 : (out ++ [z]).length = out.length + 1 := by simp
    have e2 : ints (out ++ [z]) = ints out ++ [.int .i64 z] := by simp [ints]
    rw [e1, e2]; exact hr
  · have := left_shrinks es seen e he
    have := h.len
    simp only [List.length_append, List.length_singleton]
    omega
  · rw [List.mem_append, List.mem_singleton, h.mem]
    constructor
    · rintro (⟨e', h3, h4, h5⟩ | rfl)
      · exact ⟨e', h3, by rw [contains_push, h4]; rfl, h5⟩
      · exact ⟨e, he1, by rw [contains_push, beq_self_eq_true, Bool.or_true], hz⟩
    · rintro ⟨e', h3, h4, h5⟩
      rw [contains_push, Bool.or_eq_true] at h4
      rcases h4 with h4 | h4
      · exact .inl ⟨e', h3, h4, h5⟩
      · right
        have h6 : e'.born = e.born := by simpa using h4
        have h7 := find_born e es.toList hn he1
        have h8 := find_born e' es.toList hn h3
        rw [h6, h7] at h8
        injection h8 with h8
        rw [← h8, hz] at h5
        simpa using h5.symm
theorem GJ.all {w3 W : World} {it bm since : Nat} {es : Array MapEntry} {seen : Array Nat} {out : List Int} {v : Value} (h : GJ w3 W it bm since es seen out v) (h0 : (leftOf es seen).size = 0) {met : List (Int × Int)} (hm : es.toList.map (fun e => (e.key, e.val)) = met.map (fun p => (kI p.1, Value.int .i64 p.2))) :
    ∀ z, z ∈ out ↔ z ∈ met.map (·.1) := by
  intro z
  rw [h.mem]
  have hall : ∀ e ∈ es.toList, seen.contains e.born = true := by
    intro e he
    cases hc : seen.contains e.born with
    | true => rfl
    | false =>
      have : e ∈ leftOf es seen := by
        unfold leftOf
        rw [Array.mem_filter]
        exact ⟨Array.mem_toList_iff.1 he, by rw [hc]; rfl⟩
      have h2 := Array.size_pos_of_mem this
      omega
  constructor
  · rintro ⟨e, he, _, hz⟩
    have h1 : (e.key, e.val) ∈ met.map (fun p => (kI p.1, Value.int .i64 p.2)) := hm ▸ List.mem_map.2 ⟨e, he, rfl⟩
    obtain ⟨p, hp, e1⟩ := List.mem_map.1 h1
    injection e1 with e1 _
    rw [hz] at e1
    exact List.mem_map.2 ⟨p, hp, by simpa using e1⟩
  · intro hz
    obtain ⟨p, hp, rfl⟩ := List.mem_map.1 hz
    have h1 : (kI p.1, Value.int .i64 p.2) ∈ es.toList.map (fun e => (e.key, e.val)) := hm ▸ List.mem_map.2 ⟨p, hp, rfl⟩
    obtain ⟨e, he, e1⟩ := List.mem_map.1 h1
    injection e1 with e1 _
    exact ⟨e, he, hall e he, e1⟩
end Go.Proofs.YtbhiaeciiphelaaGreatDoor
