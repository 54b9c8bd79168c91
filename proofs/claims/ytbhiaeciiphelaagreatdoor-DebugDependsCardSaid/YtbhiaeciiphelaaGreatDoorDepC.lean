/-
  DERIVED. Contract of the reference's rising: the addresses that are marked, rising. Condition: the marks lie in a row.
-/
import Derived.Test.YtbhiaeciiphelaaGreatDoorShelf
import Derived.Test.YtbhiaeciiphelaaGreatDoorEvM
import Derived.WalkMore
import Derived.Test.YtbhiaeciiphelaaGreatDoorDepD
import Derived.Test.YtbhiaeciiphelaaGreatDoorEvX
import Derived.Test.YtbhiaeciiphelaaGreatDoorDepK
namespace Go.Proofs.YtbhiaeciiphelaaGreatDoor
open Go.RowKit
set_option maxHeartbeats 4000000 in
set_option maxRecDepth 100000 in
theorem refRising_of (w0 w : World) (D c : Nat) (ms : List Int) (h : Marked w0 w D ms) :
    Calls Tryz.prog 67 #[.slice (some ⟨D, 0, none⟩) 30000 c] w fun e w' => ∃ v, e = .returned v ∧ w'.ownsRow w.heap.size 3 1 v (slots ms).length (ints (slots ms)) ∧ Keeps w w' := by
  have HD := Lib.hid h
  obtain ⟨i3, hi3, hz3, hs3, hb3⟩ := info_parts info3
  clear h
  go_enter Tryz.func67, Tryz.ntmps67
  go_wp2_with fail
  go_loopw [3, 4] (fun v q W => ∃ i : Nat, i ≤ 30000 ∧ q = .int .i64 i ∧ W.ownsRow w.heap.size 3 1 v (slotsTo ms i).length (ints (slotsTo ms i)) ∧ Keeps w W) (fun _ q _ => 30000 - (intOf q).toNat)
  case atStart => exact ⟨0, by omega, rfl, World.ownsRow_nil _ _ _ _, Keeps.refl _⟩
  case round =>
    obtain ⟨i, hi, rfl, hrow, hk⟩ := hrel
    have HRow := Lib.hid hrow
    have HK := Lib.hid hk
    have HD2 := Lib.hid (HD.out.keeps hk)
    clear hrow hk
    by_cases hik : i < 30000
    · have m0 := HD2.out.cell (a := (i : Int)) (by omega) (by omega)
      have k6 : (i : Int) < 30000 := by omega
      have k7 : (0 : Int) ≤ i := by omega
      simp only [Int.toNat_natCast] at m0
      have hln := slotsTo_len ms i
      by_cases hin : (i : Int) ∈ ms
      · rw [decide_eq_true hin] at m0
        have HIn := Lib.hid hin
        clear hin
        go_wp2_with (at_builtin; (refine wpList_append_own_at _ rfl (.tmp 15) (.tmp 17) 35 rfl w.heap.size 3 i3 (.int .i64 0) 1 8 under35 hi3 hz3 hs3 hb3 rfl (by decide) u3 (slotsTo ms i).length (ints (slotsTo ms i)) rfl (HRow.out.alloc _) ⟨_, 0, none⟩ 1 1 [.int .i64 i] rfl rfl (cell_one_new _ _ _) (by simp [Value.oneCell']) (by unfold maxLen; omega) (by omega) (by have h9 := HK.out.size; rw [World.size_alloc]; omega) ?_; intro v5 w5 hown5 hgrow5 hnil5 hat5; have HO5 := Lib.hid hown5; have HK5 := Lib.hid (Kept.trans HK.out (((Kept.refl (fun b => u3.ownBlock = some b) wr).alloc _).grown hgrow5 (fun b hb _ => hb)) (fun b hb hb2 => by have := (HRow.out.lt b hb2).1; omega)); clear hown5 hgrow5 hnil5 hat5))
        go_roundw
        case rel =>
          refine ⟨i + 1, by omega, by go_num, ?_, HK5.out⟩
          have e1 : slotsTo ms (i + 1) = slotsTo ms i ++ [(i : Int)] := by rw [slotsTo_succ, if_pos HIn.out]
          rw [e1, List.length_append, show ints (slotsTo ms i ++ [(i : Int)]) = ints (slotsTo ms i) ++ [.int .i64 i] by simp [ints]]
          exact HO5.out
        case measure => simp [intOf] <;> omega
      · rw [decide_eq_false hin] at m0
        have HIn := Lib.hid hin
        clear hin
        go_wp2_with fail
        go_roundw
        case rel => exact ⟨i + 1, by omega, by go_num, by rw [slotsTo_succ, if_neg HIn.out, List.append_nil]; exact HRow.out, HK.out⟩
        case measure => simp [intOf] <;> omega
    · obtain rfl : i = 30000 := by omega
      go_wp2_with fail
      go_ret
      exact ⟨_, rfl, HRow.out, HK.out⟩
end Go.Proofs.YtbhiaeciiphelaaGreatDoor
namespace Go.Proofs.YtbhiaeciiphelaaGreatDoor
open Go.RowKit
theorem IsVis.uniq {sps : List Sp} {V V' : List (List Nat)} (h : IsVis sps V) (h' : IsVis sps V') (ho : ∀ (k : Nat) (p : Sp) (j : Nat), sps[k]? = some p → p.outer = some j → j < k) : V = V' := by
  have key : ∀ k : Nat, V[k]? = V'[k]? := by
    intro k
    induction k using Nat.strongRecOn with
    | _ k ih =>
      cases hp : sps[k]? with
      | none =>
        have hk := List.getElem?_eq_none_iff.1 hp
        rw [List.getElem?_eq_none (by rw [h.len]; exact hk), List.getElem?_eq_none (by rw [h'.len]; exact hk)]
      | some p =>
        rw [h.eq k p hp, h'.eq k p hp]
        cases hpo : p.outer with
        | none => rfl
        | some j => simp only [List.getD_eq_getElem?_getD, ih j (ho k p j hp hpo)]
  exact List.ext_getElem? key
open Classical in
noncomputable def visOf (f : St) : List (List Nat) := if h : ∃ V, IsVis f.sps V then h.choose else []
theorem visOf_eq {f : St} {V : List (List Nat)} (h : IsVis f.sps V) (ho : ∀ (k : Nat) (p : Sp) (j : Nat), f.sps[k]? = some p → p.outer = some j → j < k) : visOf f = V := by
  have hx : ∃ V, IsVis f.sps V := ⟨V, h⟩
  unfold visOf
  rw [dif_pos hx]
  exact hx.choose_spec.uniq h ho
noncomputable def seesOf (evs : List Ev) (f : St) (k : Nat) : List Int := ((visOf f).getD k []).map (addrAt evs)
theorem addr_all {evs : List Ev} {f : St} (hro : readOf evs = some f) (r : Nat) : 0 ≤ addrAt evs r ∧ addrAt evs r < 30000 := by
  unfold addrAt
  cases he : evs[r]? with
  | none => exact ⟨by decide, by decide⟩
  | some e =>
    have hr := (List.getElem?_eq_some_iff.1 he).1
    obtain ⟨s, st, wr, h1, _⟩ := momRun hro r (Nat.le_of_lt hr)
    cases hs : s.step r e with
    | none => have := read_stop h1 he hs; rw [hro] at this; cases this
    | some s' => exact form_addr (step_okform hs)
def idxOf (f : St) (y : Int) : Option Nat := f.sps.findIdx? fun p => p.addr == y
theorem idx_some {f : St} {y : Int} {k : Nat} (h : idxOf f y = some k) : ∃ p, f.sps[k]? = some p ∧ p.addr = y := by
  unfold idxOf at h
  obtain ⟨h1, h2, _⟩ := List.findIdx?_eq_some_iff_getElem.1 h
  exact ⟨_, List.getElem?_eq_getElem h1, by simpa using h2⟩
theorem idx_none {f : St} {y : Int} (h : idxOf f y = none) : f.sps.any (fun p => p.addr == y) = false := by
  unfold idxOf at h
  rw [List.any_eq_false]
  intro p hp
  have := List.findIdx?_eq_none_iff.1 h p hp
  simpa using this
noncomputable def outDirect (evs : List Ev) (y : Int) : List Int × Int := match readOf evs with
  | none => ([], 250)
  | some f => match idxOf f y with
    | none => ([], 3)
    | some k => (slots (seesOf evs f k), 0)
def DirPost (w : World) (r : List Int × Int) (x : Ending) (w' : World) : Prop := ∃ p c, x = .returned (.agg #[.slice p r.1.length c, .int .i64 r.2]) ∧ IntsAt w' (.slice p r.1.length c) r.1 ∧ Keeps w w'
theorem size72 : (Tryz.prog.info? 72).map (·.size) = some 2 := by kernel_rfl
theorem results_dir {fn : Func} {p : Tmp} (h : fn.results = #[.cell p 72]) (tmps : Array Value) (w : World) (g : Nat) (x y : Value) (hp : tmps.getD p undef = .pointer (some ⟨g, 0, none⟩)) (hg : w.heap[g]? = some (.cells #[x, y] 72 (0, 0))) :
    (results fn tmps).run Tryz.prog w = .ok (.agg #[x, y]) w :=
  results_cell_row h tmps w g 72 _ _ _ hp hg Tryz.underlying72 rfl size72
theorem two_sets {W : World} {B : Nat} {x y x' y' : Value} (h : W.heap[B]? = some (.cells #[x, y] 72 (0, 0))) : ((W.setCell ⟨B, 0, none⟩ x').setCell ⟨B, 1, none⟩ y').heap[B]? = some (.cells #[x', y'] 72 (0, 0)) := by
  rw [heap_set_same (heap_set_same h _) _]; rfl
theorem two_keeps {w W : World} {B : Nat} {x' y' : Value} (h : Keeps w W) (hB : w.heap.size ≤ B) : Keeps w ((W.setCell ⟨B, 0, none⟩ x').setCell ⟨B, 1, none⟩ y') := Kept.one0 (Kept.one0 h hB _ _) hB _ _
theorem dir_none {w w' : World} {k : Int} (hk : Keeps w w') : DirPost w ([], k) (.returned (.agg #[.slice none 0 0, .int .i64 k])) w' := ⟨none, 0, rfl, ⟨none, 0, rfl, fun j x h => by simp at h⟩, hk⟩
set_option maxHeartbeats 8000000 in
set_option maxRecDepth 100000 in
theorem refDirect_of (w : World) (a : Option Addr) (n c : Nat) (evs : List Ev) (h : EvIn w a n evs) (y : Int) :
    Calls Tryz.prog 36 #[.slice a n c, .int .i64 y] w (DirPost w (outDirect evs y)) := by
  have HI := Lib.hid h
  have hfew := h.few
  have hk0 : EvIn (w.alloc (.cells #[.slice none 0 0, .int .i64 0] 72)) a n evs := h.keeps (Keeps.alloc _ _)
  have HS := Lib.hid (refSpan_of _ a n c evs hk0 y)
  have HZ := Lib.hid (heap_alloc_at w (.cells #[.slice none 0 0, .int .i64 0] 72))
  have HK0 := Lib.hid (Keeps.alloc w (.cells #[.slice none 0 0, .int .i64 0] 72))
  clear h hk0
  cases hro : readOf evs with
  | none =>
    have ho : outDirect evs y = ([], 250) := by unfold outDirect; rw [hro]
    rw [outSpan_no hro] at HS
    rw [ho]
    clear ho hro
    go_enter Tryz.func36, Tryz.ntmps36
    go_wp2_with (go_at_call 16; refine HS.out.mono ?_; rintro _ w1 ⟨rfl, hk⟩; have HB := Lib.hid (hk.at HZ.out (fun x => x)); have b0 := cell_of_block HB.out 0; have b1 := cell_of_block HB.out 1; have f0 := free_of_block HB.out 0; have f1 := free_of_block HB.out 1; have l0 := heap_lt HB.out; simp at b0 b1; have HK := Lib.hid hk; clear hk)
    try rw [Exit.noGoto_ret]
    exact bodyPost_ret (results_dir rfl _ _ w.heap.size _ _ rfl (heap_alloc_old _ (two_sets HB.out))) rfl (dir_none (Kept.alloc (two_keeps (Keeps.trans HK0.out HK.out) (Nat.le_refl _)) _))
  | some f =>
    cases hix : idxOf f y with
    | none =>
      have ho : outDirect evs y = ([], 3) := by unfold outDirect; rw [hro]; simp only [hix]
      rw [outSpan_none hro (idx_none hix)] at HS
      rw [ho]
      clear ho hro hix
      go_enter Tryz.func36, Tryz.ntmps36
      go_wp2_with (go_at_call 16; refine HS.out.mono ?_; rintro _ w1 ⟨rfl, hk⟩; have HB := Lib.hid (hk.at HZ.out (fun x => x)); have b0 := cell_of_block HB.out 0; have b1 := cell_of_block HB.out 1; have f0 := free_of_block HB.out 0; have f1 := free_of_block HB.out 1; have l0 := heap_lt HB.out; simp at b0 b1; have HK := Lib.hid hk; clear hk)
      try rw [Exit.noGoto_ret]
      exact bodyPost_ret (results_dir rfl _ _ w.heap.size _ _ rfl (heap_alloc_old _ (two_sets HB.out))) rfl (dir_none (Kept.alloc (two_keeps (Keeps.trans HK0.out HK.out) (Nat.le_refl _)) _))
    | some k =>
      obtain ⟨p, hp, hpy⟩ := idx_some hix
      have ho : outDirect evs y = (slots (seesOf evs f k), 0) := by unfold outDirect; rw [hro]; simp only [hix]
      rw [outSpan_yes hro hp hpy] at HS
      rw [ho]
      obtain ⟨s0, st0, wr0, hr0, ha0⟩ := momRun hro evs.length (Nat.le_refl _)
      rw [List.take_length] at hr0
      obtain ⟨rfl, _⟩ := momEnd hro hr0 ha0
      have hin := InB.run _ _ _ _ InB.start hr0
      obtain ⟨py0, py1⟩ := hin k p hp
      rw [hpy] at py0 py1
      have hka : (s0.sps.map (·.addr))[k]? = some y := by rw [List.getElem?_map, hp, ← hpy]; rfl
      have hkl : k < s0.sps.length := (List.getElem?_eq_some_iff.1 hp).1
      have HSe := Lib.hid (fun (W : World) (hK : Keeps w W) => sees_of W a n c evs (HI.out.keeps hK) s0 hro)
      have HKa := Lib.hid hka
      have HKl := Lib.hid hkl
      have HOu := Lib.hid ha0.ok.outer
      obtain ⟨big, hbig⟩ : ∃ big, big = madeCells #[.bool false] 30000 := ⟨_, rfl⟩
      have hmk : ∀ w : World, (Instr.makeSlice 49 (.int .i64 30000) (.int .i64 30000)).run Tryz.prog w = .ok (.slice (some ⟨w.heap.size, 0, none⟩) 30000 30000) (w.alloc (.cells big 4)) := by
        intro w
        rw [hbig]
        exact run_make_row' 49 4 (.bool false) 1 (by kernel_rfl) info4 rfl .i64 .i64 30000 (by decide) (by decide) w
      have Hbig := Lib.hid hbig
      have HRo := Lib.hid hro
      clear ho hro hix hp hpy hr0 ha0 hin hka hkl hbig
      go_enter Tryz.func36, Tryz.ntmps36
      go_wp2_with (first
        | (go_at_call 16; refine HS.out.mono ?_; rintro _ w1 ⟨rfl, hk⟩; have HB := Lib.hid (hk.at HZ.out (fun x => x)); have b0 := cell_of_block HB.out 0; have b1 := cell_of_block HB.out 1; have f0 := free_of_block HB.out 0; have f1 := free_of_block HB.out 1; have l0 := heap_lt HB.out; simp at b0 b1; have HK := Lib.hid hk; clear hk)
        | (go_at_call 66; refine hold ?_))
      refine Lib.hid ?_
      refine (HSe.out _ (Keeps.trans (Keeps.trans HK0.out HK.out) (Kept.alloc (Keeps.alloc _ _) _))).mono ?_
      rintro _ w3 ⟨B, F, C, V, rfl, _, hvis, hvl, hmm, hC⟩
      have hl := hC k HKl.out
      rw [← visOf_eq hvis HOu.out] at hl
      have hll : (C (k + 1)).length ≤ n := by rw [hC k HKl.out, List.length_map]; exact hvl k
      change C (k + 1) = seesOf evs s0 k at hl
      obtain ⟨D, hD⟩ : ∃ D, D = w1.heap.size + 1 := ⟨_, rfl⟩
      have hd2 : Marked w ((w1.alloc (.cells #[.int .i64 p.frm, .int .i64 p.to, .int .i64 0] 31)).alloc (.cells big 4)) D [] := by
        refine ⟨by rw [hD]; omega, big, ?_, by rw [Hbig.out]; exact size_madeCells _ _, fun a h0 h1 => ?_⟩
        · have h9 := heap_alloc_at (w1.alloc (.cells #[.int .i64 p.frm, .int .i64 p.to, .int .i64 0] 31)) (.cells big 4)
          rw [World.size_alloc] at h9
          rw [hD]; exact h9
        · rw [Hbig.out]
          simp [madeCells, h1, Nat.mod_one]
      have hkw3 := Keeps.trans (Keeps.trans (Keeps.trans HK0.out HK.out) (Kept.alloc (Keeps.alloc w1 (.cells #[.int .i64 p.frm, .int .i64 p.to, .int .i64 0] 31)) (.cells big 4))) hmm.kept
      have HKw := Lib.hid hkw3
      have HD3 := Lib.hid (hd2.keeps hmm.kept)
      have HB3 := Lib.hid (hmm.kept.at (heap_alloc_old (.cells big 4) (heap_alloc_old (.cells #[.int .i64 p.frm, .int .i64 p.to, .int .i64 0] 31) HB.out)) (fun x => x))
      have y1 := hmm.cell HKa.out
      have y2 := hmm.lt
      have hrow := hmm.fam.rows (k + 1) (by rw [List.length_map]; have := HKl.out; omega)
      obtain ⟨p5, c5, hF⟩ := row_slice hrow
      rw [hF] at y1 hrow
      rw [hl] at y1 hrow hll
      rw [← hD]
      have hDB : w.heap.size < D := by rw [hD]; omega
      obtain ⟨l, hls⟩ : ∃ l, l = seesOf evs s0 k := ⟨_, rfl⟩
      have hla : ∀ x ∈ l, 0 ≤ x ∧ x < 30000 := by
        intro x hx
        rw [hls] at hx
        obtain ⟨r, _, rfl⟩ := List.mem_map.1 hx
        exact addr_all HRo.out r
      rw [← hls] at y1 hrow hll ⊢
      have HRow := Lib.hid hrow
      have HLa := Lib.hid hla
      have HLs := Lib.hid hls
      clear hvis hvl hmm hC hl hD hd2 hkw3 hrow hF hls hla b0 b1 f0 f1
      go_wp2_with fail
      go_loopw [8] (fun q W => ∃ j : Nat, j ≤ l.length ∧ q = .int .i64 j ∧ Marked w W D (l.take j) ∧ Kept (fun b => b = D) w3 W) (fun q _ => l.length - (intOf q).toNat)
      case atStart => exact ⟨0, Nat.zero_le _, rfl, HD3.out, Kept.refl _ _⟩
      case round =>
        obtain ⟨j, hj, rfl, hd, hk3⟩ := hrel
        have hrowW := row_same HRow.out fun g hg => hk3.block g (HRow.out.lt g hg).2 fun e => by
          obtain ⟨cur, hc⟩ := row_block HRow.out hg
          obtain ⟨cu2, hc2, _⟩ := HD3.out.row
          rw [e, hc2] at hc
          simp at hc
        have HRW := Lib.hid hrowW
        have HD4 := Lib.hid hd
        have HK3 := Lib.hid hk3
        clear hd hk3 hrowW
        by_cases hjl : j < l.length
        · obtain ⟨x, hx⟩ : ∃ x, l[j]? = some x := ⟨l[j], List.getElem?_eq_getElem _⟩
          obtain ⟨px, cx, hpx, hcell⟩ := ints_at HRW.out
          injection hpx with hpx _ hcx
          subst hpx hcx
          obtain ⟨g, o, rfl, hc⟩ := hcell j x hx
          obtain ⟨x0, x1⟩ := HLa.out x (List.mem_of_getElem? hx)
          have m0 := HD4.out.cell x0 x1
          have m1 := HD4.out.free x.toNat
          have l4 := HD4.out.lt
          have k6 : (j : Int) < l.length := by omega
          have k7 : (0 : Int) ≤ j := by omega
          have HX := Lib.hid hx
          clear hcell hx
          go_wp2_with fail
          go_roundw
          case rel =>
            refine ⟨j + 1, by omega, by go_num, ?_, HK3.out.one1 _ _⟩
            have h9 := HD4.out.mark x0 x1
            have h8 : l.take (j + 1) = l.take j ++ [x] := by
              obtain ⟨h1, h2⟩ := List.getElem?_eq_some_iff.1 HX.out
              rw [List.take_succ_eq_append_getElem h1, h2]
            rw [h8]; exact h9
          case measure => simp [intOf] <;> omega
        · obtain rfl : j = l.length := by omega
          have hd5 := HD4.out
          rw [List.take_length] at hd5
          have HR5 := Lib.hid (refRising_of w wr D 30000 l hd5)
          have HB5 := Lib.hid (HK3.out.at HB3.out (by omega))
          clear hd5
          go_wp2_with (go_at_call 67; refine hold ?_)
          refine Lib.hid ?_
          refine HR5.out.mono ?_
          rintro _ w5 ⟨v, rfl, hrow5, hk5⟩
          obtain ⟨p6, c6, rfl⟩ := row_slice hrow5
          have HB6 := Lib.hid (hk5.at HB5.out (fun x => x))
          have HO5 := Lib.hid hrow5
          have HK5 := Lib.hid hk5
          have hlt6 := heap_lt HB5.out
          clear hrow5 hk5
          have b0 := cell_of_block HB6.out 0
          have b1 := cell_of_block HB6.out 1
          have f0 := free_of_block HB6.out 0
          have f1 := free_of_block HB6.out 1
          simp at b0 b1
          go_wp2_with fail
          try rw [Exit.noGoto_ret]
          refine bodyPost_ret (results_dir rfl _ _ w.heap.size _ _ rfl (two_sets HB6.out)) rfl ?_
          rw [← HLs.out]
          refine ⟨p6, c6, rfl, ints_at (row_same HO5.out fun g hg => ?_), two_keeps (Keeps.trans (Kept.trans HKw.out HK3.out (fun b hb e => by have := hb; omega)) HK5.out) (Nat.le_refl _)⟩
          have h1 := (HO5.out.lt g hg).1
          rw [heap_set_other _ (by omega), heap_set_other _ (by omega)]
end Go.Proofs.YtbhiaeciiphelaaGreatDoor
namespace Go.Proofs.YtbhiaeciiphelaaGreatDoor
open Go.RowKit
theorem vis_ex {sps : List Sp} (ho : ∀ (k : Nat) (p : Sp) (j : Nat), sps[k]? = some p → p.outer = some j → j < k) : ∃ V, IsVis sps V := by
  have key : ∀ n : Nat, n ≤ sps.length → ∃ V : List (List Nat), V.length = n ∧ ∀ (k : Nat) (p : Sp), k < n → sps[k]? = some p → V[k]? = some ((match p.outer with | some j => (V.getD j []).filter fun r => decide (r < p.frm) | none => []) ++ p.reads) := by
    intro n
    induction n with
    | zero => exact fun _ => ⟨[], rfl, fun k p hk => absurd hk (Nat.not_lt_zero _)⟩
    | succ n ih =>
      intro hn
      obtain ⟨V, hl, hV⟩ := ih (by omega)
      have hp := List.getElem?_eq_getElem (show n < sps.length by omega)
      have hget : ∀ (j : Nat) (y : List Nat), j < n → (V ++ [y]).getD j [] = V.getD j [] := by
        intro j y hj
        rw [List.getD_eq_getElem?_getD, List.getD_eq_getElem?_getD, List.getElem?_append_left (by omega)]
      refine ⟨V ++ [(match (sps[n]).outer with | some j => (V.getD j []).filter fun r => decide (r < (sps[n]).frm) | none => []) ++ (sps[n]).reads], by simp [hl], fun k p hk hkp => ?_⟩
      by_cases e : k < n
      · rw [List.getElem?_append_left (by omega), hV k p e hkp]
        cases hpo : p.outer with
        | none => rfl
        | some j => simp only [hget j _ (Nat.lt_trans (ho k p j hkp hpo) e)]
      · have : k = n := by omega
        subst this
        rw [hp] at hkp
        injection hkp with hkp
        subst hkp
        rw [List.getElem?_append_right (by omega), hl, Nat.sub_self, List.getElem?_cons_zero]
        cases hpo : (sps[k]).outer with
        | none => rfl
        | some j => simp only [hget j _ (ho k _ j hp hpo)]
  obtain ⟨V, hl, hV⟩ := key sps.length (Nat.le_refl _)
  exact ⟨V, hl, fun k p hp => hV k p (List.getElem?_eq_some_iff.1 hp).1 hp⟩
theorem frm_step {evs : List Ev} {i : Nat} {s s' : St} {e : Ev} (h : StOk evs i s) (hm : (s.sps.map (·.frm)).Pairwise (· < ·)) (hs : s.step i e = some s') : (s'.sps.map (·.frm)).Pairwise (· < ·) := by
  rcases step_cases hs with ⟨k1, hany, rfl⟩ | ⟨k, p, htop, hp, k2, rfl⟩ | ⟨k, p, htop, hp, k3, hpa, rfl⟩
  · rw [List.map_append, List.pairwise_append]
    refine ⟨hm, by simp, fun x hx y hy => ?_⟩
    simp at hy
    subst hy
    obtain ⟨q, hq, rfl⟩ := List.mem_map.1 hx
    obtain ⟨j, hj, hj2⟩ := List.getElem_of_mem hq
    exact (h.frm j q (by rw [List.getElem?_eq_getElem hj, hj2])).1
  · show ((s.sps.set k { p with reads := p.reads ++ [i] }).map (·.frm)).Pairwise (· < ·)
    rw [map_set_same (q := { p with reads := p.reads ++ [i] }) (·.frm) hp rfl]; exact hm
  · show ((s.sps.set k { p with to := i }).map (·.frm)).Pairwise (· < ·)
    rw [map_set_same (q := { p with to := i }) (·.frm) hp rfl]; exact hm
theorem frm_run {evs : List Ev} {f : St} (hro : readOf evs = some f) : ∀ i : Nat, i ≤ evs.length → ∃ s st wr, St.start.run 0 (evs.take i) = some s ∧ AtM evs i s st wr ∧ (s.sps.map (·.frm)).Pairwise (· < ·) := by
  intro i
  induction i with
  | zero => exact fun _ => ⟨St.start, [], [], rfl, .start evs, by simp [St.start]⟩
  | succ i ih =>
    intro hi
    obtain ⟨s, st, wr, h1, h2, h3⟩ := ih (by omega)
    have he := List.getElem?_eq_getElem (show i < evs.length by omega)
    cases hs : s.step i evs[i] with
    | none => have := read_stop h1 he hs; rw [hro] at this; cases this
    | some s' => exact ⟨s', _, _, (St.run_take _ _ _ _ _ h1 he).trans hs, h2.step he hs, frm_step h2.ok h3 hs⟩
theorem gath_sees {evs : List Ev} {f : St} (hro : readOf evs = some f) {k : Nat} (hk : k < f.sps.length) {wl : List (Nat × Nat)} (hw : Ways f.sps (some k) evs.length wl) : rise (gath evs f wl wl.length) = slots (seesOf evs f k) := by
  obtain ⟨s, st, wr, hr, ha, hfm⟩ := frm_run hro evs.length (Nat.le_refl _)
  rw [List.take_length] at hr
  obtain ⟨rfl, _⟩ := momEnd hro hr ha
  obtain ⟨V, hV⟩ := vis_ex ha.ok.outer
  have hlt := hV.lt (fun k p hp => (ha.rds k p hp).2) ha.ok.outer
  have hmem := hw.mem hV (fun k p hp => (ha.rds k p hp).1) (fun k j p q hp hpo hq => by
      have hjk := ha.ok.outer k p j hp hpo
      have h1 := (List.pairwise_iff_getElem.1 hfm) j k (by simpa using Nat.lt_trans hjk (List.getElem?_eq_some_iff.1 hp).1) (by simpa using (List.getElem?_eq_some_iff.1 hp).1) hjk
      simp only [List.getElem_map, (List.getElem?_eq_some_iff.1 hp).2, (List.getElem?_eq_some_iff.1 hq).2] at h1
      omega) (fun k p _ hp => Nat.le_of_lt (ha.ok.frm k p hp).1)
  have hall : ∀ a ∈ gath evs s wl wl.length, 0 ≤ a ∧ a < 30000 := by
    intro a h
    unfold gath at h
    obtain ⟨x, _, h2⟩ := List.mem_flatMap.1 h
    obtain ⟨r, _, rfl⟩ := List.mem_map.1 h2
    exact addr_all hro r
  rw [rise_slots hall]
  refine slots_congr fun a => ?_
  unfold gath seesOf
  rw [visOf_eq hV ha.ok.outer, List.take_length, List.mem_flatMap, List.mem_map]
  constructor
  · rintro ⟨x, hx, h2⟩
    obtain ⟨r, hr2, rfl⟩ := List.mem_map.1 h2
    obtain ⟨i, hi, hix⟩ := List.getElem_of_mem hx
    obtain ⟨p, hp, _⟩ := hw.step i x (by rw [List.getElem?_eq_getElem hi, hix])
    have h3 : r ∈ p.reads.take x.2 := by
      have : readsOf s x.1 = p.reads := by unfold readsOf; rw [hp]
      rw [this] at hr2; exact hr2
    obtain ⟨k', hk', h4⟩ := (hmem r).1 ⟨x, hx, p, hp, h3⟩
    injection hk' with hk'
    subst hk'
    exact ⟨r, (List.mem_filter.1 h4).1, rfl⟩
  · rintro ⟨r, hr2, rfl⟩
    obtain ⟨x, hx, p, hp, h3⟩ := (hmem r).2 ⟨k, rfl, List.mem_filter.2 ⟨hr2, by simpa using hlt k r hr2⟩⟩
    refine ⟨x, hx, List.mem_map.2 ⟨r, ?_, rfl⟩⟩
    have : readsOf s x.1 = p.reads := by unfold readsOf; rw [hp]
    rw [this]; exact h3
def DirPostD (w : World) (r : List Int × Int) (x : Ending) (w' : World) : Prop := ∃ p c, x = .returned (.tuple #[.slice p r.1.length c, .int .i64 r.2]) ∧ IntsAt w' (.slice p r.1.length c) r.1 ∧ Keeps w w'
theorem dird_none {w w' : World} {k : Int} (hk : Keeps w w') : DirPostD w ([], k) (.returned (.tuple #[.slice none 0 0, .int .i64 k])) w' := ⟨none, 0, rfl, ⟨none, 0, rfl, fun j x h => by simp at h⟩, hk⟩
set_option maxHeartbeats 4000000 in
set_option maxRecDepth 100000 in
theorem debugDirect_of (w : World) (a : Option Addr) (n c : Nat) (evs : List Ev) (h : EvIn w a n evs) (y : Int) :
    Calls Tryz.prog 35 #[.slice a n c, .int .i64 y] w (DirPostD w (outDirect evs y)) := by
  have HI := Lib.hid h
  cases hro : readOf evs with
  | none =>
    have ho : outDirect evs y = ([], 250) := by unfold outDirect; rw [hro]
    rw [ho]
    have HF := Lib.hid (found_no w a n c evs h y hro)
    clear h ho hro
    go_enter Tryz.func35, Tryz.ntmps35
    go_wp2_with (go_at_call 48; refine HF.out.mono ?_; rintro _ w1 ⟨rfl, hk⟩; have HK := Lib.hid hk; clear hk)
    go_ret2
    exact dird_none HK.out
  | some f =>
    cases hix : idxOf f y with
    | none =>
      have ho : outDirect evs y = ([], 3) := by unfold outDirect; rw [hro]; simp only [hix]
      rw [ho]
      have HF := Lib.hid (found_none w a n c evs h y f hro (idx_none hix))
      clear h ho hro hix
      go_enter Tryz.func35, Tryz.ntmps35
      go_wp2_with (go_at_call 48; refine HF.out.mono ?_; rintro _ w1 ⟨rfl, hk⟩; have HK := Lib.hid hk; clear hk)
      go_ret2
      exact dird_none HK.out
    | some k =>
      obtain ⟨p, hp, hpy⟩ := idx_some hix
      have ho : outDirect evs y = (slots (seesOf evs f k), 0) := by unfold outDirect; rw [hro]; simp only [hix]
      rw [ho]
      have hany : f.sps.any (fun p => p.addr == y) = true := List.any_eq_true.2 ⟨p, List.mem_of_getElem? hp, by simp [hpy]⟩
      obtain ⟨s, st, wr, hr, ha⟩ := momRun hro evs.length (Nat.le_refl _)
      rw [List.take_length] at hr
      obtain ⟨rfl, _⟩ := momEnd hro hr ha
      have hkl := (List.getElem?_eq_some_iff.1 hp).1
      obtain ⟨wl, hw⟩ := Ways.ex ha.ok.outer k evs.length hkl
      have hgs := gath_sees hro hkl hw
      have huni : ∀ (j : Nat) (q : Sp), s.sps[j]? = some q → q.addr = y → j = k := by
        intro j q hq hqy
        have e1 : (s.sps.map (·.addr))[j]? = some y := by rw [List.getElem?_map, hq, ← hqy]; rfl
        have e2 : (s.sps.map (·.addr))[k]? = some y := by rw [List.getElem?_map, hp, ← hpy]; rfl
        exact (List.getElem?_inj (List.getElem?_eq_some_iff.1 e1).1 ha.ok.nd).1 (e1.trans e2.symm)
      have HF := Lib.hid (found_yes w a n c evs h y s hro hany)
      have HU := Lib.hid huni
      have HW := Lib.hid hw
      have HG := Lib.hid hgs
      have HO := Lib.hid hro
      clear h ho hro hix hp hpy hany hr ha hkl hw hgs huni
      go_enter Tryz.func35, Tryz.ntmps35
      go_wp2_with (go_at_call 48; refine hold ?_)
      refine Lib.hid ?_
      refine HF.out.mono ?_
      rintro _ w1 ⟨L, M, wv, m, rf, k', p', b, rfl, hm, hp', hpy', hmb⟩
      obtain rfl := HU.out k' p' hp' hpy'
      have HD := Lib.hid (direct_of w w1 a n c L M wv m rf evs s (HI.out.keeps hm.kept) HO.out hm k' b y wl HW.out hmb)
      have HK := Lib.hid hm.kept
      clear hm hp' hpy' hmb
      go_wp2_with (go_at_call 65; refine hold ?_)
      refine Lib.hid ?_
      refine HD.out.mono ?_
      rintro _ w2 ⟨v, rfl, hrow, hk⟩
      rw [HG.out] at hrow
      obtain ⟨p5, c5, rfl⟩ := row_slice hrow
      have HRow := Lib.hid hrow
      have HK2 := Lib.hid hk
      clear hrow hk
      go_wp2
      go_ret2
      exact ⟨p5, c5, rfl, ints_at HRow.out, Keeps.trans HK.out HK2.out⟩
end Go.Proofs.YtbhiaeciiphelaaGreatDoor
namespace Go.Proofs.YtbhiaeciiphelaaGreatDoor
open Go.RowKit
noncomputable def sq (evs : List Ev) (f : St) (a : Int) : List Int := match idxOf f a with | some k => seesOf evs f k | none => []
theorem sees_at {wS W : World} {B : Nat} {F : Nat → Value} {C : Nat → List Int} {evs : List Ev} {f : St} (h : SeesMem wS W B (f.sps.map (·.addr)) F C) (hC : ∀ k, k < f.sps.length → C (k + 1) = seesOf evs f k) {a : Int} (h0 : 0 ≤ a) (h1 : a < 30000) :
    ∃ v, W.cell? ⟨B, a.toNat, none⟩ = some v ∧ W.ownsRow wS.heap.size 3 1 v (sq evs f a).length (ints (sq evs f a)) := by
  unfold sq
  cases hix : idxOf f a with
  | none =>
    have hna := not_in (idx_none hix)
    exact ⟨_, h.bare h0 h1 hna, World.ownsRow_nil _ _ _ _⟩
  | some k =>
    obtain ⟨p, hp, hpa⟩ := idx_some hix
    have hk := (List.getElem?_eq_some_iff.1 hp).1
    have hka : (f.sps.map (·.addr))[k]? = some a := by rw [List.getElem?_map, hp, ← hpa]; rfl
    have hr := h.fam.rows (k + 1) (by rw [List.length_map]; omega)
    rw [hC k hk] at hr
    exact ⟨_, h.cell hka, hr⟩
structure Reach (evs : List Ev) (f : St) (y : Int) (R : List Int) : Prop where
  first : ∀ z ∈ sq evs f y, z ∈ R
  next : ∀ x ∈ R, ∀ z ∈ sq evs f x, z ∈ R
  least : ∀ P : Int → Prop, (∀ z ∈ sq evs f y, P z) → (∀ x, P x → ∀ z ∈ sq evs f x, P z) → ∀ x ∈ R, P x
theorem Reach.same {evs : List Ev} {f : St} {y : Int} {R R' : List Int} (h : Reach evs f y R) (h' : Reach evs f y R') : ∀ x, x ∈ R ↔ x ∈ R' := fun x =>
  ⟨fun hx => h.least (· ∈ R') h'.first (fun a ha z hz => h'.next a ha z hz) x hx, fun hx => h'.least (· ∈ R) h.first (fun a ha z hz => h.next a ha z hz) x hx⟩
structure Todo (evs : List Ev) (f : St) (y : Int) (T R : List Int) : Prop where
  inT : ∀ x ∈ T, x = y ∨ x ∈ R
  done : ∀ x, x = y ∨ x ∈ R → x ∈ T ∨ ∀ z ∈ sq evs f x, z ∈ R
  least : ∀ P : Int → Prop, (∀ z ∈ sq evs f y, P z) → (∀ x, P x → ∀ z ∈ sq evs f x, P z) → ∀ x ∈ R, P x
  rng : ∀ x ∈ R, 0 ≤ x ∧ x < 30000
theorem Todo.start (evs : List Ev) (f : St) (y : Int) : Todo evs f y [y] [] := ⟨fun x hx => .inl (by simpa using hx), fun x hx => .inl (by simpa using hx), fun P _ _ x hx => by simp at hx, fun x hx => by simp at hx⟩
theorem Todo.fin {evs : List Ev} {f : St} {y : Int} {R : List Int} (h : Todo evs f y [] R) : Reach evs f y R :=
  ⟨fun z hz => (h.done y (.inl rfl)).elim (fun x => by simp at x) (fun x => x z hz), fun x hx z hz => (h.done x (.inr hx)).elim (fun x => by simp at x) (fun x => x z hz), h.least⟩
structure Doing (evs : List Ev) (f : St) (y a : Int) (i : Nat) (T R : List Int) : Prop where
  here : a = y ∨ a ∈ R
  inT : ∀ x ∈ T, x = y ∨ x ∈ R
  seen : ∀ (j : Nat) (z : Int), j < i → (sq evs f a)[j]? = some z → z ∈ R
  done : ∀ x, x = y ∨ x ∈ R → x = a ∨ x ∈ T ∨ ∀ z ∈ sq evs f x, z ∈ R
  least : ∀ P : Int → Prop, (∀ z ∈ sq evs f y, P z) → (∀ x, P x → ∀ z ∈ sq evs f x, P z) → ∀ x ∈ R, P x
  rng : ∀ x ∈ R, 0 ≤ x ∧ x < 30000
theorem Todo.take {evs : List Ev} {f : St} {y a : Int} {T R : List Int} (h : Todo evs f y (T ++ [a]) R) : Doing evs f y a 0 T R :=
  ⟨h.inT a (by simp), fun x hx => h.inT x (List.mem_append.2 (.inl hx)), fun j z hj => absurd hj (Nat.not_lt_zero _), fun x hx => (h.done x hx).elim (fun hm => (List.mem_append.1 hm).elim (fun hm => .inr (.inl hm)) (fun hm => .inl (by simpa using hm))) (fun hm => .inr (.inr hm)), h.least, h.rng⟩
theorem Doing.old {evs : List Ev} {f : St} {y a z : Int} {i : Nat} {T R : List Int} (h : Doing evs f y a i T R) (hz : (sq evs f a)[i]? = some z) (hm : z ∈ R) : Doing evs f y a (i + 1) T R :=
  ⟨h.here, h.inT, fun j x hj hx => by
    by_cases e : j = i
    · subst e; rw [hz] at hx; injection hx with hx; subst hx; exact hm
    · exact h.seen j x (by omega) hx, h.done, h.least, h.rng⟩
theorem Doing.new {evs : List Ev} {f : St} {y a z : Int} {i : Nat} {T R : List Int} (h : Doing evs f y a i T R) (hz : (sq evs f a)[i]? = some z) (h0 : 0 ≤ z ∧ z < 30000) : Doing evs f y a (i + 1) (T ++ [z]) (R ++ [z]) := by
  have hmem := List.mem_of_getElem? hz
  refine ⟨h.here.imp id (fun h => List.mem_append.2 (.inl h)), fun x hx => ?_, fun j x hj hx => ?_, fun x hx => ?_, fun P h1 h2 x hx => ?_, fun x hx => ?_⟩
  · rcases List.mem_append.1 hx with hx | hx
    · exact (h.inT x hx).imp id (fun h => List.mem_append.2 (.inl h))
    · exact .inr (List.mem_append.2 (.inr hx))
  · by_cases e : j = i
    · subst e; rw [hz] at hx; injection hx with hx; subst hx; simp
    · exact List.mem_append.2 (.inl (h.seen j x (by omega) hx))
  · rcases hx with hx | hx
    · rcases h.done x (.inl hx) with h3 | h3 | h3
      · exact .inl h3
      · exact .inr (.inl (List.mem_append.2 (.inl h3)))
      · exact .inr (.inr fun z hz => List.mem_append.2 (.inl (h3 z hz)))
    · rcases List.mem_append.1 hx with hx | hx
      · rcases h.done x (.inr hx) with h3 | h3 | h3
        · exact .inl h3
        · exact .inr (.inl (List.mem_append.2 (.inl h3)))
        · exact .inr (.inr fun z hz => List.mem_append.2 (.inl (h3 z hz)))
      · exact .inr (.inl (List.mem_append.2 (.inr hx)))
  · rcases List.mem_append.1 hx with hx | hx
    · exact h.least P h1 h2 x hx
    · rw [List.mem_singleton] at hx
      subst hx
      rcases h.here with e | e
      · subst e; exact h1 _ hmem
      · exact h2 a (h.least P h1 h2 a e) _ hmem
  · rcases List.mem_append.1 hx with hx | hx
    · exact h.rng x hx
    · rw [List.mem_singleton] at hx; subst hx; exact h0
theorem Doing.fin {evs : List Ev} {f : St} {y a : Int} {T R : List Int} (h : Doing evs f y a (sq evs f a).length T R) : Todo evs f y T R :=
  ⟨h.inT, fun x hx => by
    rcases h.done x hx with h3 | h3 | h3
    · subst h3
      refine .inr fun z hz => ?_
      obtain ⟨j, hj, e⟩ := List.getElem_of_mem hz
      exact h.seen j z hj (by rw [List.getElem?_eq_getElem hj, e])
    · exact .inl h3
    · exact .inr h3, h.least, h.rng⟩
open Classical in
noncomputable def unmarked (D : Nat) (W : World) : Nat := ((List.range 30000).filter fun a => decide (W.cell? ⟨D, a, none⟩ = some (.bool false))).length
theorem filt1 (p : Nat → Bool) (n : Nat) : ((List.range (n + 1)).filter p).length = ((List.range n).filter p).length + (if p n = true then 1 else 0) := by
  rw [List.range_succ, List.filter_append, List.length_append]
  by_cases h : p n = true
  · rw [if_pos h]; simp [h]
  · rw [if_neg h]; simp [h]
theorem filt_congr (p q : Nat → Bool) (n : Nat) (h : ∀ a, a < n → p a = q a) : ((List.range n).filter p).length = ((List.range n).filter q).length := by
  induction n with
  | zero => rfl
  | succ n ih => rw [filt1, filt1, ih (fun a ha => h a (by omega)), h n (by omega)]
theorem unmarked_is {w W : World} {D : Nat} {R : List Int} (h : Marked w W D R) : unmarked D W = ((List.range 30000).filter fun a : Nat => decide ((a : Int) ∉ R)).length := by
  unfold unmarked
  refine filt_congr _ _ _ fun a ha => ?_
  have h1 := h.cell (a := (a : Int)) (by omega) (by omega)
  simp only [Int.toNat_natCast] at h1
  rw [h1]
  by_cases hm : (a : Int) ∈ R <;> simp [hm]
theorem unmarked_less {w W W' : World} {D : Nat} {R : List Int} {z : Int} (h : Marked w W D R) (h' : Marked w W' D (R ++ [z])) (h0 : 0 ≤ z ∧ z < 30000) (hz : z ∉ R) : unmarked D W' + 1 ≤ unmarked D W := by
  rw [unmarked_is h, unmarked_is h']
  have key : ∀ n : Nat, ((List.range n).filter fun a : Nat => decide ((a : Int) ∉ R ++ [z])).length + (if z < (n : Int) then 1 else 0) ≤ ((List.range n).filter fun a : Nat => decide ((a : Int) ∉ R)).length := by
    intro n
    induction n with
    | zero => rw [if_neg (by omega)]; simp
    | succ n ih =>
      rw [filt1, filt1]
      by_cases e : z = (n : Int)
      · have ha : decide ((n : Int) ∉ R ++ [z]) = false := by simp [e]
        have hb : decide ((n : Int) ∉ R) = true := by rw [← e]; simp [hz]
        rw [ha, hb, if_neg (by simp), if_pos rfl, if_pos (by omega)]
        rw [if_neg (by omega)] at ih
        omega
      · have e2 : decide ((n : Int) ∉ R ++ [z]) = decide ((n : Int) ∉ R) := by
          have : ((n : Int) ∈ R ++ [z]) ↔ (n : Int) ∈ R := by
            rw [List.mem_append, List.mem_singleton]
            exact ⟨fun h => h.resolve_right (fun x => e x.symm), .inl⟩
          simp only [this]
        rw [e2]
        by_cases hl : z < (n : Int)
        · rw [if_pos hl] at ih
          rw [if_pos (show z < ((n + 1 : Nat) : Int) by omega)]
          omega
        · rw [if_neg hl] at ih
          rw [if_neg (show ¬ z < ((n + 1 : Nat) : Int) by omega)]
          omega
  have := key 30000
  rw [if_pos (by omega)] at this
  exact this
end Go.Proofs.YtbhiaeciiphelaaGreatDoor
namespace Go.Proofs.YtbhiaeciiphelaaGreatDoor
open Go.RowKit
def lenOf : Value → Nat
  | .slice _ n _ => n
  | _ => 0
theorem sq_rng {evs : List Ev} {f : St} (hro : readOf evs = some f) (a : Int) : ∀ z ∈ sq evs f a, 0 ≤ z ∧ z < 30000 := by
  intro z hz
  unfold sq at hz
  cases hix : idxOf f a with
  | none => rw [hix] at hz; simp at hz
  | some k =>
    rw [hix] at hz
    obtain ⟨r, _, rfl⟩ := List.mem_map.1 hz
    exact addr_all hro r
theorem unmarked_le (D : Nat) (W : World) : unmarked D W ≤ 30000 := by
  unfold unmarked
  exact Nat.le_trans (List.length_filter_le _ _) (by simp)
structure CloMem (wm wB W : World) (D : Nat) (tv : Value) (T R : List Int) : Prop where
  row : W.ownsRow wB.heap.size 3 1 tv T.length (ints T)
  mks : Marked wm W D R
  kept : Kept (fun b => b = D) wB W
section
variable {wm wB W W' : World} {D : Nat} {tv : Value} {T R : List Int}
theorem CloMem.mark (h : CloMem wm wB W D tv T R) {z : Int} (hz : 0 ≤ z ∧ z < 30000) : CloMem wm wB (W.setCell ⟨D, z.toNat, none⟩ (.bool true)) D tv T (R ++ [z]) := by
  refine ⟨row_same h.row fun g hg => heap_set_other _ fun e => ?_, h.mks.mark hz.1 hz.2, h.kept.one1 _ _⟩
  obtain ⟨cur, hc⟩ := row_block h.row hg
  obtain ⟨cu2, hc2, _⟩ := h.mks.row
  rw [e, hc2] at hc
  simp at hc
theorem CloMem.app (h : CloMem wm wB W D tv T R) {o : Obj} {v : Value} {z : Int} (hg : (W.alloc o).grownBy W' tv.ownBlock) (hr : W'.ownsRow wB.heap.size 3 1 v (T.length + 1) (ints T ++ [.int .i64 z])) : CloMem wm wB W' D v (T ++ [z]) R := by
  have hk : Kept (fun b => tv.ownBlock = some b) W W' := ((Kept.refl _ W).alloc o).grown hg (fun b hb _ => hb)
  have hne : tv.ownBlock ≠ some D := by
    intro e
    obtain ⟨cur, hc⟩ := row_block h.row e
    obtain ⟨cu2, hc2, _⟩ := h.mks.row
    rw [hc2] at hc
    simp at hc
  refine ⟨?_, h.mks.same fun o ho _ => hk.at ho hne, Kept.trans h.kept hk (fun b hb e => by have := (h.row.lt b e).1; omega)⟩
  have e1 : (T ++ [z]).length = T.length + 1 := by simp
  have e2 : ints (T ++ [z]) = ints T ++ [.int .i64 z] := by simp [ints]
  rw [e1, e2]; exact hr
end
set_option maxHeartbeats 8000000 in
set_option maxRecDepth 100000 in
theorem closure_of (wS wB wm : World) (B D : Nat) (F : Nat → Value) (C : Nat → List Int) (evs : List Ev) (f : St) (hs : SeesMem wS wB B (f.sps.map (·.addr)) F C) (hC : ∀ k, k < f.sps.length → C (k + 1) = seesOf evs f k) (hd : Marked wm wB D []) (hro : readOf evs = some f)
    (y : Int) (hy : 0 ≤ y ∧ y < 30000) (hsl : ∀ a, (sq evs f a).length ≤ 60000) :
    Calls Tryz.prog 70 #[.slice (some ⟨B, 0, none⟩) 30000 30000, .slice (some ⟨wB.heap.size, 0, none⟩) 1 1, .slice (some ⟨D, 0, none⟩) 30000 30000] (wB.alloc (.cells #[.int .i64 y] 3)) fun e w' => e = .returned (.tuple #[]) ∧ ∃ R, Reach evs f y R ∧ Marked wm w' D R ∧ (∀ x ∈ R, 0 ≤ x ∧ x < 30000) ∧ Kept (fun b => b = D) wB w' := by
  have hBD : B ≠ D := by
    intro e
    obtain ⟨cur, hc, _⟩ := hs.great
    obtain ⟨cu2, hc2, _⟩ := hd.row
    rw [e, hc2] at hc
    simp at hc
  have HS := Lib.hid hs
  have HC := Lib.hid hC
  have HD := Lib.hid hd
  have HO := Lib.hid hro
  have HSl := Lib.hid hsl
  have HY := Lib.hid hy
  have hlB := hs.lt
  have hlD := hd.lt
  obtain ⟨i3, hi3, hz3, hs3, hb3⟩ := info_parts info3
  clear hs hC hd hro hsl hy
  go_enter Tryz.func70, Tryz.ntmps70
  go_wp2_with fail
  go_loopw [1] (fun tv W => ∃ T R, CloMem wm wB W D tv T R ∧ Todo evs f y T R ∧ 2 * unmarked D W + T.length ≤ 60001) (fun tv W => 2 * unmarked D W + lenOf tv)
  case atStart =>
    refine ⟨[y], [], ⟨World.ownsRow_lit wB #[.int .i64 y] 1 (Nat.le_refl _) (by decide) rfl, HD.out.keeps (Keeps.alloc _ _), (Kept.refl _ _).alloc _⟩, .start evs f y, ?_⟩
    have := unmarked_le D (wB.alloc (.cells #[.int .i64 y] 3))
    simp; omega
  case round =>
    obtain ⟨T, R, hcm, htd, hbd⟩ := hrel
    have HCm := Lib.hid hcm
    have HTd := Lib.hid htd
    clear hcm htd
    rcases List.eq_nil_or_concat T with rfl | ⟨T0, a, rfl⟩
    · obtain ⟨p0, c0, hv⟩ := row_slice HCm.out.row
      simp only [List.length_nil] at hv
      subst hv
      go_wp2_with fail
      go_end0
      exact ⟨rfl, R, HTd.out.fin, HCm.out.mks, HTd.out.rng, HCm.out.kept⟩
    · simp only [List.concat_eq_append] at HCm HTd hbd
      have hlen : (T0 ++ [a]).length = T0.length + 1 := by simp
      have hrow := HCm.out.row
      rw [hlen] at hrow
      obtain ⟨g, cap, rfl⟩ := row_succ hrow
      obtain ⟨x0, x1, x2, x3⟩ := row_last hrow rfl
      have har : 0 ≤ a ∧ a < 30000 := by
        rcases HTd.out.inT a (by simp) with e | e
        · rw [e]; exact HY.out
        · exact HTd.out.rng a e
      obtain ⟨v, hv1, hv2⟩ := sees_at HS.out HC.out har.1 har.2
      obtain ⟨p5, c5, rfl⟩ := row_slice hv2
      have hnD : ∀ b, (Value.slice p5 (sq evs f a).length c5).ownBlock = some b → b ≠ D := by
        intro b hb e
        obtain ⟨cur, hc⟩ := row_block hv2 hb
        obtain ⟨cu2, hc2, _⟩ := HD.out.row
        rw [e, hc2] at hc
        simp at hc
      have hcut := row_cut hrow
      have htake : (ints (T0 ++ [a])).take T0.length = ints T0 := by simp [ints]
      rw [htake] at hcut
      have hsa := HSl.out a
      rw [hlen] at hbd
      have HRow := Lib.hid hcut
      have HV1 := Lib.hid hv1
      have HV2 := Lib.hid hv2
      have HnD := Lib.hid hnD
      have HDo := Lib.hid HTd.out.take
      have ha0 := har.1
      have ha1 := har.2
      have y1 : wr.cell? ⟨B, a.toNat, none⟩ = some (.slice p5 (sq evs f a).length c5) := by
        rw [World.cell?_of_block (w := wB) (a := ⟨B, a.toNat, none⟩) (HCm.out.kept.block B hlB hBD)]; exact hv1
      have w1' : IntKind.i64.wrap (T0.length : Int) = T0.length := by rw [IntKind.wrap_i64]; omega
      have w2' : (0 : Int) ≤ T0.length := by omega
      have w3' : (T0.length : Int) < T0.length + 1 := by omega
      have w4' : (T0.length : Int) ≤ cap := by omega
      have w5' : (0 : Int) < T0.length + 1 := by omega
      have w6' : cap ≤ 9223372036854775807 := x3
      try rw [hlen]
      have hB2 : B < wr.heap.size := Nat.lt_of_lt_of_le hlB HCm.out.kept.size
      clear hrow hlen har hv1 hv2 hnD hcut htake x3
      go_wp2_with fail
      go_loopw [1, 7] (fun tv q W => ∃ i : Nat, i ≤ (sq evs f a).length ∧ q = .int .i64 i ∧ ∃ T R, CloMem wm wB W D tv T R ∧ Doing evs f y a i T R ∧ 2 * unmarked D W + T.length + 1 ≤ 2 * unmarked D wr + (T0.length + 1)) (fun _ q _ => (sq evs f a).length - (intOf q).toNat)
      case atStart => exact ⟨0, Nat.zero_le _, rfl, T0, R, ⟨HRow.out, HCm.out.mks, HCm.out.kept⟩, HDo.out, by omega⟩
      case round =>
        clear x0 x1
        obtain ⟨i, hi, rfl, T, R2, hcm, hdo, hbd2⟩ := hrel
        have HC2 := Lib.hid hcm
        have HD2 := Lib.hid hdo
        have hkB : wr.cell? ⟨B, a.toNat, none⟩ = some (.slice p5 (sq evs f a).length c5) := by
          rw [World.cell?_of_block (w := wB) (a := ⟨B, a.toNat, none⟩) (HC2.out.kept.block B hlB hBD)]; exact HV1.out
        have hB3 : B < wr.heap.size := Nat.lt_of_lt_of_le hlB HC2.out.kept.size
        obtain ⟨pt, ct, hv⟩ := row_slice HC2.out.row
        subst hv
        clear hcm hdo
        by_cases hil : i < (sq evs f a).length
        · obtain ⟨z, hz⟩ : ∃ z, (sq evs f a)[i]? = some z := ⟨_, List.getElem?_eq_getElem hil⟩
          obtain ⟨z0, z1⟩ := sq_rng HO.out a z (List.mem_of_getElem? hz)
          have hrw := row_same HV2.out fun b hb => HC2.out.kept.block b (HV2.out.lt b hb).2 (HnD.out b hb)
          obtain ⟨px, cx, hpx, hcell⟩ := ints_at hrw
          injection hpx with hpx _ hcx
          subst hpx hcx
          obtain ⟨gz, oz, rfl, hcz⟩ := hcell i z hz
          have hgz : gz ≠ D := HnD.out gz rfl
          have hgl : gz < wr.heap.size := World.block_lt_of_cell? _ _ hcz
          have m0 := HC2.out.mks.cell z0 z1
          have m1 := HC2.out.mks.free z.toNat
          have l4 := HC2.out.mks.lt
          have k6 : (i : Int) < (sq evs f a).length := by omega
          have k7 : (0 : Int) ≤ i := by omega
          have HZ := Lib.hid hz
          clear hz hcell hrw
          by_cases hin : z ∈ R2
          · rw [decide_eq_true hin] at m0
            have HIn := Lib.hid hin
            clear hin
            go_wp2_with fail
            go_roundw
            case rel => exact ⟨i + 1, by omega, by go_num, T, R2, HC2.out, HD2.out.old HZ.out HIn.out, hbd2⟩
            case measure => simp [intOf] <;> omega
          · rw [decide_eq_false hin] at m0
            have hmk := HC2.out.mark ⟨z0, z1⟩
            have HMk := Lib.hid hmk
            have HIn := Lib.hid hin
            clear hmk hin
            go_wp2_with (at_builtin; refine hold ?_)
            refine Lib.hid ?_
            refine wpList_append_own_at _ rfl (.tmp 51) (.tmp 59) 35 rfl wB.heap.size 3 i3 (.int .i64 0) 1 8 under35 hi3 hz3 hs3 hb3 rfl (by decide) (.slice pt T.length ct) T.length (ints T) rfl (HMk.out.row.alloc _) ⟨_, 0, none⟩ 1 1 [.int .i64 z] rfl rfl (by intro j u hj; have h9 := cell_one_new (wr.setCell ⟨D, z.toNat, none⟩ (.bool true)) (.int .i64 z) 3 j u hj; simpa [World.setCell] using h9) (by simp [Value.oneCell']) (by unfold maxLen; omega) (by omega) (by have h9 := HMk.out.kept.size; rw [World.size_alloc]; exact Nat.le_succ_of_le h9) ?_
            intro v7 w7 hown7 hgrow7 hnil7 hat7
            have hca := HMk.out.app hgrow7 hown7
            have hl7 := unmarked_less HC2.out.mks hca.mks ⟨z0, z1⟩ HIn.out
            have HCa := Lib.hid hca
            clear hca hown7 hgrow7 hnil7 hat7
            go_wp2_with fail
            go_roundw
            case rel => exact ⟨i + 1, by omega, by go_num, T ++ [z], R2 ++ [z], HCa.out, HD2.out.new HZ.out ⟨z0, z1⟩, by rw [List.length_append, List.length_singleton]; omega⟩
            case measure => simp [intOf] <;> omega
        · obtain rfl : i = (sq evs f a).length := by omega
          go_wp2_with fail
          go_roundw
          case rel => exact ⟨T, R2, HC2.out, HD2.out.fin, by omega⟩
          case measure => simp only [lenOf]; omega
end Go.Proofs.YtbhiaeciiphelaaGreatDoor
namespace Go.Proofs.YtbhiaeciiphelaaGreatDoor
open Go.RowKit
open Classical in
noncomputable def reachOf (evs : List Ev) (f : St) (y : Int) : List Int := if h : ∃ R, Reach evs f y R then h.choose else []
theorem reach_slots {evs : List Ev} {f : St} {y : Int} {R : List Int} (h : Reach evs f y R) : slots R = slots (reachOf evs f y) := by
  have hx : ∃ R, Reach evs f y R := ⟨R, h⟩
  unfold reachOf
  rw [dif_pos hx]
  exact slots_congr (h.same hx.choose_spec)
noncomputable def outDepends (evs : List Ev) (y : Int) : List Int × Int := match readOf evs with
  | none => ([], 250)
  | some f => match idxOf f y with
    | none => ([], 3)
    | some _ => (slots (reachOf evs f y), 0)
set_option maxHeartbeats 8000000 in
set_option maxRecDepth 100000 in
theorem refDepends_of (w : World) (a : Option Addr) (n c : Nat) (evs : List Ev) (h : EvIn w a n evs) (y : Int) :
    Calls Tryz.prog 38 #[.slice a n c, .int .i64 y] w (DirPost w (outDepends evs y)) := by
  have HI := Lib.hid h
  have hfew := h.few
  have hk0 : EvIn (w.alloc (.cells #[.slice none 0 0, .int .i64 0] 72)) a n evs := h.keeps (Keeps.alloc _ _)
  have HS := Lib.hid (refSpan_of _ a n c evs hk0 y)
  have HZ := Lib.hid (heap_alloc_at w (.cells #[.slice none 0 0, .int .i64 0] 72))
  have HK0 := Lib.hid (Keeps.alloc w (.cells #[.slice none 0 0, .int .i64 0] 72))
  clear h hk0
  cases hro : readOf evs with
  | none =>
    have ho : outDepends evs y = ([], 250) := by unfold outDepends; rw [hro]
    rw [outSpan_no hro] at HS
    rw [ho]
    clear ho hro
    go_enter Tryz.func38, Tryz.ntmps38
    go_wp2_with (go_at_call 16; refine HS.out.mono ?_; rintro _ w1 ⟨rfl, hk⟩; have HB := Lib.hid (hk.at HZ.out (fun x => x)); have b0 := cell_of_block HB.out 0; have b1 := cell_of_block HB.out 1; have f0 := free_of_block HB.out 0; have f1 := free_of_block HB.out 1; have l0 := heap_lt HB.out; simp at b0 b1; have HK := Lib.hid hk; clear hk)
    try rw [Exit.noGoto_ret]
    exact bodyPost_ret (results_dir rfl _ _ w.heap.size _ _ rfl (heap_alloc_old _ (two_sets HB.out))) rfl (dir_none (Kept.alloc (two_keeps (Keeps.trans HK0.out HK.out) (Nat.le_refl _)) _))
  | some f =>
    cases hix : idxOf f y with
    | none =>
      have ho : outDepends evs y = ([], 3) := by unfold outDepends; rw [hro]; simp only [hix]
      rw [outSpan_none hro (idx_none hix)] at HS
      rw [ho]
      clear ho hro hix
      go_enter Tryz.func38, Tryz.ntmps38
      go_wp2_with (go_at_call 16; refine HS.out.mono ?_; rintro _ w1 ⟨rfl, hk⟩; have HB := Lib.hid (hk.at HZ.out (fun x => x)); have b0 := cell_of_block HB.out 0; have b1 := cell_of_block HB.out 1; have f0 := free_of_block HB.out 0; have f1 := free_of_block HB.out 1; have l0 := heap_lt HB.out; simp at b0 b1; have HK := Lib.hid hk; clear hk)
      try rw [Exit.noGoto_ret]
      exact bodyPost_ret (results_dir rfl _ _ w.heap.size _ _ rfl (heap_alloc_old _ (two_sets HB.out))) rfl (dir_none (Kept.alloc (two_keeps (Keeps.trans HK0.out HK.out) (Nat.le_refl _)) _))
    | some k =>
      obtain ⟨p, hp, hpy⟩ := idx_some hix
      have ho : outDepends evs y = (slots (reachOf evs f y), 0) := by unfold outDepends; rw [hro]; simp only [hix]
      rw [outSpan_yes hro hp hpy] at HS
      rw [ho]
      obtain ⟨s0, st0, wr0, hr0, ha0⟩ := momRun hro evs.length (Nat.le_refl _)
      rw [List.take_length] at hr0
      obtain ⟨rfl, _⟩ := momEnd hro hr0 ha0
      have hin := InB.run _ _ _ _ InB.start hr0
      obtain ⟨py0, py1⟩ := hin k p hp
      rw [hpy] at py0 py1
      have hka : (s0.sps.map (·.addr))[k]? = some y := by rw [List.getElem?_map, hp, ← hpy]; rfl
      have hkl : k < s0.sps.length := (List.getElem?_eq_some_iff.1 hp).1
      have HSe := Lib.hid (fun (W : World) (hK : Keeps w W) => sees_of W a n c evs (HI.out.keeps hK) s0 hro)
      have HKa := Lib.hid hka
      have HKl := Lib.hid hkl
      have HOu := Lib.hid ha0.ok.outer
      obtain ⟨big, hbig⟩ : ∃ big, big = madeCells #[.bool false] 30000 := ⟨_, rfl⟩
      have hmk : ∀ w : World, (Instr.makeSlice 49 (.int .i64 30000) (.int .i64 30000)).run Tryz.prog w = .ok (.slice (some ⟨w.heap.size, 0, none⟩) 30000 30000) (w.alloc (.cells big 4)) := by
        intro w
        rw [hbig]
        exact run_make_row' 49 4 (.bool false) 1 (by kernel_rfl) info4 rfl .i64 .i64 30000 (by decide) (by decide) w
      have Hbig := Lib.hid hbig
      have HRo := Lib.hid hro
      clear ho hro hix hp hpy hr0 ha0 hin hka hkl hbig
      go_enter Tryz.func38, Tryz.ntmps38
      go_wp2_with (first
        | (go_at_call 16; refine HS.out.mono ?_; rintro _ w1 ⟨rfl, hk⟩; have HB := Lib.hid (hk.at HZ.out (fun x => x)); have b0 := cell_of_block HB.out 0; have b1 := cell_of_block HB.out 1; have f0 := free_of_block HB.out 0; have f1 := free_of_block HB.out 1; have l0 := heap_lt HB.out; simp at b0 b1; have HK := Lib.hid hk; clear hk)
        | (go_at_call 66; refine hold ?_))
      refine Lib.hid ?_
      refine (HSe.out _ (Keeps.trans (Keeps.trans HK0.out HK.out) (Kept.alloc (Keeps.alloc _ _) _))).mono ?_
      rintro _ w3 ⟨B, F, C, V, rfl, _, hvis, hvl, hmm, hC⟩
      have hve := visOf_eq hvis HOu.out
      have hC2 : ∀ k, k < s0.sps.length → C (k + 1) = seesOf evs s0 k := fun k hk => by rw [hC k hk, ← hve]; rfl
      have hsl : ∀ a, (sq evs s0 a).length ≤ 60000 := by
        intro a
        unfold sq
        split
        · rename_i k _
          unfold seesOf
          rw [List.length_map, hve]
          exact Nat.le_trans (hvl k) hfew
        · simp
      obtain ⟨D, hD⟩ : ∃ D, D = w1.heap.size + 1 := ⟨_, rfl⟩
      have hd2 : Marked w ((w1.alloc (.cells #[.int .i64 p.frm, .int .i64 p.to, .int .i64 0] 31)).alloc (.cells big 4)) D [] := by
        refine ⟨by rw [hD]; omega, big, ?_, by rw [Hbig.out]; exact size_madeCells _ _, fun a h0 h1 => ?_⟩
        · have h9 := heap_alloc_at (w1.alloc (.cells #[.int .i64 p.frm, .int .i64 p.to, .int .i64 0] 31)) (.cells big 4)
          rw [World.size_alloc] at h9
          rw [hD]; exact h9
        · rw [Hbig.out]
          simp [madeCells, h1, Nat.mod_one]
      have hkw3 := Keeps.trans (Keeps.trans (Keeps.trans HK0.out HK.out) (Kept.alloc (Keeps.alloc w1 (.cells #[.int .i64 p.frm, .int .i64 p.to, .int .i64 0] 31)) (.cells big 4))) hmm.kept
      have HKw := Lib.hid hkw3
      have HB3 := Lib.hid (hmm.kept.at (heap_alloc_old (.cells big 4) (heap_alloc_old (.cells #[.int .i64 p.frm, .int .i64 p.to, .int .i64 0] 31) HB.out)) (fun x => x))
      have hdw : w.heap.size < D := by rw [hD]; omega
      have HCl := Lib.hid (closure_of _ w3 w B D F C evs s0 hmm hC2 (hd2.keeps hmm.kept) HRo.out y ⟨py0, py1⟩ hsl)
      rw [← hD]
      clear hvis hvl hmm hC hve hC2 hsl hD hd2 hkw3 b0 b1 f0 f1
      go_wp2_with (go_at_call 70; refine hold ?_)
      refine Lib.hid ?_
      refine HCl.out.mono ?_
      rintro _ w4 ⟨rfl, R, hre, hmk, hrg, hk4⟩
      have HRe := Lib.hid hre
      have HR5 := Lib.hid (refRising_of w w4 D 30000 R hmk)
      have HB5 := Lib.hid (hk4.at HB3.out (by omega))
      have HK4 := Lib.hid hk4
      clear hre hmk hrg hk4
      go_wp2_with (go_at_call 67; refine hold ?_)
      refine Lib.hid ?_
      refine HR5.out.mono ?_
      rintro _ w5 ⟨v, rfl, hrow5, hk5⟩
      obtain ⟨p6, c6, rfl⟩ := row_slice hrow5
      have HB6 := Lib.hid (hk5.at HB5.out (fun x => x))
      have HO5 := Lib.hid hrow5
      have HK5 := Lib.hid hk5
      have hlt6 := heap_lt HB5.out
      clear hrow5 hk5
      have b0 := cell_of_block HB6.out 0
      have b1 := cell_of_block HB6.out 1
      have f0 := free_of_block HB6.out 0
      have f1 := free_of_block HB6.out 1
      simp at b0 b1
      go_wp2_with fail
      try rw [Exit.noGoto_ret]
      refine bodyPost_ret (results_dir rfl _ _ w.heap.size _ _ rfl (two_sets HB6.out)) rfl ?_
      rw [← reach_slots HRe.out]
      refine ⟨p6, c6, rfl, ints_at (row_same HO5.out fun g hg => ?_), two_keeps (Keeps.trans (Kept.trans HKw.out HK4.out (fun b hb e => by have := hb; omega)) HK5.out) (Nat.le_refl _)⟩
      have h1 := (HO5.out.lt g hg).1
      rw [heap_set_other _ (by omega), heap_set_other _ (by omega)]
end Go.Proofs.YtbhiaeciiphelaaGreatDoor
