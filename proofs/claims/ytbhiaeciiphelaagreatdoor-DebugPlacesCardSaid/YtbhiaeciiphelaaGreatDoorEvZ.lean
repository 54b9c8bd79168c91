/-
  DERIVED. Contracts of found, Maker and Span, of package debug and of the reference. Condition: the events lie in a row; there are at most sixty thousand.
-/
import Derived.Test.YtbhiaeciiphelaaGreatDoorEvY
namespace Go.Proofs.YtbhiaeciiphelaaGreatDoor
open Go.RowKit
section
variable {evs : List Ev} {s : St}
theorem read_nd (h : readOf evs = some s) : (s.sps.map (·.addr)).Nodup := (read_span h 0).2.nd
theorem span_yes (h : readOf evs = some s) {k : Nat} {p : Sp} {y : Int} (hp : s.sps[k]? = some p) (ha : p.addr = y) : spanOf y evs = ⟨p.frm, p.to, true⟩ := (read_span h y).1.1 p (List.mem_of_getElem? hp) ha
theorem span_no (h : readOf evs = some s) {y : Int} (ha : s.sps.any (fun p => p.addr == y) = false) : spanOf y evs = ⟨0, 0, false⟩ :=
  (read_span h y).1.2 fun p hp hpa => by
    have : s.sps.any (fun p => p.addr == y) = true := List.any_eq_true.2 ⟨p, hp, by simp [hpa]⟩
    rw [ha] at this; cases this
end
set_option maxHeartbeats 2000000 in
theorem found_no (w : World) (a : Option Addr) (n c : Nat) (evs : List Ev) (h : EvIn w a n evs) (y : Int) (hro : readOf evs = none) :
    Calls Tryz.prog 48 #[.slice a n c, .int .i64 y] w fun e w' => e = .returned (.tuple #[.pointer none, .pointer none, .int .i64 250]) ∧ Keeps w w' := by
  have Hr := Lib.hid (read_no (c := c) h hro)
  clear h hro
  go_enter Tryz.func48, Tryz.ntmps48
  go_wp2_with (go_at_call 47; refine Hr.out.mono ?_; rintro _ w1 ⟨rfl, hk⟩; have HK := Lib.hid hk; clear hk)
  go_ret3
  exact ⟨rfl, HK.out⟩
set_option maxHeartbeats 2000000 in
theorem found_none (w : World) (a : Option Addr) (n c : Nat) (evs : List Ev) (h : EvIn w a n evs) (y : Int) (s : St) (hro : readOf evs = some s) (hany : s.sps.any (fun p => p.addr == y) = false) :
    Calls Tryz.prog 48 #[.slice a n c, .int .i64 y] w fun e w' => e = .returned (.tuple #[.pointer none, .pointer none, .int .i64 3]) ∧ Keeps w w' := by
  have Hr := Lib.hid (read_yes (c := c) h hro)
  have HN := Lib.hid (read_nd hro)
  have HA := Lib.hid hany
  clear h hro hany
  go_enter Tryz.func48, Tryz.ntmps48
  go_wp2_with (go_at_call 47; refine Hr.out.mono ?_; rintro _ w1 ⟨L, M, wv, m, rf, rfl, hm⟩; have e1 : w1.cell? ⟨L, 1, none⟩ = some (.map (some M)) := (by rw [cell_of_block hm.hL]; rfl); have hlk := hm.map.look (by rw [hm.addrs]; exact HN.out) y; rw [look_none hm.addrs HA.out] at hlk; have HM := Lib.hid hm; clear hm)
  go_ret3
  exact ⟨rfl, HM.out.kept⟩
set_option maxHeartbeats 2000000 in
set_option maxRecDepth 100000 in
theorem found_yes (w : World) (a : Option Addr) (n c : Nat) (evs : List Ev) (h : EvIn w a n evs) (y : Int) (s : St) (hro : readOf evs = some s) (hany : s.sps.any (fun p => p.addr == y) = true) :
    Calls Tryz.prog 48 #[.slice a n c, .int .i64 y] w fun e w' => ∃ (L M : Nat) (wv : Value) (m : List (Int × Nat)) (rf : Nat → Value) (k : Nat) (p : Sp) (b : Nat), e = .returned (.tuple #[.pointer (some ⟨L, 0, none⟩), .pointer (some ⟨b, 0, none⟩), .int .i64 0]) ∧ RMem w w' (.slice a n c) L M wv m rf s.sps s.within ∧
      s.sps[k]? = some p ∧ p.addr = y ∧ m[k]? = some (y, b) := by
  have Hr := Lib.hid (read_yes (c := c) h hro)
  have HN := Lib.hid (read_nd hro)
  have HA := Lib.hid hany
  clear h hro hany
  go_enter Tryz.func48, Tryz.ntmps48
  go_wp2_with fail
  refine Hr.out.mono ?_
  rintro _ w1 ⟨L, M, wv, m, rf, rfl, hm⟩
  have e1 : w1.cell? ⟨L, 1, none⟩ = some (.map (some M)) := by rw [cell_of_block hm.hL]; rfl
  obtain ⟨k, p, b, hp, hpa, hx, hlo⟩ := look_some hm.addrs HA.out
  have hlk : ∀ nq, (Instr.lookup 127 (.map (some M)) (.int .i64 y) false).run Tryz.prog (w1.drewN nq) = .ok (.pointer (lookP m y)) (w1.drewN nq) := fun nq => (hm.map.same (w' := w1.drewN nq) rfl).look (by rw [hm.addrs]; exact HN.out) y
  have hlk1 : (Instr.lookup 127 (.map (some M)) (.int .i64 y) false).run Tryz.prog w1 = .ok (.pointer (lookP m y)) w1 := hm.map.look (by rw [hm.addrs]; exact HN.out) y
  rw [hlo] at hlk hlk1
  have HM := Lib.hid hm
  have HP := Lib.hid hp
  have HX := Lib.hid hx
  have HPa := Lib.hid hpa
  clear hm hlo hp hx hpa
  go_wp2_with fail
  go_quiet (fail)
  go_wp2
  go_ret3
  exact ⟨L, M, wv, m, rf, k, p, b, rfl, HM.out.keeps (Keeps.drewN _ _), HP.out, HPa.out, HX.out⟩
/-- What Span reports. -/
def outSpan (evs : List Ev) (y : Int) : Nat × Nat × Int := if (readOf evs).isSome then (if (spanOf y evs).is then ((spanOf y evs).frm, (spanOf y evs).to, 0) else (0, 0, 3)) else (0, 0, 250)
theorem outSpan_no {evs : List Ev} {y : Int} (h : readOf evs = none) : outSpan evs y = (0, 0, 250) := by unfold outSpan; rw [h]; rfl
theorem outSpan_none {evs : List Ev} {y : Int} {s : St} (h : readOf evs = some s) (ha : s.sps.any (fun p => p.addr == y) = false) : outSpan evs y = (0, 0, 3) := by unfold outSpan; rw [h, span_no h ha]; rfl
theorem outSpan_yes {evs : List Ev} {y : Int} {s : St} (h : readOf evs = some s) {k : Nat} {p : Sp} (hp : s.sps[k]? = some p) (ha : p.addr = y) : outSpan evs y = (p.frm, p.to, 0) := by unfold outSpan; rw [h, span_yes h hp ha]; rfl
set_option maxHeartbeats 2000000 in
set_option maxRecDepth 100000 in
theorem span_of (w : World) (a : Option Addr) (n c : Nat) (evs : List Ev) (h : EvIn w a n evs) (y : Int) :
    Calls Tryz.prog 15 #[.slice a n c, .int .i64 y] w fun e w' => e = .returned (.tuple #[.int .i64 (outSpan evs y).1, .int .i64 (outSpan evs y).2.1, .int .i64 (outSpan evs y).2.2]) ∧ Keeps w w' := by
  cases hro : readOf evs with
  | none =>
    have Hf := Lib.hid (found_no w a n c evs h y hro)
    rw [outSpan_no hro]
    clear h hro
    go_enter Tryz.func15, Tryz.ntmps15
    go_wp2_with (go_at_call 48; refine Hf.out.mono ?_; rintro _ w1 ⟨rfl, hk⟩; have HK := Lib.hid hk; clear hk)
    go_ret3
    exact ⟨rfl, HK.out⟩
  | some s =>
    cases hany : s.sps.any (fun p => p.addr == y) with
    | false =>
      have Hf := Lib.hid (found_none w a n c evs h y s hro hany)
      rw [outSpan_none hro hany]
      clear h hro hany
      go_enter Tryz.func15, Tryz.ntmps15
      go_wp2_with (go_at_call 48; refine Hf.out.mono ?_; rintro _ w1 ⟨rfl, hk⟩; have HK := Lib.hid hk; clear hk)
      go_ret3
      exact ⟨rfl, HK.out⟩
    | true =>
      have Hf := Lib.hid (found_yes w a n c evs h y s hro hany)
      have HO := Lib.hid hro
      clear h hro hany
      go_enter Tryz.func15, Tryz.ntmps15
      go_wp2_with fail
      refine Hf.out.mono ?_
      rintro _ w1 ⟨L, M, wv, m, rf, k, p, b, rfl, hm, hp, hpa, hx⟩
      have hb := hm.sp k p _ hp hx
      have b0 : w1.cell? ⟨b, 0, none⟩ = some (.int .i64 p.frm) := by rw [cell_of_block hb]; rfl
      have b1 : w1.cell? ⟨b, 1, none⟩ = some (.int .i64 p.to) := by rw [cell_of_block hb]; rfl
      have HS := Lib.hid (outSpan_yes HO.out hp hpa)
      have HK := Lib.hid hm.kept
      clear hm hp hpa hx hb
      go_wp2_with fail
      go_quiet (fail)
      go_wp2
      go_ret3
      exact ⟨by rw [HS.out]; rfl, Kept.drewN HK.out _⟩
set_option maxHeartbeats 2000000 in
set_option maxRecDepth 100000 in
theorem maker_of (w : World) (a : Option Addr) (n c : Nat) (evs : List Ev) (h : EvIn w a n evs) (y : Int) :
    Calls Tryz.prog 17 #[.slice a n c, .int .i64 y] w fun e w' => e = .returned (.tuple #[.int .i64 (outSpan evs y).1, .int .i64 (outSpan evs y).2.2]) ∧ Keeps w w' := by
  cases hro : readOf evs with
  | none =>
    have Hf := Lib.hid (found_no w a n c evs h y hro)
    rw [outSpan_no hro]
    clear h hro
    go_enter Tryz.func17, Tryz.ntmps17
    go_wp2_with (go_at_call 48; refine Hf.out.mono ?_; rintro _ w1 ⟨rfl, hk⟩; have HK := Lib.hid hk; clear hk)
    go_ret2
    exact ⟨rfl, HK.out⟩
  | some s =>
    cases hany : s.sps.any (fun p => p.addr == y) with
    | false =>
      have Hf := Lib.hid (found_none w a n c evs h y s hro hany)
      rw [outSpan_none hro hany]
      clear h hro hany
      go_enter Tryz.func17, Tryz.ntmps17
      go_wp2_with (go_at_call 48; refine Hf.out.mono ?_; rintro _ w1 ⟨rfl, hk⟩; have HK := Lib.hid hk; clear hk)
      go_ret2
      exact ⟨rfl, HK.out⟩
    | true =>
      have Hf := Lib.hid (found_yes w a n c evs h y s hro hany)
      have HO := Lib.hid hro
      clear h hro hany
      go_enter Tryz.func17, Tryz.ntmps17
      go_wp2_with fail
      refine Hf.out.mono ?_
      rintro _ w1 ⟨L, M, wv, m, rf, k, p, b, rfl, hm, hp, hpa, hx⟩
      have hb := hm.sp k p _ hp hx
      have b0 : w1.cell? ⟨b, 0, none⟩ = some (.int .i64 p.frm) := by rw [cell_of_block hb]; rfl
      have HS := Lib.hid (outSpan_yes HO.out hp hpa)
      have HK := Lib.hid hm.kept
      clear hm hp hpa hx hb
      go_wp2
      go_ret2
      exact ⟨by rw [HS.out]; rfl, HK.out⟩
/-- The error of a span. -/
def Spn.e (x : Spn) : Int := if x.is then 0 else 3
/-- The reference's span, behind some events, lies in block B. -/
def SpnAt (W : World) (B : Nat) (x : Spn) : Prop := W.heap[B]? = some (.cells #[.int .i64 x.frm, .int .i64 x.to, .int .i64 x.e] 31 (0, 0))
theorem Kept.set1 {B : Nat} {W W' : World} (h : Kept (fun b => b = B) W W') (o : Nat) (v : Value) : Kept (fun b => b = B) W (W'.setCell ⟨B, o, none⟩ v) := h.setCell (p := ⟨B, o, none⟩) (fun _ => rfl) v
theorem Kept.set0 {B : Nat} {W W' : World} (h : Keeps W W') (hB : W.heap.size ≤ B) (o : Nat) (v : Value) : Keeps W (W'.setCell ⟨B, o, none⟩ v) := h.setCell (p := ⟨B, o, none⟩) (fun h => absurd h (Nat.not_lt.2 hB)) v
theorem SpnAt.made {W : World} {B : Nat} {x : Spn} (h : SpnAt W B x) (i : Nat) : SpnAt ((W.setCell ⟨B, 0, none⟩ (.int .i64 i)).setCell ⟨B, 2, none⟩ (.int .i64 0)) B ⟨i, x.to, true⟩ := by
  unfold SpnAt at h ⊢
  rw [heap_set_same (heap_set_same h _)]; rfl
theorem SpnAt.wrote {W : World} {B : Nat} {x : Spn} (h : SpnAt W B x) (i : Nat) : SpnAt (W.setCell ⟨B, 1, none⟩ (.int .i64 i)) B ⟨x.frm, i, x.is⟩ := by
  unfold SpnAt at h ⊢
  rw [heap_set_same h]; rfl
theorem size31 : (Tryz.prog.info? 31).map (fun x => x.size) = some 3 := by kernel_rfl
theorem results_span {fn : Func} {p : Tmp} (h : fn.results = #[.cell p 31]) (tmps : Array Value) (w : World) (g : Nat) (x y z : Value) (hp : tmps.getD p undef = .pointer (some ⟨g, 0, none⟩)) (hg : w.heap[g]? = some (.cells #[x, y, z] 31 (0, 0))) :
    (results fn tmps).run Tryz.prog w = .ok (.agg #[x, y, z]) w := by
  exact results_cell_row h tmps w g 31 _ _ _ hp hg Tryz.underlying31 rfl size31
set_option maxHeartbeats 4000000 in
set_option maxRecDepth 100000 in
theorem refspan_of (w : World) (a : Option Addr) (n c : Nat) (evs : List Ev) (h : EvIn w a n evs) (y : Int) :
    Calls Tryz.prog 49 #[.slice a n c, .int .i64 y] w fun e w' => e = .returned (.agg #[.int .i64 (spanOf y evs).frm, .int .i64 (spanOf y evs).to, .int .i64 (spanOf y evs).e]) ∧ Keeps w w' := by
  have HI := Lib.hid h
  have hfew := h.few
  clear h
  go_enter Tryz.func49, Tryz.ntmps49
  go_wp2
  go_loopw [6] (fun q wr => ∃ i : Nat, i ≤ n ∧ q = .int .i64 i ∧ Keeps w wr ∧ wr.heap[w.heap.size]? = some (.cells #[.int .i64 0, .int .i64 0, .int .i64 0] 31 (0, 0)) ∧ SpnAt wr (w.heap.size + 1) ((Spn.mk 0 0 false).run y 0 (evs.take i))) (fun q _ => n - (intOf q).toNat)
  case atStart =>
    have hsz : (w.alloc (.cells #[.int .i64 0, .int .i64 0, .int .i64 0] 31)).heap.size = w.heap.size + 1 := World.size_alloc _ _
    refine ⟨0, Nat.zero_le _, rfl, ((Kept.refl _ w).alloc _).alloc _, heap_alloc_old _ (heap_alloc_at w _), ?_⟩
    unfold SpnAt
    rw [← hsz]; exact heap_alloc_at _ _
  case round =>
    obtain ⟨i, hi, rfl, hk, hA, hB⟩ := hrel
    have HK := Lib.hid hk
    have HA := Lib.hid hA
    have HB := Lib.hid hB
    unfold SpnAt at hB
    have f0 := free_of_block hB 0
    have f1 := free_of_block hB 1
    have f2 := free_of_block hB 2
    have b0 := cell_of_block hB 0
    have b1 := cell_of_block hB 1
    have b2 := cell_of_block hB 2
    simp at b0 b1 b2
    clear hk hA hB
    by_cases hin : i < n
    · obtain ⟨e, he⟩ : ∃ e, evs[i]? = some e := ⟨evs[i]'(by rw [← HI.out.len]; omega), List.getElem?_eq_getElem _⟩
      obtain ⟨eb, eo, rfl, hlt, _⟩ := HI.out.ev.cells he
      obtain ⟨eb', eo', heq, _, c0, _, c2, _⟩ := (HI.out.ev.keeps HK.out).cells he
      injection heq with heq
      injection heq with heq1 heq2
      subst heq1 heq2
      have hne : ¬ eb = w.heap.size + 1 := by omega
      have hne2 : ¬ w.heap.size + 1 = eb := by omega
      have HS := Lib.hid (Spn.run_take y (Spn.mk 0 0 false) evs i e he)
      clear he
      have k1 : (i : Int) < n := by omega
      have k2 : (0 : Int) ≤ i := by omega
      have HK2 := Lib.hid (fun (W : World) (h : Kept (fun b => b = w.heap.size + 1) wr W) => (⟨Kept.trans HK.out h (fun x hx e => by omega), h.at HA.out (by omega)⟩ : Keeps w W ∧ W.heap[w.heap.size]? = some (.cells #[.int .i64 0, .int .i64 0, .int .i64 0] 31 (0, 0))))
      by_cases hay : e.addr = y
      · by_cases q1 : e.kind = 1
        · rw [q1] at c0
          have HX := Lib.hid (HB.out.made i)
          go_wp2
          go_roundw
          case rel => exact ⟨i + 1, by omega, by go_num, (HK2.out _ (((Kept.refl _ _).set1 0 _).set1 2 _)).1, (HK2.out _ (((Kept.refl _ _).set1 0 _).set1 2 _)).2, by rw [HS.out, Spn.step, if_pos hay, if_pos q1]; exact HX.out⟩
          case measure => simp [intOf] <;> omega
        · by_cases q3 : e.kind = 3
          · rw [q3] at c0
            have HX := Lib.hid (HB.out.wrote i)
            go_wp2
            go_roundw
            case rel => exact ⟨i + 1, by omega, by go_num, (HK2.out _ ((Kept.refl _ _).set1 1 _)).1, (HK2.out _ ((Kept.refl _ _).set1 1 _)).2, by rw [HS.out, Spn.step, if_pos hay, if_neg q1, if_pos q3]; exact HX.out⟩
            case measure => simp [intOf] <;> omega
          · go_wp2
            go_roundw
            case rel => exact ⟨i + 1, by omega, by go_num, HK.out, HA.out, by rw [HS.out, Spn.step, if_pos hay, if_neg q1, if_neg q3]; exact HB.out⟩
            case measure => simp [intOf] <;> omega
      · go_wp2
        go_roundw
        case rel => exact ⟨i + 1, by omega, by go_num, HK.out, HA.out, by rw [HS.out, Spn.step, if_neg hay]; exact HB.out⟩
        case measure => simp [intOf] <;> omega
    · obtain rfl : i = n := by omega
      have g0 := free_of_block HA.out 0
      have g1 := free_of_block HA.out 1
      have g2 := free_of_block HA.out 2
      have a0 := cell_of_block HA.out 0
      have a1 := cell_of_block HA.out 1
      have a2 := cell_of_block HA.out 2
      simp at a0 a1 a2
      have HR := Lib.hid (show spanOf y evs = (Spn.mk 0 0 false).run y 0 (evs.take i) by rw [HI.out.len, List.take_length]; rfl)
      go_wp2
      refine bodyPost_ret (results_span rfl _ _ w.heap.size (.int .i64 (spanOf y evs).frm) (.int .i64 (spanOf y evs).to) (.int .i64 (spanOf y evs).e) rfl ?_) rfl ?_
      · rw [HR.out, heap_set_same (heap_set_same (heap_set_same HA.out _) _) _]; rfl
      exact ⟨rfl, ((HK.out.set0 (Nat.le_refl _) _ _).set0 (Nat.le_refl _) _ _).set0 (Nat.le_refl _) _ _⟩
theorem outSpan_ref {evs : List Ev} {y : Int} {s : St} (h : readOf evs = some s) : outSpan evs y = ((spanOf y evs).frm, (spanOf y evs).to, (spanOf y evs).e) := by
  cases hany : s.sps.any (fun p => p.addr == y) with
  | false => rw [outSpan_none h hany, span_no h hany]; rfl
  | true =>
    obtain ⟨p, hp, hpa⟩ := List.any_eq_true.1 hany
    obtain ⟨k, hk⟩ := List.mem_iff_getElem?.1 hp
    rw [outSpan_yes h hk (by simpa using hpa), span_yes h hk (by simpa using hpa)]; rfl
set_option maxHeartbeats 4000000 in
set_option maxRecDepth 100000 in
theorem refSpan_of (w : World) (a : Option Addr) (n c : Nat) (evs : List Ev) (h : EvIn w a n evs) (y : Int) :
    Calls Tryz.prog 16 #[.slice a n c, .int .i64 y] w fun e w' => e = .returned (.agg #[.int .i64 (outSpan evs y).1, .int .i64 (outSpan evs y).2.1, .int .i64 (outSpan evs y).2.2]) ∧ Keeps w w' := by
  have hI1 : EvIn (w.alloc (.cells #[.int .i64 0, .int .i64 0, .int .i64 0] 31)) a n evs := h.keeps (Keeps.alloc _ _)
  have hr := right_is (c := c) hI1
  have HI := Lib.hid h
  cases hro : readOf evs with
  | none =>
    rw [hro] at hr
    have Hr := Lib.hid hr
    rw [outSpan_no hro]
    clear hr h hro hI1
    go_enter Tryz.func16, Tryz.ntmps16
    go_wp2_with fail
    refine Hr.out.mono ?_
    rintro _ w1 ⟨rfl, hk⟩
    have hA := hk.at (heap_alloc_at _ _) (fun x => x)
    have g0 := free_of_block hA 0
    have g1 := free_of_block hA 1
    have g2 := free_of_block hA 2
    have a0 := cell_of_block hA 0
    have a1 := cell_of_block hA 1
    have a2 := cell_of_block hA 2
    simp at a0 a1 a2
    have HA := Lib.hid hA
    have HK := Lib.hid (Keeps.trans (Keeps.alloc _ _) hk)
    clear hA hk
    go_wp2
    refine bodyPost_ret (results_span rfl _ _ w.heap.size (.int .i64 0) (.int .i64 0) (.int .i64 250) rfl ?_) rfl ?_
    · rw [heap_set_same (heap_set_same (heap_set_same HA.out _) _) _]; rfl
    exact ⟨rfl, ((HK.out.set0 (Nat.le_refl _) _ _).set0 (Nat.le_refl _) _ _).set0 (Nat.le_refl _) _ _⟩
  | some s =>
    rw [hro] at hr
    have Hr := Lib.hid hr
    have HH := Lib.hid h
    rw [outSpan_ref hro]
    clear hr h hro hI1
    go_enter Tryz.func16, Tryz.ntmps16
    go_wp2_with fail
    refine Hr.out.mono ?_
    rintro _ w1 ⟨rfl, hk⟩
    have HA1 := Lib.hid (hk.at (heap_alloc_at _ _) (fun x => x))
    have HK1 := Lib.hid (Keeps.trans (Keeps.alloc _ _) hk)
    clear hk
    go_wp2_with fail
    refine (refspan_of _ _ _ _ _ (HH.out.keeps HK1.out) y).mono ?_
    rintro _ w2 ⟨rfl, hk⟩
    have hA := hk.at HA1.out (fun x => x)
    have g0 := free_of_block hA 0
    have g1 := free_of_block hA 1
    have g2 := free_of_block hA 2
    have a0 := cell_of_block hA 0
    have a1 := cell_of_block hA 1
    have a2 := cell_of_block hA 2
    simp at a0 a1 a2
    have HA := Lib.hid hA
    have HK := Lib.hid (Keeps.trans HK1.out hk)
    clear hA hk
    go_wp2
    refine bodyPost_ret (results_span rfl _ _ w.heap.size (.int .i64 (spanOf y evs).frm) (.int .i64 (spanOf y evs).to) (.int .i64 (spanOf y evs).e) rfl ?_) rfl ?_
    · rw [heap_set_same (heap_set_same (heap_set_same HA.out _) _) _]; rfl
    exact ⟨rfl, ((HK.out.set0 (Nat.le_refl _) _ _).set0 (Nat.le_refl _) _ _).set0 (Nat.le_refl _) _ _⟩
end Go.Proofs.YtbhiaeciiphelaaGreatDoor
