/-
  DERIVED. The reference's moment. Condition: the events lie in a row; there are at most sixty thousand.
-/
import Derived.Test.YtbhiaeciiphelaaGreatDoorMomE
import Derived.Test.YtbhiaeciiphelaaGreatDoorEvY
import Derived.WalkMore
import Derived.Deep.OwnRows
import Derived.Deep.RegionHeld3
import Derived.Deep.RegionLaw
import Derived.Deep.AppendLies
namespace Go.Proofs.YtbhiaeciiphelaaGreatDoor
open Go.RowKit
theorem info35r : (Tryz.prog.info? 35).map (fun i => (i.zero, i.size, i.bytes)) = some (some (.slice none 0 0), 1, 24) := by kernel_rfl
theorem under59r : Tryz.prog.underlying 59 = some (.slice 35) := by kernel_rfl
theorem size65 : (Tryz.prog.info? 65).map (·.size) = some 4 := by kernel_rfl
theorem results_then {fn : Func} {p : Tmp} (h : fn.results = #[.cell p 65]) (tmps : Array Value) (w : World) (g : Nat) (x y z u : Value) (hp : tmps.getD p undef = .pointer (some ⟨g, 0, none⟩)) (hg : w.heap[g]? = some (.cells #[x, y, z, u] 65 (0, 0))) :
    (results fn tmps).run Tryz.prog w = .ok (.agg #[x, y, z, u]) w :=
  results_cell_row h tmps w g 65 _ _ _ hp hg Tryz.underlying65 rfl size65
/-- What a function of the reference hands back. -/
def ThenPost (w : World) (r : Mom × Int) (x : Ending) (w' : World) : Prop := ∃ a b c, x = .returned (.agg #[a, b, c, .int .i64 r.2]) ∧ (∀ W', Kept (fun b => b < w.heap.size) w' W' → MomAt W' (.agg #[a, b, c]) r.1) ∧ Keeps w w'
/-- Behind so many events: what the reference has gathered. -/
def ARel (w : World) (evs : List Ev) (BO i : Nat) (W : World) : Prop :=
  ∃ (s : St) (st : List Nat) (wr : List Int) (F : Nat → Value) (C : Nat → List Int) (rv : Value), St.start.run 0 (evs.take i) = some s ∧ AtM evs i s st wr ∧
    MomMem w W BO F C rv st.length (st.length + 2) ∧ Marked w W (BO + 1) wr ∧ W.heap[w.heap.size]? = some (.cells #[.slice none 0 0, .slice none 0 0, .slice none 0 0, .int .i64 0] 65 (0, 0)) ∧
    C 0 = opens s st ∧ C 1 = [] ∧ ∀ (j : Nat) (z : List Int), (seens evs s st)[j]? = some z → C (j + 2) = z
/-- Behind so many addresses. -/
def BRel (w : World) (BO r : Nat) (wr : List Int) (c0 : List Int) (cs : List (List Int)) (i : Nat) (W : World) : Prop :=
  ∃ (F : Nat → Value) (C : Nat → List Int) (rv : Value), MomMem w W BO F C rv r (r + 2) ∧ Marked w W (BO + 1) wr ∧ W.heap[w.heap.size]? = some (.cells #[.slice none 0 0, .slice none 0 0, .slice none 0 0, .int .i64 0] 65 (0, 0)) ∧
    C 0 = c0 ∧ C 1 = slotsTo wr i ∧ ∀ (j : Nat) (z : List Int), cs[j]? = some z → C (j + 2) = z
theorem append_at {α : Type} {l : List α} {z x : α} {j : Nat} (h : (l ++ [z])[j]? = some x) : (j < l.length ∧ l[j]? = some x) ∨ (j = l.length ∧ x = z) := by
  have hj := (List.getElem?_eq_some_iff.1 h).1
  rw [List.length_append] at hj
  by_cases e : j < l.length
  · rw [List.getElem?_append_left e] at h; exact .inl ⟨e, h⟩
  · have e2 : j = l.length := by simp at hj; omega
    subst e2
    simp at h
    exact .inr ⟨rfl, h.symm⟩
theorem atP_no {evs : List Ev} {x : Int} (h : readOf evs = none) : atP evs x = (zeroMom, 250) := by unfold atP; rw [if_pos h]
theorem atP_past {evs : List Ev} {f : St} {x : Int} (h : readOf evs = some f) (hx : x < 0 ∨ (evs.length : Int) < x) : atP evs x = (zeroMom, 251) := by unfold atP; rw [if_neg (by rw [h]; simp), if_pos hx]
theorem atP_yes {evs : List Ev} {f : St} {x : Nat} (h : readOf evs = some f) (hx : x ≤ evs.length) : atP evs (x : Int) = (theM evs x, 0) := by unfold atP; rw [if_neg (by rw [h]; simp), if_neg (by omega)]; rfl
theorem then_zero {w w' : World} {k : Int} (hk : Keeps w w') : ThenPost w (zeroMom, k) (.returned (.agg #[.slice none 0 0, .slice none 0 0, .slice none 0 0, .int .i64 k])) w' := ⟨_, _, _, rfl, fun _ _ => zeroMom_at _, hk⟩
theorem four_sets {W : World} {B : Nat} {x y z u x' y' z' u' : Value} (h : W.heap[B]? = some (.cells #[x, y, z, u] 65 (0, 0))) :
    ((((W.setCell ⟨B, 0, none⟩ x').setCell ⟨B, 1, none⟩ y').setCell ⟨B, 2, none⟩ z').setCell ⟨B, 3, none⟩ u').heap[B]? = some (.cells #[x', y', z', u'] 65 (0, 0)) := by
  rw [heap_set_same (heap_set_same (heap_set_same (heap_set_same h _) _) _) _]; rfl
theorem four_keeps {w W : World} {B : Nat} {x' y' z' u' : Value} (h : Keeps w W) (hB : w.heap.size ≤ B) :
    Keeps w ((((W.setCell ⟨B, 0, none⟩ x').setCell ⟨B, 1, none⟩ y').setCell ⟨B, 2, none⟩ z').setCell ⟨B, 3, none⟩ u') := Kept.one0 (Kept.one0 (Kept.one0 (Kept.one0 h hB _ _) hB _ _) hB _ _) hB _ _
theorem MomMem.outAt {w W : World} {B g n cap m : Nat} {F : Nat → Value} {C : Nat → List Int} (h : MomMem w W B F C (.slice (some ⟨g, 0, none⟩) n cap) n m) {j : Nat} (hj : j < n) :
    W.cell? ⟨g, j, none⟩ = some (F (j + 2)) ∧ W.frozen? ⟨g, j, none⟩ = false ∧ g < W.heap.size ∧ g ≠ B ∧ n ≤ cap := by
  obtain ⟨cur, hc⟩ := row_block h.outer (g := g) rfl
  refine ⟨?_, free_of_block hc j, heap_lt hc, h.neR rfl, ?_⟩
  · have h3 := h.outer.cells (g := g) rfl j (F (j + 2)) (by simp [hj])
    by_cases e : j = 0
    · subst e; simpa [Addr.add] using h3
    · simpa [Addr.add, e] using h3
  · rcases h.outer.2 with ⟨h0, _⟩ | ⟨_, _, _, hv, _, _, h1, _⟩
    · cases h0
    · cases hv; exact h1
/-- A goal that is held back. -/
theorem hold {p : Prop} (h : Hid p) : p := h.out
set_option maxHeartbeats 8000000 in
set_option maxRecDepth 100000 in
theorem refAt_of (w : World) (a : Option Addr) (n c : Nat) (evs : List Ev) (h : EvIn w a n evs) (x : Int) :
    Calls Tryz.prog 31 #[.slice a n c, .int .i64 x] w (ThenPost w (atP evs x)) := by
  have HI := Lib.hid h
  have hfew := h.few
  have hk0 : EvIn (w.alloc (.cells #[.slice none 0 0, .slice none 0 0, .slice none 0 0, .int .i64 0] 65)) a n evs := h.keeps (Keeps.alloc _ _)
  have HT := Lib.hid (right_is (c := c) hk0)
  have HZ := Lib.hid (heap_alloc_at w (.cells #[.slice none 0 0, .slice none 0 0, .slice none 0 0, .int .i64 0] 65))
  have HK0 := Lib.hid (Keeps.alloc w (.cells #[.slice none 0 0, .slice none 0 0, .slice none 0 0, .int .i64 0] 65))
  obtain ⟨big, hbig⟩ : ∃ big, big = madeCells #[.bool false] 30000 := ⟨_, rfl⟩
  have hmk : ∀ w : World, (Instr.makeSlice 49 (.int .i64 30000) (.int .i64 30000)).run Tryz.prog w = .ok (.slice (some ⟨w.heap.size, 0, none⟩) 30000 30000) (w.alloc (.cells big 4)) := by
    intro w
    rw [hbig]
    exact run_make_row' 49 4 (.bool false) 1 (by kernel_rfl) info4 rfl .i64 .i64 30000 (by decide) (by decide) w
  have Hbig := Lib.hid hbig
  obtain ⟨i3, hi3, hz3, hs3, hb3⟩ := info_parts info3
  obtain ⟨i35, hi35, hz35, hs35, hb35⟩ := info_parts info35r
  clear h hbig hk0
  cases hro : readOf evs with
  | none =>
    rw [atP_no hro]
    rw [hro] at HT
    clear hro hmk
    go_enter Tryz.func31, Tryz.ntmps31
    go_wp2_with (go_at_call 24; refine HT.out.mono ?_; rintro _ w1 ⟨rfl, hk⟩; have HB := Lib.hid (hk.at HZ.out (fun x => x)); have b0 := cell_of_block HB.out 0; have b1 := cell_of_block HB.out 1; have b2 := cell_of_block HB.out 2; have b3 := cell_of_block HB.out 3; have f0 := free_of_block HB.out 0; have f1 := free_of_block HB.out 1; have f2 := free_of_block HB.out 2; have f3 := free_of_block HB.out 3; simp at b0 b1 b2 b3; have HK := Lib.hid hk; clear hk)
    try rw [Exit.noGoto_ret]
    exact bodyPost_ret (results_then rfl _ _ w.heap.size _ _ _ _ rfl (four_sets HB.out)) rfl (then_zero (four_keeps (Keeps.trans HK0.out HK.out) (Nat.le_refl _)))
  | some f =>
    have HO := Lib.hid hro
    rw [hro] at HT
    by_cases hx : x < 0 ∨ (n : Int) < x
    · rw [atP_past hro (by rw [← HI.out.len]; exact hx)]
      clear hro hmk
      rcases hx with hx | hx
      · go_enter Tryz.func31, Tryz.ntmps31
        go_wp2_with (go_at_call 24; refine HT.out.mono ?_; rintro _ w1 ⟨rfl, hk⟩; have HB := Lib.hid (hk.at HZ.out (fun x => x)); have b0 := cell_of_block HB.out 0; have b1 := cell_of_block HB.out 1; have b2 := cell_of_block HB.out 2; have b3 := cell_of_block HB.out 3; have f0 := free_of_block HB.out 0; have f1 := free_of_block HB.out 1; have f2 := free_of_block HB.out 2; have f3 := free_of_block HB.out 3; simp at b0 b1 b2 b3; have HK := Lib.hid hk; clear hk)
        try rw [Exit.noGoto_ret]
        exact bodyPost_ret (results_then rfl _ _ w.heap.size _ _ _ _ rfl (four_sets HB.out)) rfl (then_zero (four_keeps (Keeps.trans HK0.out HK.out) (Nat.le_refl _)))
      · have hx0 : ¬ x < 0 := by omega
        go_enter Tryz.func31, Tryz.ntmps31
        go_wp2_with (go_at_call 24; refine HT.out.mono ?_; rintro _ w1 ⟨rfl, hk⟩; have HB := Lib.hid (hk.at HZ.out (fun x => x)); have b0 := cell_of_block HB.out 0; have b1 := cell_of_block HB.out 1; have b2 := cell_of_block HB.out 2; have b3 := cell_of_block HB.out 3; have f0 := free_of_block HB.out 0; have f1 := free_of_block HB.out 1; have f2 := free_of_block HB.out 2; have f3 := free_of_block HB.out 3; simp at b0 b1 b2 b3; have HK := Lib.hid hk; clear hk)
        try rw [Exit.noGoto_ret]
        exact bodyPost_ret (results_then rfl _ _ w.heap.size _ _ _ _ rfl (four_sets HB.out)) rfl (then_zero (four_keeps (Keeps.trans HK0.out HK.out) (Nat.le_refl _)))
    obtain ⟨k, rfl⟩ : ∃ k : Nat, x = k := ⟨x.toNat, by omega⟩
    have hkn : k ≤ n := by omega
    rw [atP_yes hro (by rw [← HI.out.len]; exact hkn)]
    have k0 : ¬ (k : Int) < 0 := by omega
    have k1 : ¬ (n : Int) < k := by omega
    have d0 : decide ((k : Int) < 0) = false := decide_eq_false k0
    have d1 : decide ((n : Int) < k) = false := decide_eq_false k1
    clear hro hx
    go_enter Tryz.func31, Tryz.ntmps31
    go_wp2_with (go_at_call 24; refine HT.out.mono ?_; rintro _ w1 ⟨rfl, hk⟩; have HB := Lib.hid (hk.at HZ.out (fun x => x)); have HK := Lib.hid hk; clear hk)
    obtain ⟨BO, hBO⟩ : ∃ b, b = w1.heap.size := ⟨_, rfl⟩
    try rw [← hBO]
    simp only [show decide (n < k) = false from decide_eq_false (by omega)]
    have hBw : w.heap.size < BO := by rw [hBO]; exact heap_lt HB.out
    have HBO := Lib.hid hBO
    clear hBO hmk k0 k1
    go_loopw [7] (fun q W => ∃ i : Nat, i ≤ k ∧ q = .int .i64 i ∧ ARel w evs BO i W) (fun q _ => k - (intOf q).toNat)
    case atStart =>
      have s1 : (w1.alloc (.cells #[.slice none 0 0, .slice none 0 0, .slice none 0 0] 61)).heap.size = BO + 1 := by rw [World.size_alloc, HBO.out]
      refine ⟨0, Nat.zero_le _, rfl, St.start, [], [], fun _ => .slice none 0 0, fun _ => [], .slice none 0 0, rfl, .start evs, ⟨Kept.alloc (Kept.alloc (Keeps.trans HK0.out HK.out) _) _, by omega, ?_, ⟨fun k _ => World.ownsRow_nil _ _ _ _, fun j k b _ _ _ hb => by simp [Value.ownBlock] at hb⟩, Nat.le_refl _, World.ownsRow_nil _ _ _ _⟩, ⟨by omega, ⟨big, ?_, by rw [Hbig.out]; exact size_madeCells _ _, fun a h0 h1 => ?_⟩⟩, heap_alloc_old _ (heap_alloc_old _ HB.out), rfl, rfl, fun j z hj => by simp [seens] at hj⟩
      · rw [HBO.out]; exact heap_alloc_old _ (heap_alloc_at _ _)
      · rw [← s1]; exact heap_alloc_at _ _
      · rw [Hbig.out]
        simp [madeCells, h1, Nat.mod_one]
    case round =>
      obtain ⟨i, hi, rfl, s, st, wr0, F, C, rv, hr, ha, hmm, hd, hx0, hC0, hC1, hC2⟩ := hrel
      have HR := Lib.hid hr
      have HA := Lib.hid ha
      have HMM := Lib.hid hmm
      have HD := Lib.hid hd
      have HX0 := Lib.hid hx0
      have HC0 := Lib.hid hC0
      have HC1 := Lib.hid hC1
      have HC2 := Lib.hid hC2
      have o0 := cell_of_block hmm.blk 0
      have o1 := cell_of_block hmm.blk 1
      have o2 := cell_of_block hmm.blk 2
      have f0 := free_of_block hmm.blk 0
      have f1 := free_of_block hmm.blk 1
      have f2 := free_of_block hmm.blk 2
      simp at o0 o1 o2
      clear hr ha hmm hd hx0 hC0 hC1 hC2
      by_cases hik : i < k
      · obtain ⟨e, he⟩ : ∃ e, evs[i]? = some e := ⟨evs[i]'(by rw [← HI.out.len]; omega), List.getElem?_eq_getElem _⟩
        obtain ⟨eb, eo, rfl, hlt, c0, c1, c2, c3, c4, c5, c6, c7⟩ := (HI.out.ev.keeps HMM.out.kept).cells he
        have HE := Lib.hid he
        have k1 : (i : Int) < k := by omega
        have k2 : (0 : Int) ≤ i := by omega
        have k3 : (i : Int) < n := by omega
        have l3 : BO < wr.heap.size := heap_lt HMM.out.blk
        have l4 : BO + 1 < wr.heap.size := HD.out.lt
        clear he
        have hstep : ∃ s2, s.step i e = some s2 := by
          cases hs2 : s.step i e with
          | some s2 => exact ⟨s2, rfl⟩
          | none => have := read_stop HR.out HE.out hs2; rw [HO.out] at this; cases this
        obtain ⟨s2, hs2⟩ := hstep
        have hA2 := Lib.hid (HA.out.step HE.out hs2)
        have hR2 := Lib.hid ((St.run_take _ _ _ _ _ HR.out HE.out).trans hs2)
        have hadr := form_addr (step_okform hs2)
        have hsl := HA.out.stlen
        have HMa := Lib.hid (fun (o : Obj) => HMM.out.keeps (Keeps.alloc wr o))
        have HDa := Lib.hid (fun (o : Obj) => HD.out.keeps (Keeps.alloc wr o))
        have hkind : e.kind = 1 ∨ e.kind = 2 ∨ e.kind = 3 := by
          rcases step_cases hs2 with ⟨q1, _⟩ | ⟨_, _, _, _, q1, _⟩ | ⟨_, _, _, _, q1, _⟩ <;> omega
        rcases hkind with q1 | q2 | q3
        · rw [q1] at c0
          obtain ⟨z1, z2, z3, z4⟩ := opens_make HA.out hs2 q1
          have Z1 := Lib.hid z1
          have Z2 := Lib.hid z2
          have Z3 := Lib.hid z3
          have Z4 := Lib.hid z4
          have hol : (C 0).length ≤ n := by rw [HC0.out, opens_len]; omega
          clear hs2 z1 z2 z3 z4 hadr
          go_wp2_with (first
            | (at_builtin; (refine wpList_append_own_at _ rfl (.tmp 59) (.tmp 62) 35 rfl w.heap.size 3 i3 (.int .i64 0) 1 8 under35 hi3 hz3 hs3 hb3 rfl (by decide) (F 0) (C 0).length (ints (C 0)) rfl (((HMM.out.fam.rows 0 (by omega)).alloc _).alloc _) ⟨_, 0, none⟩ 1 1 [.int .i64 e.addr] rfl rfl (by intro j u hj; have h9 := cell_one_new (wr.alloc (.cells #[.int .i64 1, .int .i64 e.site, .int .i64 e.addr, .slice e.args e.argn e.argc, .int .i64 e.vk, .int .i64 e.vn, .string e.vs, .slice e.va e.van e.vac] 98)) (.int .i64 e.addr) 3 j u hj; rw [World.size_alloc] at h9; exact h9) (by simp [Value.oneCell']) (by unfold maxLen; omega) (by omega) (by have h9 := HMM.out.kept.size; rw [World.size_alloc, World.size_alloc]; omega) ?_; intro v5 w5 hown5 hgrow5 hnil5 hat5; obtain ⟨g5, cap5, rfl⟩ := row_succ hown5; obtain ⟨hM6, hB6, hcalm⟩ := (HMa.out _).top (j := 0) (by omega) hgrow5 hown5 hat5; have g1 := cell_of_block hB6 0; have g2 := free_of_block hB6 0; have g3 := cell_of_block hB6 2; simp at g1 g3; have hD6 := (HDa.out _).same (fun o ho hc => hcalm _ o ho hc (by omega)); have hy0 := hcalm _ _ (heap_alloc_old _ HX0.out) (calm_of (by decide) (by decide)) (by omega); have HM6 := Lib.hid hM6; have HD6 := Lib.hid hD6; have HY0 := Lib.hid hy0; clear hM6 hB6 hcalm hD6 hy0 hown5 hgrow5 hnil5 hat5))
            | (at_builtin; refine hold ?_))
          refine Lib.hid ?_
          refine wpList_append_own_at _ rfl (.tmp 66) (.tmp 67) 59 rfl w.heap.size 35 i35 (.slice none 0 0) 1 24 under59r hi35 hz35 hs35 hb35 rfl (by decide) rv st.length ((List.range st.length).map fun j => if j + 2 = 0 then (.slice (some ⟨g5, 0, none⟩) ((C 0).length + 1) cap5 : Value) else F (j + 2)) rfl (HM6.out.outer.alloc _) ⟨_, 0, none⟩ 1 1 [.slice none 0 0] rfl rfl (by intro j u hj; have h9 := cell_one_new (w5.setCell ⟨BO, 0, none⟩ (.slice (some ⟨g5, 0, none⟩) ((C 0).length + 1) cap5)) (.slice none 0 0) 35 j u hj; simpa [World.setCell] using h9) (by simp [Value.oneCell']) (by unfold maxLen; omega) (by omega) (by have h9 := HM6.out.kept.size; rw [World.size_alloc]; omega) ?_
          intro v7 w7 hown7 hgrow7 hnil7 hat7
          obtain ⟨g7, cap7, rfl⟩ := row_succ hown7
          obtain ⟨hM8, hB8, hcalm⟩ := HM6.out.pushNil hgrow7 hown7
          have q1 := cell_of_block hB8 2
          have q2 := free_of_block hB8 2
          simp at q1
          have hD8 := HD6.out.same (fun o ho hc => hcalm _ o ho hc (by omega))
          have hy0 := hcalm _ _ HY0.out (calm_of (by decide) (by decide)) (by omega)
          have HM8 := Lib.hid hM8
          have HD8 := Lib.hid hD8
          have HQ0 := Lib.hid hy0
          clear hM8 hB8 hcalm hD8 hy0 hown7 hgrow7 hnil7 hat7
          go_wp2_with fail
          go_roundw
          case rel =>
            refine ⟨i + 1, by omega, by go_num, s2, _, _, (fun k => if k = st.length + 2 then .slice none 0 0 else if k = 0 then .slice (some ⟨g5, 0, none⟩) ((C 0).length + 1) cap5 else F k), (fun k => if k = st.length + 2 then [] else if k = 0 then C 0 ++ [e.addr] else C k), .slice (some ⟨g7, 0, none⟩) (st.length + 1) cap7, hR2.out, hA2.out, ?_, ?_, HQ0.out, ?_, ?_, ?_⟩
            · rw [Z4.out]; exact HM8.out
            · rw [Z3.out]; exact HD8.out
            · rw [Z1.out]
              show (if 0 = st.length + 2 then _ else if (0 : Nat) = 0 then _ else C 0) = _
              rw [if_neg (by omega), if_pos rfl, HC0.out]
            · show (if 1 = st.length + 2 then _ else if (1 : Nat) = 0 then _ else C 1) = _
              rw [if_neg (by omega), if_neg (by omega)]; exact HC1.out
            · rw [Z2.out]
              intro j z hz
              show (if j + 2 = st.length + 2 then _ else if j + 2 = 0 then _ else C (j + 2)) = _
              rcases append_at hz with ⟨hj, hz⟩ | ⟨hj, rfl⟩
              · rw [seens_len] at hj
                rw [if_neg (by omega), if_neg (by omega)]; exact HC2.out j z hz
              · rw [seens_len] at hj
                rw [if_pos (by omega)]
          case measure => simp [intOf] <;> omega
        · rw [q2] at c0
          obtain ⟨l2, a2, z1, z2, z3, z4, z5, z6⟩ := opens_read HA.out HE.out hs2 q2
          have hll : l2.length + 1 = st.length := by have h9 := congrArg List.length z2; rw [seens_len] at h9; simpa using h9.symm
          obtain ⟨r, hr⟩ : ∃ r, r = l2.length := ⟨_, rfl⟩
          have hr1 : st.length = r + 1 := by omega
          have hmm := HMM.out.keeps (Keeps.alloc wr (.cells #[.int .i64 2, .int .i64 e.site, .int .i64 e.addr, .slice e.args e.argn e.argc, .int .i64 e.vk, .int .i64 e.vn, .string e.vs, .slice e.va e.van e.vac] 98))
          rw [hr1] at hmm
          obtain ⟨gr, capr, rfl⟩ := row_succ hmm.outer
          have hCr : C (r + 2) = a2 := HC2.out r a2 (by rw [z2, hr]; simp)
          have hrn : r + 1 ≤ n := by omega
          have Z1 := Lib.hid z1
          have Z2 := Lib.hid z2
          have Z3 := Lib.hid z3
          have Z4 := Lib.hid z4
          have Z5 := Lib.hid z5
          have HR1 := Lib.hid hr1
          have HRl := Lib.hid hr
          have HCr := Lib.hid hCr
          have HM1 := Lib.hid hmm
          have w1' : IntKind.i64.wrap (r : Int) = r := by rw [IntKind.wrap_i64]; omega
          have w2' : (0 : Int) ≤ r := by omega
          have w3' : (r : Int) < r + 1 := by omega
          have hcl : (C (r + 2)).length ≤ n := by rw [hCr]; omega
          clear hs2 z1 z2 z3 z4 z5 z6 hll hr hr1 hmm hadr hCr
          go_wp2_with fail
          have hX := Lib.hid (heap_alloc_old (.cells #[.int .i64 2, .int .i64 e.site, .int .i64 e.addr, .slice e.args e.argn e.argc, .int .i64 e.vk, .int .i64 e.vn, .string e.vs, .slice e.va e.van e.vac] 98) HX0.out)
          have hDa := Lib.hid (HDa.out (.cells #[.int .i64 2, .int .i64 e.site, .int .i64 e.addr, .slice e.args e.argn e.argc, .int .i64 e.vk, .int .i64 e.vn, .string e.vs, .slice e.va e.van e.vac] 98))
          have hev := heap_alloc_at wr (.cells #[.int .i64 2, .int .i64 e.site, .int .i64 e.addr, .slice e.args e.argn e.argc, .int .i64 e.vk, .int .i64 e.vn, .string e.vs, .slice e.va e.van e.vac] 98)
          have hsz : wr.heap.size < (wr.alloc (.cells #[.int .i64 2, .int .i64 e.site, .int .i64 e.addr, .slice e.args e.argn e.argc, .int .i64 e.vk, .int .i64 e.vn, .string e.vs, .slice e.va e.van e.vac] 98)).heap.size := by rw [World.size_alloc]; exact Nat.lt_succ_self _
          generalize wr.alloc (.cells #[.int .i64 2, .int .i64 e.site, .int .i64 e.addr, .slice e.args e.argn e.argc, .int .i64 e.vk, .int .i64 e.vn, .string e.vs, .slice e.va e.van e.vac] 98) = W2 at HM1 hX hDa hev hsz ⊢
          generalize wr.heap.size = E at hev hsz l3 l4 ⊢
          obtain ⟨y1, y2, y3, y4, y5⟩ := HM1.out.outAt (j := r) (Nat.lt_succ_self _)
          have y0 := cell_of_block HM1.out.blk 2
          have y6 := cell_of_block hev 2
          have y7 : BO < W2.heap.size := heap_lt HM1.out.blk
          have n1 : (F (r + 2)).ownBlock ≠ some BO := fun h => (HM1.out.neF (by omega) h).1 rfl
          have n2 : (F (r + 2)).ownBlock ≠ some gr := fun h => (HM1.out.neF (by omega) h).2 rfl
          have n3 : (F (r + 2)).ownBlock ≠ some E := fun h => by
            obtain ⟨⟨cur, h1⟩, _⟩ := HM1.out.fam.block (by omega) h
            rw [hev] at h1; simp at h1
          simp at y0 y6
          have y8 : gr ≠ W2.heap.size := Nat.ne_of_lt y3
          have y9 : gr ≠ E := by
            obtain ⟨cur, h1⟩ := row_block HM1.out.outer (g := gr) rfl
            intro h2
            rw [h2, hev] at h1; simp at h1
          have HN1 := Lib.hid n1
          have HN2 := Lib.hid n2
          have HN3 := Lib.hid n3
          have key : ∀ (g5 cap5 : Nat) (w5 : World), w5.ownsRow w.heap.size 3 1 (.slice (some ⟨g5, 0, none⟩) ((C (r + 2)).length + 1) cap5) ((C (r + 2)).length + 1) (ints (C (r + 2)) ++ [.int .i64 e.addr]) →
              (W2.alloc (.cells #[.int .i64 e.addr] 3)).drew.grownBy w5 (F (r + 2)).ownBlock → ((F (r + 2)).ownBlock = some g5 ∨ g5 = W2.heap.size + 1) → ARel w evs BO (i + 1) (w5.setCell ⟨gr, r, none⟩ (.slice (some ⟨g5, 0, none⟩) ((C (r + 2)).length + 1) cap5)) := by
            intro g5 cap5 w5 hown hgrow hat
            obtain ⟨hM8, _, _, hcalm⟩ := HM1.out.last (W' := w5) (o := .cells #[.int .i64 e.addr] 3) rfl ⟨hgrow.os, hgrow.tape, hgrow.output, hgrow.size, hgrow.block⟩ hown (by
              rcases hat with h | h
              · exact .inl h.symm
              · exact .inr (by rw [World.size_alloc, h]; rfl))
            refine ⟨s2, _, _, (fun k => if k = r + 2 then .slice (some ⟨g5, 0, none⟩) ((C (r + 2)).length + 1) cap5 else F k), (fun k => if k = r + 2 then C (r + 2) ++ [e.addr] else C k), .slice (some ⟨gr, 0, none⟩) (r + 1) capr, hR2.out, hA2.out, ?_, ?_, hcalm _ _ hX.out (calm_of (by decide) (by decide)), ?_, ?_, ?_⟩
            · rw [Z5.out, HR1.out]; exact hM8
            · rw [Z4.out]; exact hDa.out.same fun o ho hc => hcalm _ o ho hc
            · rw [Z1.out]
              show (if 0 = r + 2 then _ else C 0) = _
              rw [if_neg (by omega)]; exact HC0.out
            · show (if 1 = r + 2 then _ else C 1) = _
              rw [if_neg (by omega)]; exact HC1.out
            · rw [Z3.out]
              intro j z hz
              show (if j + 2 = r + 2 then _ else C (j + 2)) = _
              rcases append_at hz with ⟨hj, hz⟩ | ⟨hj, rfl⟩
              · rw [← HRl.out] at hj
                rw [if_neg (by omega)]
                refine HC2.out j z ?_
                rw [Z2.out, List.getElem?_append_left (by rw [← HRl.out]; exact hj)]; exact hz
              · rw [← HRl.out] at hj
                rw [if_pos (by omega), HCr.out]
          have KEY := Lib.hid key
          clear c0 c1 c2 c3 c4 c5 c6 c7 o0 o1 o2 f0 f1 f2 n1 n2 n3 hev hsl key
          go_region_law
            ((refine step_append_lies _ (by rfl) _ _ _ (by rfl) w.heap.size 3 i3 (.int .i64 0) 1 8 under35 hi3 hz3 hs3 hb3 rfl (by decide) (F (r + 2)) (C (r + 2)).length (ints (C (r + 2))) (by rfl) (((HM1.out.fam.rows (r + 2) (by omega)).alloc _).drew) ⟨W2.heap.size, 0, none⟩ 1 1 [.int .i64 e.addr] (by rfl) (by rfl) (World.news_of_block (cs := #[.int .i64 e.addr]) (t := 3) (fr := (0, 0)) (heap_alloc_new W2 _)) (by simp [Value.oneCell']) (by omega) (by unfold maxLen; omega) (by omega) (by have h9 := HM1.out.kept.size; simp; omega) (W2.heap.size + 1) (by simp) ?_; intro g5 cap5 w5 hown hgrow hat hlt5; have yc : w5.cell? ⟨gr, r, none⟩ = some (F (r + 2)) := (by rw [hgrow.cell_far _ (by simp <;> omega) (Ne.symm HN2.out)] <;> simp [World.cell?_alloc_some, y1]); have yf : w5.frozen? ⟨gr, r, none⟩ = false := (by rw [hgrow.frozen_far _ (by simp <;> omega) (Ne.symm HN2.out)] <;> simp [World.frozen?_alloc_old, y2, y8]); have yb : w5.cell? ⟨BO, 2, none⟩ = some (.slice (some ⟨gr, 0, none⟩) (r + 1) capr) := by (rw [hgrow.cell_far _ (by simp <;> omega) (Ne.symm HN1.out)] <;> simp [World.cell?_alloc_some, y0])))
          all_goals
            go_wp2_with fail
            go_roundw
            case rel => exact ⟨i + 1, by omega, by go_num, KEY.out _ _ _ hown hgrow hat⟩
            case measure => simp [intOf] <;> omega
        · rw [q3] at c0
          obtain ⟨l1, a1, l2, a2, z1, z2, z3, z4, z5, z6⟩ := opens_write HA.out hs2 q3
          obtain ⟨r, hr⟩ : ∃ r, r = (stStep s e st).length := ⟨_, rfl⟩
          rw [← hr] at z6
          have hrn : r + 1 ≤ n := by omega
          have hc0 : (C 0).length = r + 1 := by rw [HC0.out, opens_len, z6]
          have hmm := HMM.out
          rw [z6] at hmm
          have hrow0 := hmm.fam.rows 0 (by omega)
          rw [hc0] at hrow0
          obtain ⟨g0, cap0, hF0⟩ := row_succ hrow0
          obtain ⟨gr, capr, rfl⟩ := row_succ hmm.outer
          have hb0 := hrow0.2
          have hbr := hmm.outer.2
          rw [hF0] at o0 hb0
          obtain ⟨hk0, hk1⟩ : r + 1 ≤ cap0 ∧ cap0 ≤ maxLen := by
            rcases hb0 with ⟨h0, _⟩ | ⟨_, _, _, hv, _, _, h1, h2, _⟩
            · cases h0
            · cases hv; exact ⟨h1, h2⟩
          obtain ⟨hk2, hk3⟩ : r + 1 ≤ capr ∧ capr ≤ maxLen := by
            rcases hbr with ⟨h0, _⟩ | ⟨_, _, _, hv, _, _, h1, h2, _⟩
            · cases h0
            · cases hv; exact ⟨h1, h2⟩
          have m0 := HD.out.cell hadr.1 hadr.2
          have m1 := HD.out.free e.addr.toNat
          have Z1 := Lib.hid z1
          have Z2 := Lib.hid z2
          have Z3 := Lib.hid z3
          have Z4 := Lib.hid z4
          have Z5 := Lib.hid z5
          have Z6 := Lib.hid z6
          have HRr := Lib.hid hr
          have HF0 := Lib.hid hF0
          have HCl := Lib.hid hc0
          have HM1 := Lib.hid hmm
          have ha0 := hadr.1
          have ha1 := hadr.2
          have w1' : IntKind.i64.wrap (r : Int) = r := by rw [IntKind.wrap_i64]; omega
          have w2' : (0 : Int) ≤ r := by omega
          have w3' : (r : Int) < r + 1 := by omega
          have w4' : (r : Int) ≤ cap0 := by omega
          have w5' : (r : Int) ≤ capr := by omega
          have w6' : cap0 ≤ 9223372036854775807 := hk1
          have w7' : capr ≤ 9223372036854775807 := hk3
          clear hs2 z1 z2 z3 z4 z5 z6 hr hmm hrow0 hF0 hb0 hbr hk1 hk3 hadr hc0
          go_wp2_with fail
          go_roundw
          case rel =>
            have hM3 := ((HM1.out.cutTop HF0.out HCl.out).cutOuter rfl).less (m' := r + 2) (Nat.le_refl _) (by omega)
            have hD3 : Marked w ((wr.setCell ⟨BO, 0, none⟩ (.slice (some ⟨g0, 0, none⟩) r cap0)).setCell ⟨BO, 2, none⟩ (.slice (some ⟨gr, 0, none⟩) r capr)) (BO + 1) wr0 := HD.out.same fun o ho _ => by rw [heap_set_other _ (by omega), heap_set_other _ (by omega)]; exact ho
            have hM4 := (hM3.marks hD3 (by omega) e.addr.toNat (.bool true)).keeps (Keeps.alloc _ (.cells #[.int .i64 3, .int .i64 e.site, .int .i64 e.addr, .slice e.args e.argn e.argc, .int .i64 e.vk, .int .i64 e.vn, .string e.vs, .slice e.va e.van e.vac] 98))
            have hD4 := (hD3.mark ha0 ha1).keeps (Keeps.alloc _ (.cells #[.int .i64 3, .int .i64 e.site, .int .i64 e.addr, .slice e.args e.argn e.argc, .int .i64 e.vk, .int .i64 e.vn, .string e.vs, .slice e.va e.van e.vac] 98))
            refine ⟨i + 1, by omega, by go_num, s2, _, _, _, _, _, hR2.out, hA2.out, by rw [← HRr.out]; exact hM4, by rw [Z5.out]; exact hD4, ?_, ?_, ?_, ?_⟩
            · refine heap_alloc_old _ ?_
              rw [heap_set_other _ (by omega), heap_set_other _ (by omega), heap_set_other _ (by omega)]; exact HX0.out
            · rw [Z2.out]
              show (C 0).take r = _
              rw [HC0.out, Z1.out, List.take_left' (by have h9 := congrArg List.length Z1.out; rw [opens_len, Z6.out] at h9; simp at h9; exact h9.symm)]
            · exact HC1.out
            · rw [Z4.out]
              intro j z hz
              refine HC2.out j z ?_
              rw [Z3.out, List.getElem?_append_left (List.getElem?_eq_some_iff.1 hz).1]
              exact hz
          case measure => simp [intOf] <;> omega
      · obtain rfl : i = k := by omega
        have hneg : ¬ (i : Int) < i := by omega
        go_wp2_with fail
        go_loopw [10] (fun q W => ∃ j : Nat, j ≤ 30000 ∧ q = .int .i64 j ∧ BRel w BO st.length wr0 (opens s st) (seens evs s st) j W) (fun q _ => 30000 - (intOf q).toNat)
        case atStart => exact ⟨0, by omega, rfl, F, C, rv, HMM.out, HD.out, HX0.out, HC0.out, by rw [HC1.out]; rfl, HC2.out⟩
        case round =>
          clear o0 o1 o2 f0 f1 f2
          obtain ⟨j, hj, rfl, F2, C2, rv2, hmm, hd, hx0, hc0, hc1, hc2⟩ := hrel
          have HMM2 := Lib.hid hmm
          have HD2 := Lib.hid hd
          have HX2 := Lib.hid hx0
          have HC20 := Lib.hid hc0
          have HC21 := Lib.hid hc1
          have HC22 := Lib.hid hc2
          have o0 := cell_of_block hmm.blk 0
          have o1 := cell_of_block hmm.blk 1
          have o2 := cell_of_block hmm.blk 2
          have f1 := free_of_block hmm.blk 1
          simp at o0 o1 o2
          clear hmm hd hx0 hc0 hc1 hc2
          by_cases hjk : j < 30000
          · have m0 := HD2.out.cell (a := (j : Int)) (by omega) (by omega)
            have k6 : (j : Int) < 30000 := by omega
            have k7 : (0 : Int) ≤ j := by omega
            have l4 := HD2.out.lt
            simp only [Int.toNat_natCast] at m0
            by_cases hin : (j : Int) ∈ wr0
            · rw [decide_eq_true hin] at m0
              have hol : (C2 1).length ≤ 30000 := by rw [HC21.out]; exact Nat.le_trans (slotsTo_len _ _) hj
              have HIn := Lib.hid hin
              clear hin
              go_wp2_with (at_builtin; (refine wpList_append_own_at _ rfl (.tmp 100) (.tmp 102) 35 rfl w.heap.size 3 i3 (.int .i64 0) 1 8 under35 hi3 hz3 hs3 hb3 rfl (by decide) (F2 1) (C2 1).length (ints (C2 1)) rfl ((HMM2.out.fam.rows 1 (by omega)).alloc _) ⟨_, 0, none⟩ 1 1 [.int .i64 j] rfl rfl (cell_one_new _ _ _) (by simp [Value.oneCell']) (by unfold maxLen; omega) (by omega) (by have h9 := HMM2.out.kept.size; rw [World.size_alloc]; omega) ?_; intro v5 w5 hown5 hgrow5 hnil5 hat5; obtain ⟨g5, cap5, rfl⟩ := row_succ hown5; obtain ⟨hM6, hB6, hcalm⟩ := HMM2.out.top (j := 1) (by omega) hgrow5 hown5 hat5; have g1 := cell_of_block hB6 1; have g2 := free_of_block hB6 1; simp at g1; have hD6 := HD2.out.same (fun o ho hc => hcalm _ o ho hc (by omega)); have hy0 := hcalm _ _ HX2.out (calm_of (by decide) (by decide)) (by omega); have HM6 := Lib.hid hM6; have HD6 := Lib.hid hD6; have HY0 := Lib.hid hy0; clear hM6 hB6 hcalm hD6 hy0 hown5 hgrow5 hnil5 hat5))
              go_roundw
              case rel =>
                refine ⟨j + 1, by omega, by go_num, (fun k => if k = 1 then .slice (some ⟨g5, 0, none⟩) ((C2 1).length + 1) cap5 else F2 k), (fun k => if k = 1 then C2 1 ++ [(j : Int)] else C2 k), rv2, HM6.out, HD6.out, HY0.out, ?_, ?_, ?_⟩
                · show (if (0 : Nat) = 1 then _ else C2 0) = _
                  rw [if_neg (by omega)]; exact HC20.out
                · show (if (1 : Nat) = 1 then _ else C2 1) = _
                  rw [if_pos rfl, slotsTo_succ, if_pos HIn.out, HC21.out]
                · intro q z hq
                  show (if q + 2 = 1 then _ else C2 (q + 2)) = _
                  rw [if_neg (by omega)]; exact HC22.out q z hq
              case measure => simp [intOf] <;> omega
            · rw [decide_eq_false hin] at m0
              have HIn := Lib.hid hin
              clear hin
              go_wp2_with fail
              go_roundw
              case rel => exact ⟨j + 1, by omega, by go_num, F2, C2, rv2, HMM2.out, HD2.out, HX2.out, HC20.out, by rw [slotsTo_succ, if_neg HIn.out, List.append_nil]; exact HC21.out, HC22.out⟩
              case measure => simp [intOf] <;> omega
          · obtain rfl : j = 30000 := by omega
            have b0 := cell_of_block HX2.out 0
            have b1 := cell_of_block HX2.out 1
            have b2 := cell_of_block HX2.out 2
            have b3 := cell_of_block HX2.out 3
            have e0 := free_of_block HX2.out 0
            have e1 := free_of_block HX2.out 1
            have e2 := free_of_block HX2.out 2
            have e3 := free_of_block HX2.out 3
            simp at b0 b1 b2 b3
            obtain ⟨pf, cf, hF1⟩ := row_slice (HMM2.out.fam.rows 1 (by omega))
            obtain ⟨p0, k0, hF0⟩ := row_slice (HMM2.out.fam.rows 0 (by omega))
            obtain ⟨pr, kr, hFr⟩ := row_slice HMM2.out.outer
            rw [hF0] at o0
            rw [hF1] at o1
            rw [hFr] at o2
            have HF0 := Lib.hid hF0
            have HF1 := Lib.hid hF1
            have HFr := Lib.hid hFr
            clear hF0 hF1 hFr
            go_wp2_with fail
            refine bodyPost_ret (results_then rfl _ _ w.heap.size _ _ _ _ rfl (four_sets HX2.out)) rfl ?_
            have hfin := HMM2.out.aside HX2.out (by decide) (by decide) (by omega) (Nat.le_refl _) (Kept.one1 (Kept.one1 (Kept.one1 ((Kept.refl (fun b => b = w.heap.size) wr).one1 0 (.slice p0 (C2 0).length k0)) 1 (.slice pf (C2 1).length cf)) 2 (.slice pr st.length kr)) 3 (.int .i64 0))
            have hmo : (⟨C2 0, C2 1, (List.range st.length).map fun j => C2 (j + 2)⟩ : Mom) = theM evs i := by
              rw [theM_eq HR.out HA.out, HC20.out, HC21.out]
              have h9 := lists_of (q := id) HC22.out
              rw [seens_len, List.map_id] at h9
              rw [h9]; rfl
            refine ⟨_, _, _, rfl, fun W' hk => ?_, hfin.kept⟩
            have hd := hfin.stays hk
            rw [HF0.out, HF1.out, HFr.out, hmo] at hd
            exact hd
end Go.Proofs.YtbhiaeciiphelaaGreatDoor
