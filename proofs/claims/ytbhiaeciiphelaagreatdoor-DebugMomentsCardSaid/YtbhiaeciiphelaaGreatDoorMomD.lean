/-
  DERIVED. What package debug makes of a moment. Condition: the list lies in memory as read leaves it.
-/
import Derived.Test.YtbhiaeciiphelaaGreatDoorMomE
import Derived.Test.YtbhiaeciiphelaaGreatDoorEvY
import Derived.WalkMore
import Derived.Sort.OwnSortedInts
namespace Go.Proofs.YtbhiaeciiphelaaGreatDoor
open Go.RowKit
/-- slices.BinarySearch in a rising row: how many are below. -/
theorem bsearch_of (w : World) (base : Nat) (v : Value) (l : List Nat) (x : Nat) (h : w.ownsRow base 3 1 v l.length (nums l)) (hs : l.Pairwise (· < ·)) (hl : l.length ≤ 1000000) :
    Calls Tryz.prog 123 #[v, .int .i64 x] w fun e w' => ∃ fb, e = .returned (.tuple #[.int .i64 ((l.filter fun r => decide (r < x)).length : Nat), .bool fb]) ∧ ∃ q, w' = w.drewN q := by
  have hcnt : (l.map fun n : Nat => (n : Int)).countP (· < (x : Int)) = (l.filter fun r => decide (r < x)).length := by
    rw [List.countP_map, List.countP_eq_length_filter]
    congr 1
    refine List.filter_congr fun r _ => ?_
    simp [Function.comp]
  rcases h.2 with ⟨rfl, h2⟩ | ⟨g, cap, cur, hv, _, hg, hc, _⟩
  · have hnil : l = [] := List.eq_nil_of_length_eq_zero h2
    subst hnil
    refine (Tryz.slices_BinarySearch_int_empty none 0 x w).mono ?_
    rintro e w' ⟨rfl, rfl⟩
    exact ⟨false, rfl, 0, rfl⟩
  · subst hv
    have hz : (l.map fun n : Nat => (n : Int)).length = l.length := by simp
    have htk : (l.map fun n : Nat => (n : Int)).take l.length = l.map fun n : Nat => (n : Int) := List.take_of_length_le (by simp)
    refine (Tryz.slices_BinarySearch_int g 0 l.length cap (l.map fun n : Nat => (n : Int)) x w (by simp) (by omega) (fun j hj => ?_) ?_).mono ?_
    · have hj' : j < l.length := by simpa using hj
      have h3 := h.cells (g := g) rfl j (.int .i64 (l[j] : Nat)) (by simp [nums, hj'])
      rw [Nat.zero_add]
      have e1 : (l.map fun n : Nat => (n : Int)).getD j 0 = (l[j] : Nat) := by simp [List.getD, hj']
      rw [e1]
      by_cases e : j = 0
      · subst e; simpa [Addr.add] using h3
      · simpa [Addr.add, e] using h3
    · rw [htk, List.pairwise_map]
      exact hs.imp (fun h => by omega)
    · rintro e w' ⟨rfl, q, rfl⟩
      rw [htk, hcnt]
      exact ⟨_, rfl, q, rfl⟩
set_option maxHeartbeats 2000000 in
theorem before_of (w : World) (base b : Nat) (v : Value) (l : List Nat) (x : Nat) (hb : w.cell? ⟨b, 3, none⟩ = some v) (h : w.ownsRow base 3 1 v l.length (nums l)) (hs : l.Pairwise (· < ·)) (hl : l.length ≤ 1000000) :
    Calls Tryz.prog 91 #[.pointer (some ⟨b, 0, none⟩), .int .i64 x] w fun e w' => e = .returned (.int .i64 ((l.filter fun r => decide (r < x)).length : Nat)) ∧ ∃ q, w' = w.drewN q := by
  have H := Lib.hid (bsearch_of w base v l x h hs hl)
  clear h hs
  go_enter Tryz.func91, Tryz.ntmps91
  go_wp2_with (go_at_call 123; refine H.out.mono ?_; rintro e w' ⟨fb, rfl, q, rfl⟩)
  go_ret
  exact ⟨rfl, _, rfl⟩
theorem openOf_succ (f : St) (x m : Nat) : openOf f x (m + 1) = openOf f x m ++ (if x ≤ toOf f m then [m] else []) := by
  unfold openOf
  rw [List.range_succ, List.filter_append]
  by_cases h : x ≤ toOf f m <;> simp [h]
/-- Behind so many events of the moment: what has been gathered. -/
def SRel (w : World) (v1 : Array Value) (x : Nat) (evs : List Ev) (f : St) (B1 i : Nat) (W : World) : Prop :=
  ∃ (s : St) (st : List Nat) (wr : List Int) (F : Nat → Value) (C : Nat → List Int) (rv : Value), St.start.run 0 (evs.take i) = some s ∧ AtM evs i s st wr ∧
    MomMem w W (B1 + 1 + 1) F C rv (openOf f x s.sps.length).length ((openOf f x s.sps.length).length + 2) ∧ W.heap[B1]? = some (.cells v1 132 (0, 0)) ∧ W.heap[B1 + 1]? = some (.cells #[.slice none 0 0, .slice none 0 0, .slice none 0 0] 61 (0, 0)) ∧
    C 0 = (openOf f x s.sps.length).map (addrOf f) ∧ C 1 = wr ∧ wr.length ≤ i ∧ ∀ (j k : Nat), (openOf f x s.sps.length)[j]? = some k → C (j + 2) = seenOf evs f x k
theorem info35 : (Tryz.prog.info? 35).map (fun i => (i.zero, i.size, i.bytes)) = some (some (.slice none 0 0), 1, 24) := by kernel_rfl
theorem under59 : Tryz.prog.underlying 59 = some (.slice 35) := by kernel_rfl
/-- The pointer that lies at a place within. -/
theorem RMem.within_at {w W : World} {ev : Value} {L M : Nat} {wv : Value} {m : List (Int × Nat)} {rf : Nat → Value} {sps : List Sp} {win : List Nat} (h : RMem w W ev L M wv m rf sps win) {i k : Nat} (hk : win[i]? = some k) :
    ∃ (g cap : Nat) (p : Sp) (b : Nat), wv = .slice (some ⟨g, 0, none⟩) win.length cap ∧ win.length ≤ cap ∧ cap ≤ maxLen ∧ W.cell? ⟨g, i, none⟩ = some (.pointer (some ⟨b, 0, none⟩)) ∧ sps[k]? = some p ∧ m[k]? = some (p.addr, b) ∧ W.heap[b]? = some (spanObj m p (rf k)) := by
  have hil := (List.getElem?_eq_some_iff.1 hk).1
  have hkl := h.winlt k (List.mem_of_getElem? hk)
  have hp := List.getElem?_eq_getElem hkl
  obtain ⟨b, hx, _, hb⟩ := h.at hp
  have hpt : ptrOf m (some k) = some ⟨b, 0, none⟩ := by simp [ptrOf, hx]
  rcases h.winr.2 with ⟨_, h2⟩ | ⟨g, cap, cur, hv, _, hg, hc, hcm, _⟩
  · omega
  · refine ⟨g, cap, _, b, hv, hc, hcm, ?_, hp, hx, hb⟩
    have h3 := h.winr.cells (g := g) (by rw [hv]; rfl) i (.pointer (some ⟨b, 0, none⟩)) (by simp [hk, hpt])
    by_cases e : i = 0
    · subst e; simpa [Addr.add] using h3
    · simpa [Addr.add, e] using h3
theorem filter_take {l : List Nat} (x : Nat) (h : l.Pairwise (· < ·)) : l.filter (fun r => decide (r < x)) = l.take (l.filter fun r => decide (r < x)).length := by
  induction l with
  | nil => rfl
  | cons a l ih =>
    rw [List.pairwise_cons] at h
    by_cases ha : a < x
    · simp only [List.filter_cons, ha, decide_true, if_true, List.length_cons, List.take_succ_cons]
      rw [← ih h.2]
    · have : l.filter (fun r => decide (r < x)) = [] := by
        rw [List.filter_eq_nil_iff]
        intro b hb
        have := h.1 b hb
        simp; omega
      simp [ha, this]
theorem row_form {w : World} {base : Nat} {v : Value} {l : List Nat} (h : w.ownsRow base 3 1 v l.length (nums l)) : ∃ p c, v = .slice p l.length c ∧ l.length ≤ c ∧ c ≤ maxLen ∧ ∀ (j x : Nat), l[j]? = some x → ∃ g, p = some ⟨g, 0, none⟩ ∧ w.cell? ⟨g, j, none⟩ = some (.int .i64 x) := by
  rcases h.2 with ⟨h1, h2⟩ | ⟨g, cap, cur, hv, _, hg, hc, hm, _⟩
  · refine ⟨none, 0, by rw [h1, h2], by omega, Nat.zero_le _, fun j x hj => ?_⟩
    have := (List.getElem?_eq_some_iff.1 hj).1
    omega
  · refine ⟨some ⟨g, 0, none⟩, cap, hv, hc, hm, fun j x hj => ⟨g, rfl, ?_⟩⟩
    have h3 := h.cells (g := g) (by rw [hv]; rfl) j (.int .i64 x) (by simp [nums, hj])
    by_cases e : j = 0
    · subst e; simpa [Addr.add] using h3
    · simpa [Addr.add, e] using h3
theorem reads_ok {evs : List Ev} {f : St} (hro : readOf evs = some f) {k : Nat} {p : Sp} (hp : f.sps[k]? = some p) : p.reads.Pairwise (· < ·) ∧ p.reads.length ≤ evs.length := by
  obtain ⟨s, st, wr, h1, h2⟩ := momRun hro evs.length (Nat.le_refl _)
  rw [List.take_length] at h1
  obtain ⟨rfl, _⟩ := momEnd hro h1 h2
  exact ⟨(h2.rds k p hp).1, h2.ok.reads k p hp⟩
theorem row_one {w : World} {base n : Nat} {e : TypeId} {size : Nat} {v : Value} {xs : List Value} (h : w.ownsRow base e size v n xs) : v.oneCell' = true := by
  rcases h.2 with ⟨rfl, _⟩ | ⟨g, cap, cur, rfl, _⟩ <;> rfl
theorem size61 : (Tryz.prog.info? 61).map (·.size) = some 3 := by kernel_rfl
theorem results_mom {fn : Func} {p : Tmp} (h : fn.results = #[.cell p 61]) (tmps : Array Value) (w : World) (g : Nat) (x y z : Value) (hp : tmps.getD p undef = .pointer (some ⟨g, 0, none⟩)) (hg : w.heap[g]? = some (.cells #[x, y, z] 61 (0, 0))) :
    (results fn tmps).run Tryz.prog w = .ok (.agg #[x, y, z]) w :=
  results_cell_row h tmps w g 61 _ _ _ hp hg Tryz.underlying61 rfl size61
section
variable {w W W' : World} {B r m : Nat} {F : Nat → Value} {C : Nat → List Int} {rv : Value}
open Go.Sort in
theorem sort_row (h : MomMem w W B F C rv r m) (hlen : (C 1).length ≤ 1000000) : Calls Tryz.prog 92 #[F 1] W fun e w' => e = .returned (.tuple #[]) ∧ MomMem w w' B F (fun k => if k = 1 then (C 1).mergeSort (fun x y => decide (x ≤ y)) else C k) rv r m ∧ ∀ (b : Nat) (o' : Obj), W.heap[b]? = some o' → Calm o' → w'.heap[b]? = some o' := by
  have hle := h.le
  rcases (h.fam.rows 1 (by omega)).2 with ⟨h1, h2⟩ | ⟨g, cap, cur, hv, hbase, hg, hc, hcm, hcs, htake⟩
  · have hnil : C 1 = [] := List.eq_nil_of_length_eq_zero h2
    rw [h1]
    refine (Tryz.slices_Sort_int_none none 0 W).mono ?_
    rintro e w' ⟨rfl, rfl⟩
    refine ⟨rfl, ?_, fun b o' hb _ => hb⟩
    have : (fun k => if k = 1 then (C 1).mergeSort (fun x y => decide (x ≤ y)) else C k) = C := by
      funext k
      by_cases e : k = 1
      · subst e; simp [hnil]
      · simp [e]
    rw [this]; exact h
  · rw [hv]
    have hH := holds_of_blockI hg (by rw [Nat.mul_one] at htake; exact htake)
    refine (Tryz.slices_Sort_int g 0 cap (C 1) W hH (heap_lt hg) (by omega)).mono ?_
    rintro e w' ⟨rfl, q, os, rfl⟩
    have hlts : ((C 1).mergeSort (fun x y => decide (x ≤ y))).length = (C 1).length := List.length_mergeSort _
    have hown := ownsRow_sortedI (n := q) (os := os) (ts := (C 1).mergeSort (fun x y => decide (x ≤ y))) hlts hbase hg hc hcm hcs
    have hgr := grownBy_sortedI (w := W) (g := g) (n := q) (os := os) ((C 1).mergeSort (fun x y => decide (x ≤ y))).toArray
    generalize Go.Sort.grow (Go.Sort.putRow (Value.int .i64) (Go.Sort.ahead W q) g 0 ((C 1).mergeSort (fun x y => decide (x ≤ y))).toArray) os = w' at hown hgr ⊢
    have hk : Kept (fun b => b = g) W w' := (Kept.refl _ W).grown hgr (fun b hb _ => by injection hb with hb; exact hb.symm)
    have hF1 : (F 1).ownBlock = some g := by rw [hv]; rfl
    have hgB := h.neF (by omega) hF1
    refine ⟨rfl, ⟨Kept.trans h.kept hk (fun b hb e => by omega), h.nB, hk.at h.blk (fun e => hgB.1 e.symm), ⟨fun k hkm => ?_, h.fam.apart⟩, h.le, ?_⟩, fun b o' hb hc => hk.at hb fun e => by subst e; rw [hg] at hb; injection hb with hb; exact (hc cur).1 hb.symm⟩
    · by_cases e : k = 1
      · subst e
        simp only [if_true]
        rw [hv, hlts]; exact hown
      · simp only [e, if_false]
        refine row_same (h.fam.rows k hkm) fun g' hg' => hk.block g' ((h.fam.rows k hkm).lt g' hg').2 fun e2 => ?_
        subst e2
        exact h.fam.apart 1 k g' (by omega) hkm (fun x => e x.symm) hF1 hg'
    · refine row_same h.outer fun g' hg' => hk.block g' (h.outer.lt g' hg').2 fun e2 => ?_
      subst e2
      exact hgB.2 hg'
end
/-- Within a modifiable that is open: so many of its reads have been gathered. -/
def IRel (w : World) (v1 : Array Value) (evs : List Ev) (B1 r : Nat) (rv : Value) (c0 c1 : List Int) (cj : Nat → List Int) (l : List Nat) (j : Nat) (v : Value) (W : World) : Prop :=
  ∃ (F : Nat → Value) (C : Nat → List Int), MomMem w W (B1 + 1 + 1) F C rv r (r + 3) ∧ F (r + 2) = v ∧ C (r + 2) = (l.take j).map (addrAt evs) ∧ C 0 = c0 ∧ C 1 = c1 ∧ (∀ i, i < r → C (i + 2) = cj i) ∧
    W.heap[B1]? = some (.cells v1 132 (0, 0)) ∧ W.heap[B1 + 1]? = some (.cells #[.slice none 0 0, .slice none 0 0, .slice none 0 0] 61 (0, 0))
set_option maxHeartbeats 8000000 in
set_option maxRecDepth 100000 in
theorem state_of (w0 w : World) (a : Option Addr) (n c L M : Nat) (wv : Value) (mm : List (Int × Nat)) (rf : Nat → Value) (evs : List Ev) (f : St) (h : EvIn w a n evs) (hro : readOf evs = some f)
    (hm : RMem w0 w (.slice a n c) L M wv mm rf f.sps f.within) (x : Nat) (hx : x ≤ n) (hnc : n ≤ c) (hcm : c ≤ 9223372036854775807) :
    Calls Tryz.prog 63 #[.agg #[.slice a n c, .map (some M), wv, .int .i64 x]] w fun e w' => ∃ (v : Value) (s : St) (st : List Nat) (wr : List Int), e = .returned v ∧ St.start.run 0 (evs.take x) = some s ∧ AtM evs x s st wr ∧
      (∀ W', Kept (fun b => b < w.heap.size) w' W' → MomAt W' v ⟨(openOf f x s.sps.length).map (addrOf f), wr.mergeSort (fun x y => decide (x ≤ y)), (openOf f x s.sps.length).map (seenOf evs f x)⟩) ∧ Keeps w w' := by
  have HI := Lib.hid h
  have HM := Lib.hid hm
  have HO := Lib.hid hro
  have hfew := h.few
  clear h hm hro
  go_enter Tryz.func63, Tryz.ntmps63
  have k0 : (x : Int) ≤ c := by omega
  go_wp2_with fail
  go_step3
  go_wp2_with fail
  go_step3
  go_wp2_with fail
  obtain ⟨i3, hi3, hz3, hs3, hb3⟩ := info_parts info3
  obtain ⟨i35, hi35, hz35, hs35, hb35⟩ := info_parts info35
  obtain ⟨B1, hB1⟩ : ∃ b, b = w.heap.size := ⟨_, rfl⟩
  rw [← hB1]
  have HB1 := Lib.hid hB1
  obtain ⟨v1, hv1⟩ : ∃ v : Array Value, v = #[.slice a n c, .map (some M), wv, .int .i64 x] := ⟨_, rfl⟩
  have HV1 := Lib.hid hv1
  clear hv1 k0 hB1
  go_loopw [17] (fun q W => ∃ i : Nat, i ≤ x ∧ q = .int .i64 i ∧ SRel w v1 x evs f B1 i W) (fun q _ => x - (intOf q).toNat)
  case atStart =>
    have s1 : (w.alloc (.cells v1 132)).heap.size = B1 + 1 := by rw [World.size_alloc, HB1.out]
    have s2 : ((w.alloc (.cells v1 132)).alloc (.cells #[.slice none 0 0, .slice none 0 0, .slice none 0 0] 61)).heap.size = B1 + 1 + 1 := by rw [World.size_alloc, s1]
    rw [← HV1.out]
    refine ⟨0, Nat.zero_le _, rfl, St.start, [], [], fun _ => .slice none 0 0, fun _ => [], .slice none 0 0, rfl, .start evs, ⟨(((Kept.refl _ w).alloc _).alloc _).alloc _, by rw [HB1.out]; omega, ?_, ⟨fun k _ => World.ownsRow_nil _ _ _ _, fun j k b _ _ _ hb => by simp [Value.ownBlock] at hb⟩, Nat.le_refl _, World.ownsRow_nil _ _ _ _⟩, ?_, ?_, rfl, rfl, Nat.zero_le _, fun j k hj => by simp [St.start, openOf] at hj⟩
    · rw [← s2]; exact heap_alloc_at _ _
    · rw [HB1.out]; exact heap_alloc_old _ (heap_alloc_old _ (heap_alloc_at _ _))
    · rw [← s1]; exact heap_alloc_old _ (heap_alloc_at _ _)
  case round =>
    obtain ⟨i, hi, rfl, hrel⟩ := hrel
    obtain ⟨s1, st1, wr1, F, C, rv, hr1, ha1, hmm, hx1, hx2, hC0, hC1, hwrl, hC2⟩ := hrel
    have HR1 := Lib.hid hr1
    have HA1 := Lib.hid ha1
    have HMM := Lib.hid hmm
    have HX1 := Lib.hid hx1
    have HX2 := Lib.hid hx2
    have HC0 := Lib.hid hC0
    have HC1 := Lib.hid hC1
    have HC2 := Lib.hid hC2
    rw [HV1.out] at hx1
    have b2 := cell_of_block hx1 2
    have b3 := cell_of_block hx1 3
    have o0 := cell_of_block hmm.blk 0
    have o1 := cell_of_block hmm.blk 1
    have o2 := cell_of_block hmm.blk 2
    have f0 := free_of_block hmm.blk 0
    have f1 := free_of_block hmm.blk 1
    have f2 := free_of_block hmm.blk 2
    simp at b2 b3 o0 o1 o2
    clear hr1 ha1 hmm hx1 hx2 hC0 hC1 hC2
    by_cases hin : i < x
    · obtain ⟨e, he⟩ : ∃ e, evs[i]? = some e := ⟨evs[i]'(by rw [← HI.out.len]; omega), List.getElem?_eq_getElem _⟩
      obtain ⟨k, hk⟩ : ∃ k, f.within[i]? = some k := ⟨f.within[i]'(by rw [(read_span HO.out 0).2.win, ← HI.out.len]; omega), List.getElem?_eq_getElem _⟩
      obtain ⟨gw, capw, p, b, hwv, hwc, hwm, hwi, hp, hxk, hb⟩ := HM.out.within_at hk
      subst hwv
      obtain ⟨eb, eo, rfl, hlt, c0, c1, c2, c3, c4, c5, c6, c7⟩ := (HI.out.ev.keeps HMM.out.kept).cells he
      have hwl : f.within.length = n := by rw [(read_span HO.out 0).2.win, ← HI.out.len]
      have hwi2 := cell_keeps HMM.out.kept hwi
      have hb2 := HMM.out.kept.at hb (fun x => x)
      have p1 := cell_of_block hb2 1
      have p3 := cell_of_block hb2 3
      simp at p1 p3
      have HE := Lib.hid he
      have HK := Lib.hid hk
      have HP := Lib.hid hp
      have HBk := Lib.hid hb
      rw [hwl] at b2 HV1 ⊢
      have k1 : (i : Int) < x := by omega
      have k2 : (0 : Int) ≤ i := by omega
      have k3 : (i : Int) < n := by omega
      have l1 : B1 < wr.heap.size := heap_lt HX1.out
      have l3 : B1 + 1 + 1 < wr.heap.size := heap_lt HMM.out.blk
      have lg : gw < wr.heap.size := World.block_lt_of_cell? _ _ hwi2
      have lb : b < wr.heap.size := World.block_lt_of_cell? _ _ p1
      clear he hk hwi hb hb2 hxk hp hwl
      have hstep : ∃ s2, s1.step i e = some s2 := by
        cases hs2 : s1.step i e with
        | some s2 => exact ⟨s2, rfl⟩
        | none => have := read_stop HR1.out HE.out hs2; rw [HO.out] at this; cases this
      obtain ⟨s2, hs2⟩ := hstep
      have hA2 := Lib.hid (HA1.out.step HE.out hs2)
      have hR2 := Lib.hid ((St.run_take _ _ _ _ _ HR1.out HE.out).trans hs2)
      rcases step_cases hs2 with ⟨q1, hany, hs2e⟩ | ⟨kk, pp, htop, hpp, q2, hs2e⟩ | ⟨kk, pp, htop, hpp, q3, hpa, hs2e⟩
      · rw [q1] at c0
        have hend := ends_all HO.out (evs.length - (i + 1)) (i + 1) s2 _ _ (by have := HI.out.len; omega) hR2.out hA2.out
        have hkk : k = s1.sps.length := by
          obtain ⟨⟨more, hmore⟩, _⟩ := hend
          have hw1 := HA1.out.ok.win
          have hk2 := HK.out
          rw [hmore, hs2e] at hk2
          simp [hw1] at hk2
          exact hk2.symm
        have hS2 : s2.sps.length = s1.sps.length + 1 := by rw [hs2e]; simp
        have hto : toOf f k = p.to := by unfold toOf; rw [HP.out]
        have had : addrOf f k = p.addr := by unfold addrOf; rw [HP.out]
        have hrd : readsOf f k = p.reads := by unfold readsOf; rw [HP.out]
        have hpa : p.addr = e.addr := by
          obtain ⟨_, _, hall⟩ := hend
          obtain ⟨p', h1, _, h3, _⟩ := hall k ⟨i, 0, s1.top, e.addr, []⟩ (by rw [hs2e, hkk]; simp)
          rw [HP.out] at h1; injection h1 with h1; subst h1; exact h3
        have hsucc := openOf_succ f x s1.sps.length
        rw [← hkk, hto] at hsucc
        have HW2 := Lib.hid (show wrStep e wr1 = wr1 by simp [wrStep, q1])
        have HS2 := Lib.hid hS2
        have HKK := Lib.hid hkk
        clear hs2e hs2 hany hend hS2 hkk hto
        by_cases hxt : x ≤ p.to
        · have hxt2 : (x : Int) ≤ p.to := by omega
          rw [if_pos hxt] at hsucc
          have HSc := Lib.hid hsucc
          have HAd := Lib.hid had
          have HRd := Lib.hid hrd
          have HPa := Lib.hid hpa
          clear hsucc had hrd hpa
          go_wp2_with fail
          go_quiet (fail)
          generalize hW2 : (wr.alloc (.cells #[.int .i64 1, .int .i64 e.site, .int .i64 e.addr, .slice e.args e.argn e.argc, .int .i64 e.vk, .int .i64 e.vn, .string e.vs, .slice e.va e.van e.vac] 98)).drewN nq = W2
          have hk2 : Keeps wr W2 := by rw [← hW2]; exact Kept.drewN (Keeps.alloc _ _) _
          have he2 : W2.heap[wr.heap.size]? = some (.cells #[.int .i64 1, .int .i64 e.site, .int .i64 e.addr, .slice e.args e.argn e.argc, .int .i64 e.vk, .int .i64 e.vn, .string e.vs, .slice e.va e.van e.vac] 98 (0, 0)) := by rw [← hW2]; exact heap_alloc_at _ _
          clear hW2
          have hmm2 := HMM.out.keeps hk2
          have y1 := hk2.at HX1.out (fun x => x)
          have y2 := hk2.at HX2.out (fun x => x)
          generalize wr.heap.size = E at *
          have z0 := cell_of_block hmm2.blk 0
          have ze := cell_of_block he2 2
          simp at z0 ze
          have hol : (C 0).length ≤ n := by
            rw [HC0.out, List.length_map]
            have h1 : (openOf f x s1.sps.length).length ≤ s1.sps.length := by
              unfold openOf
              exact Nat.le_trans (List.length_filter_le _ _) (by simp)
            have := HA1.out.ok.spsn
            omega
          have HM2 := Lib.hid hmm2
          have HY1 := Lib.hid y1
          have HY2 := Lib.hid y2
          have HE2 := Lib.hid he2
          clear hmm2 y1 y2 he2 hk2 b2 b3 o0 o1 o2 f0 f1 f2 c0 c1 c2 c3 c4 c5 c6 c7 hwi2 p1 p3 l1 l3 lg lb
          go_wp2_with (at_builtin; (refine wpList_append_own_at _ rfl (.tmp 53) (.tmp 56) 35 rfl w.heap.size 3 i3 (.int .i64 0) 1 8 under35 hi3 hz3 hs3 hb3 rfl (by decide) (F 0) (C 0).length (ints (C 0)) rfl ((HM2.out.fam.rows 0 (by omega)).alloc _) ⟨W2.heap.size, 0, none⟩ 1 1 [.int .i64 e.addr] rfl rfl (cell_one_new _ _ _) (by simp [Value.oneCell']) (by unfold maxLen; omega) (by omega) (by have h9 := HM2.out.kept.size; rw [World.size_alloc]; omega) ?_; intro v5 w5 hown5 hgrow5 hnil5 hat5; obtain ⟨g5, cap5, rfl⟩ := row_succ hown5; obtain ⟨hM6, hB6, hcalm⟩ := HM2.out.top (j := 0) (by omega) hgrow5 hown5 hat5; have g1 := cell_of_block hB6 0; have g2 := free_of_block hB6 0; simp at g1; have hy1 := hcalm B1 _ HY1.out (calm_of (by decide) (by decide)) (by omega); have hy2 := hcalm (B1 + 1) _ HY2.out (calm_of (by decide) (by decide)) (by omega); have HM6 := Lib.hid hM6; have HZ1 := Lib.hid hy1; have HZ2 := Lib.hid hy2; clear hM6 hB6 hcalm hy1 hy2 hown5 hgrow5 hnil5 hat5))
          generalize w5.setCell ⟨B1 + 1 + 1, 0, none⟩ (.slice (some ⟨g5, 0, none⟩) ((C 0).length + 1) cap5) = W3 at HM6 HZ1 HZ2 ⊢
          have hK3 := HM6.out.kept
          obtain ⟨hsrt, hrdl⟩ := reads_ok HO.out HP.out
          have hrow : W3.ownsRow w0.heap.size 3 1 (rf k) p.reads.length (nums p.reads) := row_same (HM.out.rows k p HP.out) fun g hg => hK3.block g ((HM.out.rows k p HP.out).lt g hg).2 (fun x => x)
          have hb3 := hK3.at HBk.out (fun x => x)
          have p3 := cell_of_block hb3 3
          simp at p3
          have y3 := HZ1.out
          rw [HV1.out] at y3
          have b0 := cell_of_block y3 0
          have b3 := cell_of_block y3 3
          simp at b0 b3
          have hrl : p.reads.length ≤ 1000000 := by have := HI.out.len; omega
          have HBf := Lib.hid (fun m => before_of (W3.drewN m) w0.heap.size b (rf k) p.reads x p3 (row_same hrow fun _ _ => rfl) hsrt hrl)
          have hft := filter_take x hsrt
          obtain ⟨cnt, hcnt⟩ : ∃ cnt, cnt = (p.reads.filter fun r => decide (r < x)).length := ⟨_, rfl⟩
          have hcl : cnt ≤ p.reads.length := by rw [hcnt]; exact List.length_filter_le _ _
          rw [← hcnt] at HBf hft
          have hcn : cnt ≤ n := by have := HI.out.len; omega
          obtain ⟨pp, cc, hrf, hlc, hcm2, hcells⟩ := row_form (HM.out.rows k p HP.out)
          rw [hrf] at p3
          have HCe := Lib.hid hcells
          have HFt := Lib.hid hft
          have HCn := Lib.hid hcnt
          have k4 : (cnt : Int) ≤ cc := by omega
          have k5 : (0 : Int) ≤ cnt := by omega
          have hcm3 : cc ≤ 9223372036854775807 := hcm2
          clear hrow hb3 y3 hsrt hrdl hcells hft hcnt hrf hK3 hcm2
          go_quiet ((go_at_call 91; refine Calls.quiet_of (HBf.out _)))
          go_wp2_with fail
          obtain ⟨r, hr⟩ : ∃ r, r = (openOf f x s1.sps.length).length := ⟨_, rfl⟩
          have hrn : r ≤ n := by
            have h1 := congrArg List.length HC0.out
            rw [List.length_map] at h1
            omega
          rw [← hr] at HM6
          have HRn := Lib.hid hr
          obtain ⟨l, hl⟩ : ∃ l, l = p.reads.filter fun r => decide (r < x) := ⟨_, rfl⟩
          have HL := Lib.hid hl
          have hirel : IRel w v1 evs B1 r rv (C 0 ++ [e.addr]) (C 1) (fun j => C (j + 2)) l 0 (.slice none 0 0) (W3.drewN nq) := by
            have h1 := (HM6.out.keeps (Keeps.drewN W3 nq)).add
            refine ⟨_, _, h1, ?_, ?_, ?_, ?_, ?_, HZ1.out, HZ2.out⟩
            · simp
            · simp
            · rw [if_neg (by omega), if_pos rfl]
            · rw [if_neg (by omega), if_neg (by omega)]
            · intro j hj
              show (if j + 2 = r + 2 then _ else if j + 2 = 0 then _ else C (j + 2)) = _
              rw [if_neg (by omega), if_neg (by omega)]
          have HIr := Lib.hid hirel
          generalize W3.drewN nq = W4 at HIr ⊢
          clear hirel hr hl p3 b0 b3 g1 g2
          go_loopw [7, 69] (fun v q W => ∃ j : Nat, j ≤ cnt ∧ q = .int .i64 j ∧ IRel w v1 evs B1 r rv (C 0 ++ [e.addr]) (C 1) (fun j => C (j + 2)) l j v W) (fun _ q _ => cnt - (intOf q).toNat)
          case atStart => exact ⟨0, Nat.zero_le _, rfl, HIr.out⟩
          case round =>
            obtain ⟨j, hj, rfl, hir⟩ := hrel
            obtain ⟨F5, C5, hm5, rfl, hc5, hc50, hc51, hc5j, hz1, hz2⟩ := hir
            have HM5 := Lib.hid hm5
            have HC5 := Lib.hid hc5
            have HC50 := Lib.hid hc50
            have HC51 := Lib.hid hc51
            have HC5j := Lib.hid hc5j
            have HU1 := Lib.hid hz1
            have HU2 := Lib.hid hz2
            rw [HV1.out] at hz1
            have b0 := cell_of_block hz1 0
            have o2 := cell_of_block hm5.blk 2
            simp at b0 o2
            have hkw := hm5.kept
            clear hm5 hc5 hc50 hc51 hc5j hz1 hz2
            by_cases hjc : j < cnt
            · have hlj : l[j]? = p.reads[j]? := by
                rw [HL.out, HFt.out, List.getElem?_take_of_lt hjc]
              obtain ⟨rr, hrr⟩ : ∃ rr, p.reads[j]? = some rr := ⟨p.reads[j]'(by omega), List.getElem?_eq_getElem _⟩
              have hrx : rr < x := by
                have h1 : rr ∈ l := List.mem_of_getElem? (hlj.trans hrr)
                rw [HL.out, List.mem_filter] at h1
                simpa using h1.2
              obtain ⟨g, rfl, hgc⟩ := HCe.out j rr hrr
              have hgc2 := cell_keeps hkw hgc
              obtain ⟨e', he'⟩ : ∃ e', evs[rr]? = some e' := ⟨evs[rr]'(by rw [← HI.out.len]; omega), List.getElem?_eq_getElem _⟩
              obtain ⟨eb', eo', heq, _, _, _, a2, _⟩ := (HI.out.ev.keeps hkw).cells he'
              injection heq with heq
              injection heq with heq1 heq2
              subst heq1 heq2
              have had' : addrAt evs rr = e'.addr := by unfold addrAt; rw [he']
              have hnext : (l.take (j + 1)).map (addrAt evs) = (l.take j).map (addrAt evs) ++ [e'.addr] := by
                have h1 := hlj.trans hrr
                obtain ⟨h2, h3⟩ := List.getElem?_eq_some_iff.1 h1
                rw [List.take_succ_eq_append_getElem h2, h3, List.map_append, ← had']; rfl
              have HNx := Lib.hid hnext
              have hlen5 : (C5 (r + 2)).length ≤ n := by
                rw [HC5.out, List.length_map, List.length_take]
                omega
              have k6 : (j : Int) < cnt := by omega
              have k7 : (0 : Int) ≤ j := by omega
              have k8 : (rr : Int) < n := by omega
              have k9 : (0 : Int) ≤ rr := by omega
              clear hlj hrr hgc he' hnext hkw had' hrx
              go_wp2_with (at_builtin; (refine wpList_append_own_at _ rfl (.tmp 73) (.tmp 81) 35 rfl w.heap.size 3 i3 (.int .i64 0) 1 8 under35 hi3 hz3 hs3 hb3 rfl (by decide) (F5 (r + 2)) (C5 (r + 2)).length (ints (C5 (r + 2))) rfl ((HM5.out.fam.rows (r + 2) (by omega)).alloc _) ⟨_, 0, none⟩ 1 1 [.int .i64 e'.addr] rfl rfl (cell_one_new _ _ _) (by simp [Value.oneCell']) (by unfold maxLen; omega) (by omega) (by have h9 := HM5.out.kept.size; rw [World.size_alloc]; omega) ?_; intro v7 w7 hown7 hgrow7 hnil7 hat7; obtain ⟨g7, cap7, rfl⟩ := row_succ hown7; obtain ⟨hM8, hcalm⟩ := HM5.out.beside (j := r + 2) (by omega) (Nat.le_refl _) hgrow7 hown7 hat7; have hy1 := hcalm B1 _ HU1.out (calm_of (by decide) (by decide)); have hy2 := hcalm (B1 + 1) _ HU2.out (calm_of (by decide) (by decide)); have HM8 := Lib.hid hM8; have HQ1 := Lib.hid hy1; have HQ2 := Lib.hid hy2; clear hM8 hcalm hy1 hy2 hown7 hgrow7 hnil7 hat7))
              go_roundw
              case rel =>
                refine ⟨j + 1, by omega, by go_num, _, _, HM8.out, ?_, ?_, ?_, ?_, ?_, HQ1.out, HQ2.out⟩
                · show (if r + 2 = r + 2 then _ else _) = _
                  rw [if_pos rfl]
                · show (if r + 2 = r + 2 then _ else _) = _
                  rw [if_pos rfl, HC5.out, HNx.out]
                · show (if (0 : Nat) = r + 2 then _ else C5 0) = _
                  rw [if_neg (by omega)]; exact HC50.out
                · show (if (1 : Nat) = r + 2 then _ else C5 1) = _
                  rw [if_neg (by omega)]; exact HC51.out
                · intro q hq
                  show (if q + 2 = r + 2 then _ else C5 (q + 2)) = _
                  rw [if_neg (by omega)]; exact HC5j.out q hq
              case measure => simp [intOf] <;> omega
            · obtain rfl : j = cnt := by omega
              obtain ⟨pf, cf, hF5⟩ := row_slice (HM5.out.fam.rows (r + 2) (by omega))
              rw [hF5]
              have HF5 := Lib.hid hF5
              clear hF5
              go_wp2_with (at_builtin; (refine wpList_append_own_at _ rfl (.tmp 85) (.tmp 87) 59 rfl w.heap.size 35 i35 (.slice none 0 0) 1 24 under59 hi35 hz35 hs35 hb35 rfl (by decide) rv r ((List.range r).map fun j => F5 (j + 2)) rfl (HM5.out.outer.alloc _) ⟨_, 0, none⟩ 1 1 [.slice pf (C5 (r + 2)).length cf] rfl rfl (cell_one_new _ _ _) (by simp [Value.oneCell']) (by unfold maxLen; omega) (by omega) (by have h9 := HM5.out.kept.size; rw [World.size_alloc]; omega) ?_; intro v7 w7 hown7 hgrow7 hnil7 hat7; obtain ⟨g7, cap7, rfl⟩ := row_succ hown7; obtain ⟨hM8, hB8, hcalm⟩ := HM5.out.push (Nat.le_refl _) hgrow7 (by rw [HF5.out]; exact hown7); have q1 := cell_of_block hB8 2; have q2 := free_of_block hB8 2; simp at q1; have hy1 := hcalm B1 _ HU1.out (calm_of (by decide) (by decide)) (by omega); have hy2 := hcalm (B1 + 1) _ HU2.out (calm_of (by decide) (by decide)) (by omega); have HM8 := Lib.hid hM8; have HQ1 := Lib.hid hy1; have HQ2 := Lib.hid hy2; clear hM8 hB8 hcalm hy1 hy2 hown7 hgrow7 hnil7 hat7))
              go_roundw
              case rel =>
                have e1 : openOf f x s2.sps.length = openOf f x s1.sps.length ++ [k] := by rw [HS2.out, ← HKK.out]; exact HSc.out
                have e2 : (openOf f x s2.sps.length).length = r + 1 := by rw [e1, List.length_append, ← HRn.out]; rfl
                refine ⟨i + 1, by omega, by go_num, s2, _, _, F5, C5, .slice (some ⟨g7, 0, none⟩) (r + 1) cap7, hR2.out, hA2.out, ?_, HQ1.out, HQ2.out, ?_, ?_, ?_, ?_⟩
                · rw [e2]; exact HM8.out
                · rw [e1, List.map_append, HC50.out, HC0.out, ← HPa.out, ← HAd.out]; rfl
                · rw [HW2.out, HC51.out]; exact HC1.out
                · rw [HW2.out]; omega
                · intro q kq hq
                  rw [e1] at hq
                  by_cases hqr : q < r
                  · rw [List.getElem?_append_left (by rw [← HRn.out]; exact hqr)] at hq
                    rw [HC5j.out q hqr]
                    exact HC2.out q kq hq
                  · have hql := (List.getElem?_eq_some_iff.1 hq).1
                    rw [List.length_append, ← HRn.out] at hql
                    have : q = r := by simp at hql; omega
                    subst this
                    rw [List.getElem?_append_right (by rw [← HRn.out]; exact Nat.le_refl _), ← HRn.out] at hq
                    simp at hq
                    subst hq
                    rw [HC5.out]
                    unfold seenOf
                    rw [HRd.out, ← HL.out, List.take_of_length_le (by rw [HL.out, ← HCn.out]; exact Nat.le_refl _)]
              case measure => simp [intOf] <;> omega
        · have hxt2 : ¬ (x : Int) ≤ p.to := by omega
          have hxt3 : decide ((x : Int) ≤ p.to) = false := decide_eq_false hxt2
          rw [if_neg hxt, List.append_nil] at hsucc
          have HSc := Lib.hid hsucc
          clear hsucc had hrd hpa
          go_wp2_with fail
          go_quiet (fail)
          go_wp2
          go_roundw
          case rel =>
            have e1 : openOf f x s2.sps.length = openOf f x s1.sps.length := by rw [HS2.out, ← HKK.out]; exact HSc.out
            refine ⟨i + 1, by omega, by go_num, s2, _, _, F, C, rv, hR2.out, hA2.out, ?_, heap_alloc_old _ HX1.out, heap_alloc_old _ HX2.out, ?_, ?_, ?_, ?_⟩
            · rw [e1]; exact HMM.out.keeps (Kept.drewN (Keeps.alloc _ _) _)
            · rw [e1]; exact HC0.out
            · rw [HW2.out]; exact HC1.out
            · rw [HW2.out]; omega
            · rw [e1]; exact HC2.out
          case measure => simp [intOf] <;> omega
      · rw [q2] at c0
        have HS2 := Lib.hid (show s2.sps.length = s1.sps.length by rw [hs2e]; simp)
        have HW2 := Lib.hid (show wrStep e wr1 = wr1 by simp [wrStep, q2])
        clear hs2e htop hpp hs2
        go_wp2_with fail
        go_quiet (fail)
        go_wp2
        go_roundw
        case rel =>
          refine ⟨i + 1, by omega, by go_num, s2, _, _, F, C, rv, hR2.out, hA2.out, ?_, ?_, ?_, ?_, ?_, ?_, ?_⟩
          · rw [HS2.out]; exact HMM.out.keeps (Kept.drewN (Keeps.alloc _ _) _)
          · exact heap_alloc_old _ HX1.out
          · exact heap_alloc_old _ HX2.out
          · rw [HS2.out]; exact HC0.out
          · rw [HW2.out]; exact HC1.out
          · rw [HW2.out]; omega
          · rw [HS2.out]; exact HC2.out
        case measure => simp [intOf] <;> omega
      · rw [q3] at c0
        have HS2 := Lib.hid (show s2.sps.length = s1.sps.length by rw [hs2e]; simp)
        have HW2 := Lib.hid (show wrStep e wr1 = wr1 ++ [e.addr] by simp [wrStep, q3])
        have hcl : (C 1).length ≤ i := by rw [HC1.out]; exact hwrl
        have HMa := Lib.hid (fun (o : Obj) => HMM.out.keeps (Keeps.alloc wr o))
        clear hs2e htop hpp hs2
        go_wp2_with (at_builtin; (refine wpList_append_own_at _ rfl (.tmp 33) (.tmp 36) 35 rfl w.heap.size 3 i3 (.int .i64 0) 1 8 under35 hi3 hz3 hs3 hb3 rfl (by decide) (F 1) (C 1).length (ints (C 1)) rfl (((HMM.out.fam.rows 1 (by omega)).alloc _).alloc _) ⟨_, 0, none⟩ 1 1 [.int .i64 e.addr] rfl rfl (by intro j u hj; have h9 := cell_one_new (wr.alloc (.cells #[.int .i64 3, .int .i64 e.site, .int .i64 e.addr, .slice e.args e.argn e.argc, .int .i64 e.vk, .int .i64 e.vn, .string e.vs, .slice e.va e.van e.vac] 98)) (.int .i64 e.addr) 3 j u hj; rw [World.size_alloc] at h9; exact h9) (by simp [Value.oneCell']) (by unfold maxLen; omega) (by omega) (by have h9 := HMM.out.kept.size; rw [World.size_alloc, World.size_alloc]; omega) ?_; intro v5 w5 hown5 hgrow5 hnil5 hat5; obtain ⟨g5, cap5, rfl⟩ := row_succ hown5; obtain ⟨hM6, hB6, hcalm⟩ := (HMa.out _).top (j := 1) (by omega) hgrow5 hown5 hat5; have g1 := cell_of_block hB6 1; have g2 := free_of_block hB6 1; simp at g1; have hy1 := hcalm B1 _ (heap_alloc_old _ HX1.out) (calm_of (by decide) (by decide)) (by omega); have hy2 := hcalm (B1 + 1) _ (heap_alloc_old _ HX2.out) (calm_of (by decide) (by decide)) (by omega); have HM6 := Lib.hid hM6; have HY1 := Lib.hid hy1; have HY2 := Lib.hid hy2; clear hM6 hB6 hcalm hy1 hy2 hown5 hgrow5 hnil5 hat5))
        go_roundw
        case rel =>
          refine ⟨i + 1, by omega, by go_num, s2, _, _, (fun k => if k = 1 then .slice (some ⟨g5, 0, none⟩) ((C 1).length + 1) cap5 else F k), (fun k => if k = 1 then C 1 ++ [e.addr] else C k), rv, hR2.out, hA2.out, ?_, HY1.out, HY2.out, ?_, ?_, ?_, ?_⟩
          · rw [HS2.out]; exact HM6.out
          · rw [HS2.out]; simp only [show ¬ (0 : Nat) = 1 by decide, if_false]; exact HC0.out
          · rw [HW2.out]; simp only [if_true, HC1.out]
          · rw [HW2.out]; simp; omega
          · rw [HS2.out]; intro j k hj; show (if j + 2 = 1 then _ else C (j + 2)) = _; rw [if_neg (by omega)]; exact HC2.out j k hj
        case measure => simp [intOf] <;> omega
    · have hix : i = x := by omega
      have hneg : ¬ (i : Int) < x := by omega
      have hc1 : (C 1).length ≤ 1000000 := by rw [HC1.out]; have := hfew; omega
      have HSo := Lib.hid (sort_row HMM.out hc1)
      obtain ⟨pf, cf, hF1⟩ := row_slice (HMM.out.fam.rows 1 (by omega))
      obtain ⟨p0, k0, hF0⟩ := row_slice (HMM.out.fam.rows 0 (by omega))
      obtain ⟨pr, kr, hFr⟩ := row_slice HMM.out.outer
      have HF1 := Lib.hid hF1
      have HF0 := Lib.hid hF0
      have HFr := Lib.hid hFr
      rw [HF1.out] at HSo o1
      rw [HF0.out] at o0
      rw [HFr.out] at o2
      clear hF1 hF0 hFr
      clear o0 o2 f0 f1 f2 b2 b3
      go_wp2_with (go_at_call 92; refine HSo.out.mono ?_; rintro e w2 ⟨rfl, hM5, hcalm⟩; have hm5 := hM5.blk; rw [HF0.out, HF1.out, HFr.out] at hm5; have g0 := cell_of_block hm5 0; have g1 := cell_of_block hm5 1; have g2 := cell_of_block hm5 2; have hw2 := hcalm (B1 + 1) _ HX2.out (calm_of (by decide) (by decide)); have e0 := cell_of_block hw2 0; have e1 := cell_of_block hw2 1; have e2 := cell_of_block hw2 2; have q0 := free_of_block hw2 0; have q1 := free_of_block hw2 1; have q2 := free_of_block hw2 2; simp at g0 g1 g2 e0 e1 e2; have HW2 := Lib.hid hw2; have HM5 := Lib.hid hM5; clear hM5 hm5 hcalm hw2)
      go_wp2_with fail
      try rw [Exit.noGoto_ret]
      refine bodyPost_ret (results_mom rfl _ _ (B1 + 1) (.slice p0 (C 0).length k0) (.slice pf (C 1).length cf) (.slice pr (openOf f x s1.sps.length).length kr) rfl ?_) rfl ?_
      · rw [heap_set_same (heap_set_same (heap_set_same HW2.out _) _) _]; rfl
      · have hfin := HM5.out.aside HW2.out (by decide) (by decide) (by omega) (by rw [HB1.out]; omega) (Kept.one1 (Kept.one1 ((Kept.refl (fun b => b = B1 + 1) w2).one1 0 (.slice p0 (C 0).length k0)) 1 (.slice pf (C 1).length cf)) 2 (.slice pr (openOf f x s1.sps.length).length kr))
        have hmo : (⟨C 0, (C 1).mergeSort fun x y => decide (x ≤ y), (List.range (openOf f x s1.sps.length).length).map fun j => C (j + 2)⟩ : Mom) = ⟨(openOf f x s1.sps.length).map (addrOf f), wr1.mergeSort fun x y => decide (x ≤ y), (openOf f x s1.sps.length).map (seenOf evs f x)⟩ := by rw [HC0.out, HC1.out, lists_of HC2.out]
        rw [hix] at HR1 HA1
        refine ⟨_, s1, st1, wr1, rfl, HR1.out, HA1.out, fun W' hk => ?_, hfin.kept⟩
        have hd := hfin.stays hk
        simp only [if_true, show ¬ (0 : Nat) = 1 by decide, if_false, show ∀ j : Nat, (j + 2 = 1) ↔ False from fun j => ⟨fun h => by omega, False.elim⟩] at hd
        rw [HF0.out, HF1.out, HFr.out, hmo] at hd
        exact hd
end Go.Proofs.YtbhiaeciiphelaaGreatDoor
