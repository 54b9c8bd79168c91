/-
  DERIVED. One address is seen through: the walk. Condition: the list lies in memory as read leaves it.
-/
import Derived.Test.YtbhiaeciiphelaaGreatDoorDepP
namespace Go.Proofs.YtbhiaeciiphelaaGreatDoor
open Go.RowKit Go.Shelf
attribute [local go_sem] Oper.semAt_some
set_option maxHeartbeats 8000000 in
set_option maxRecDepth 100000 in
theorem spread1_of (w0 wR w : World) (a : Option Addr) (n c L M : Nat) (wv : Value) (m : List (Int × Nat)) (rf : Nat → Value) (evs : List Ev) (f : St) (h : EvIn wR a n evs) (hro : readOf evs = some f)
    (hm : RMem w0 wR (.slice a n c) L M wv m rf f.sps f.within) (B : SB) (fr : List Int) (x : Int) (d : Int × Nat) (met : List (Int × Int)) (next : List Int) (sm : List (Nat × Int)) (lev : Int → Nat) (hS : Seen evs f fr x wR w B L m d (some x) none met next sm lev) (hfr : fr.length ≤ 60000) :
    Calls Tryz.prog 97 #[.int .i64 x, .pointer (some ⟨B.l, 0, none⟩), .pointer (some ⟨B.s, 0, none⟩), .pointer (some ⟨B.m, 0, none⟩), .pointer (some ⟨B.n, 0, none⟩)] w fun e w' =>
      e = .returned (.tuple #[]) ∧ ∃ met next sm lev, Seen evs f fr x wR w' B L m d none none met next sm lev := by
  have HI := Lib.hid h
  have HM := Lib.hid hm
  have HO := Lib.hid hro
  have HS := Lib.hid hS
  have hfew := h.few
  have hlL := heap_lt hm.hL
  have hlk : ∀ W : World, Keeps wR W → (Instr.lookup 127 (.map (some M)) (.int .i64 x) false).run Tryz.prog W = .ok (.pointer (lookP m x)) W := fun W hW => (hm.keeps hW).map.look (by rw [hm.addrs]; exact read_nd hro) x
  have HLk := Lib.hid hlk
  have hbl := cell_of_block hS.mem.hl 0
  have hbL := cell_of_block (hS.mem.kept.at hm.hL (fun x => x)) 1
  simp at hbl hbL
  have hlB := heap_lt hS.mem.hl
  have hlL2 : L < w.heap.size := Nat.lt_of_lt_of_le hlL hS.mem.kept.size
  have HKw := Lib.hid hS.mem.kept
  cases hix : idxOf f x with
  | none =>
    have hlo : lookP m x = none := look_none hm.addrs (idx_none hix)
    have hsq : sq evs f x = [] := by unfold sq; rw [hix]
    have hl0 := hlk w hS.mem.kept
    rw [hlo] at HLk hl0
    have HSq := Lib.hid hsq
    clear h hro hm hS hix hlk hlo hsq
    go_enter Tryz.func97, Tryz.ntmps97
    go_wp2_with fail
    go_region_held3 (fun W' => W'.cell? ⟨B.l, 0, none⟩ = some (.pointer (some ⟨L, 0, none⟩)) ∧ W'.cell? ⟨L, 1, none⟩ = some (.map (some M)) ∧ W'.cell? ⟨w.heap.size, 0, none⟩ = some (.int .i64 x) ∧ (Instr.lookup 127 (.map (some M)) (.int .i64 x) false).run Tryz.prog W' = .ok (.pointer none) W')
      (refine ⟨?_, ?_, ?_, ?_⟩ <;> first | (go_keep; done) | (refine HLk.out _ ?_; repeat (first | exact HKw.out | refine Kept.drew ?_ | refine Kept.alloc ?_ _ | refine Kept.setCell ?_ ?_ _))) (first | fail)
    all_goals go_wp2
    all_goals try simp only [Exit.inBlock, Exit.then]
    all_goals refine bodyPost_ret (results_none rfl _ _ _) rfl ?_
    all_goals refine ⟨rfl, met, next, sm, lev, ?_⟩
    all_goals
      refine HS.out.close ?_ (by rw [HSq.out]; simp)
      exact ((HS.out.mem.alloc _).alloc _).drew
  | some k0 =>
    obtain ⟨p0, hp0, hpx⟩ := idx_some hix
    obtain ⟨b0, hb0, _, hspan0⟩ := hm.at hp0
    rw [hpx] at hb0
    have hlo : lookP m x = some ⟨b0, 0, none⟩ := by
      obtain ⟨k', p', b', hp', hpa', hx', hlo'⟩ := look_some hm.addrs (show f.sps.any (fun p => p.addr == x) = true from List.any_eq_true.2 ⟨p0, List.mem_of_getElem? hp0, by simp [hpx]⟩)
      have e1 : (m.map (·.1))[k']? = some x := by rw [List.getElem?_map, hx']; rfl
      have e2 : (m.map (·.1))[k0]? = some x := by rw [List.getElem?_map, hb0]; rfl
      have hnd : (m.map (·.1)).Nodup := by rw [hm.addrs]; exact read_nd hro
      obtain rfl := (List.getElem?_inj (List.getElem?_eq_some_iff.1 e1).1 hnd).1 (e1.trans e2.symm)
      rw [hb0] at hx'
      injection hx' with hx'
      injection hx' with _ e3
      rw [hlo', e3]
    have hl0 := hlk w hS.mem.kept
    rw [hlo] at HLk hl0
    have hn0 := h.len
    obtain ⟨s0, st0, wr0, hr0, ha0⟩ := momRun hro evs.length (Nat.le_refl _)
    rw [List.take_length] at hr0
    obtain ⟨rfl, _⟩ := momEnd hro hr0 ha0
    have HRd := Lib.hid (show ∀ (k : Nat) (p : Sp), s0.sps[k]? = some p → p.reads.length ≤ 60000 from fun k p hp => by have h8 := ha0.ok.reads k p hp; omega)
    have hk0l := (List.getElem?_eq_some_iff.1 hp0).1
    obtain ⟨wl, hw⟩ := Ways.ex ha0.ok.outer k0 evs.length hk0l
    have HA0 := Lib.hid ha0
    have HW := Lib.hid hw
    have HIx := Lib.hid hix
    have HB0 := Lib.hid hb0
    have HSp0 := Lib.hid hspan0
    have HP0 := Lib.hid hp0
    have hwp0 : wayPtr m wl 0 = .pointer (some ⟨b0, 0, none⟩) := by
      obtain ⟨p0, _, hx0⟩ := hw.head
      simp [wayPtr, hx0, ptrOf, hb0]
    have HWp0 := Lib.hid hwp0
    have hml := hm.len
    have hwpos : 0 < wl.length := by
      obtain ⟨_, _, hx0⟩ := hw.head
      exact (List.getElem?_eq_some_iff.1 hx0).1
    clear h hro hm hS hix hlk hlo hr0 ha0 hw hb0 hspan0 hp0 hwp0
    refine (callsIn_wide (n := 0)).1 ?_
    refine callsIn_of_wp_marks Tryz.func97 rfl trivial ?_ rfl
    simp only [Tryz.ntmps97, List.size_toArray, List.length_cons, List.length_nil, Nat.reduceAdd, Nat.reduceSub, Array.replicate_succ, Array.replicate_zero, List.push_toArray, List.append_toArray, List.nil_append, List.cons_append]
    refine wpIn_wide.2 ?_
    go_wp2_with fail
    refine Code.wp_mono (Q := fun e a' w' => e = .normal ∧ a' = { tmps := #[.int .i64 x, .pointer (some ⟨B.l, 0, none⟩), .pointer (some ⟨B.s, 0, none⟩), .pointer (some ⟨B.m, 0, none⟩), .pointer (some ⟨B.n, 0, none⟩), .pointer (some ⟨w.heap.size, 0, none⟩), .pointer (some ⟨w.heap.size + 1, 0, none⟩), undef, undef, undef, undef, undef, undef, undef, .pointer (some ⟨L, 0, none⟩), .pointer (some ⟨L, 0, none⟩), .pointer (some ⟨L, 1, none⟩), .map (some M), .int .i64 x, .pointer (some ⟨b0, 0, none⟩), undef, undef, undef, undef, undef, undef, undef, undef, undef, undef, undef, undef, undef, undef, undef, undef, undef, undef, undef, undef, undef, undef, undef, undef, undef, undef, undef, undef, undef, undef, undef, undef, undef, undef, undef, undef, undef, undef, undef, undef, undef, undef, undef, undef, undef, undef, undef, undef, undef, undef, undef, undef, undef, undef, undef, undef, undef, undef, undef, undef, undef, undef, undef, undef, undef, undef], defers := [] } ∧ w' = ((w.alloc (.cells #[.int .i64 x] 3)).alloc (.cells #[.pointer (some ⟨b0, 0, none⟩)] 99)).drew) ?_ ?_
    rotate_left
    · go_region_held3 (fun W' => W'.cell? ⟨B.l, 0, none⟩ = some (.pointer (some ⟨L, 0, none⟩)) ∧ W'.cell? ⟨L, 1, none⟩ = some (.map (some M)) ∧ W'.cell? ⟨w.heap.size, 0, none⟩ = some (.int .i64 x) ∧ (Instr.lookup 127 (.map (some M)) (.int .i64 x) false).run Tryz.prog W' = .ok (.pointer (some ⟨b0, 0, none⟩)) W')
        (refine ⟨?_, ?_, ?_, ?_⟩ <;> first | (go_keep; done) | (refine HLk.out _ ?_; repeat (first | exact HKw.out | refine Kept.drew ?_ | refine Kept.alloc ?_ _ | refine Kept.setCell ?_ ?_ _))) (first | fail)
      all_goals exact ⟨rfl, rfl, rfl⟩
    rintro _ _ _ ⟨rfl, rfl, rfl⟩
    go_wp2_with (go_at_call 95; refine (ways_of _ _).mono ?_; rintro _ w1 ⟨rfl, hw1⟩)
    clear hw1
    obtain ⟨W0, hW0⟩ : ∃ W0, W0 = (((w.alloc (.cells #[.int .i64 x] 3)).alloc (.cells #[.pointer (some ⟨b0, 0, none⟩)] 99)).alloc (.cells #[.pointer (some ⟨b0, 0, none⟩)] 99)).drew := ⟨_, rfl⟩
    have hwsz := HKw.out.size
    have hu0 : UJ evs s0 fr x wR B L m d wl (w.heap.size + 1 + 1) w.heap.size (w.heap.size + 1) b0 k0 (wayPtr m wl 0) 0 W0 := by
      rw [hW0, HWp0.out]
      have e1 : (w.alloc (.cells #[.int .i64 x] 3)).heap.size = w.heap.size + 1 := World.size_alloc _ _
      have e2 : ((w.alloc (.cells #[.int .i64 x] 3)).alloc (.cells #[.pointer (some ⟨b0, 0, none⟩)] 99)).heap.size = w.heap.size + 1 + 1 := by rw [World.size_alloc, e1]
      refine ⟨met, next, sm, lev, HS.out.mems (((HS.out.mem.alloc _).alloc _).alloc _).drew, ?_, heap_alloc_old _ (heap_alloc_old _ (heap_alloc_at _ _)), heap_alloc_old _ ?_, ?_, fun c h => absurd h (Nat.lt_irrefl 0)⟩
      · rw [← e2]; exact heap_alloc_at _ _
      · rw [← e1]; exact heap_alloc_at _ _
      · obtain ⟨v, hv1, hv2⟩ := HS.out.mem.row
        refine ⟨v, heap_alloc_old _ (heap_alloc_old _ (heap_alloc_old _ hv1)), fun e => ?_⟩
        obtain ⟨_, cur, hcur⟩ := hv2.block e
        exact Nat.lt_irrefl _ (heap_lt hcur)
    have hsz0 : w.heap.size ≤ W0.heap.size := by rw [hW0]; simp; omega
    have hms := HS.out.mem.mapS.lt
    have hmm := HS.out.mem.mapM.lt
    rw [← hW0]
    have HU0 := Lib.hid hu0
    clear hW0 hu0
    refine (wpIn_wide (n := 0)).1 ?_
    refine wpIn_rangeL (gf := 126) (lb := #[.pointer (some ⟨w.heap.size + 1 + 1, 0, none⟩)]) (by simp [go_sem]) (enters_of Tryz.func126 (by kernel_rfl) rfl) wl.length (fun i => #[wayPtr m wl i, warg wl i])
      (fun s i W => UJ evs s0 fr x wR B L m d wl (w.heap.size + 1 + 1) w.heap.size (w.heap.size + 1) b0 k0 s i W) (fun b => b = B.ms ∨ b = B.mm) (fun W => ∃ met next sm lev, Seen evs s0 fr x wR W B L m d none none met next sm lev) (w.heap.size + 1 + 1) (wayPtr m wl 0) (fun _ => rfl) (fun s i W o h => h.alloc o) (fun s i W h => h.drew) (fun s i W v h => h.box (by omega) (by omega) v)
      (fun s i W h => by obtain ⟨_, _, _, _, _, h2, _⟩ := h; exact ⟨_, _, _, h2⟩)
      (fun s i W b o o' h hb ho hc => h.putObj o' (by omega) (by omega) (by omega) ho hc) (fun W b o o' h hb ho hc => by obtain ⟨met, next, sm, lev, h1⟩ := h; exact ⟨met, next, sm, lev, h1.mems (h1.mem.putObj o' (by omega) (by omega) (by omega) ho hc)⟩) HU0.out ?_
      (fun i => { tmps := #[.int .i64 x, .pointer (some ⟨B.l, 0, none⟩), .pointer (some ⟨B.s, 0, none⟩), .pointer (some ⟨B.m, 0, none⟩), .pointer (some ⟨B.n, 0, none⟩), .pointer (some ⟨w.heap.size, 0, none⟩), .pointer (some ⟨w.heap.size + 1, 0, none⟩), wayPtr m wl i, warg wl i, undef, undef, undef, undef, undef, .pointer (some ⟨L, 0, none⟩), .pointer (some ⟨L, 0, none⟩), .pointer (some ⟨L, 1, none⟩), .map (some M), .int .i64 x, .pointer (some ⟨b0, 0, none⟩), .pointer (some ⟨b0, 0, none⟩), .bool false, .pointer (some ⟨b0, 0, none⟩), .func (.func 126) #[] #[.pointer (some ⟨w.heap.size + 2, 0, none⟩)], wayPtr m wl i, warg wl i, undef, undef, undef, undef, undef, undef, undef, undef, undef, undef, undef, undef, undef, undef, undef, undef, undef, undef, undef, undef, undef, undef, undef, undef, undef, undef, undef, undef, undef, undef, undef, undef, undef, undef, undef, undef, undef, undef, undef, undef, undef, undef, undef, undef, undef, undef, undef, undef, undef, undef, undef, undef, undef, undef, undef, undef, undef, undef, undef, undef], defers := [] }) ?assign ?body ?done ?left
    case assign =>
      intro l' i W' K hK
      gi_wp2
      exact hK
    case done =>
      rintro s D W' hD hu hK
      obtain ⟨met, next, sm, lev, h1, h2, h3, h4, h6, h5⟩ := hu
      have hd := h1.done HO.out HIx.out HW.out hwpos (fun c hc => h5 c hwpos hc) (.inl ⟨by simp, rfl⟩) h1.mem
      refine ⟨by simp, .inl ⟨_, _, rfl, run_takeDeferred hK, ?_⟩⟩
      exact ⟨_, results_none rfl _ _ _, rfl, met, next, sm, lev, hd.mems (hd.mem.putObj _ (by omega) (by omega) (by omega) hK rfl)⟩
    case left =>
      rintro D W' hD ⟨met, next, sm, lev, hd⟩ hK
      refine ⟨by simp, .inl ⟨_, _, rfl, run_takeDeferred hK, ?_⟩⟩
      exact ⟨_, results_none rfl _ _ _, rfl, met, next, sm, lev, hd.mems (hd.mem.putObj _ (by omega) (by omega) (by omega) hK rfl)⟩
    · intro l' J' JD' W' hJJ hJD h0' hl hW ha hd hs hp hY'
      have hdN : ∀ s i W'' q, J' s i W'' → J' s i (W''.drewN q) := by
        intro s i W'' q hj
        induction q with
        | zero => exact hj
        | succ q ih => exact hd _ _ _ ih
      exact ways2_in 0 l' (w.heap.size + 1 + 1) HM.out (fun k p hp => ⟨(HA0.out.rds k p hp).1, HRd.out k p hp⟩) HA0.out.ok.outer k0 evs.length wl HW.out (fun p hp => (HA0.out.rds k0 p hp).2) J' (KeepNC (fun b => (b = B.ms ∨ b = B.mm) ∨ b = l')) JD' W'
        (fun s i W'' hJ' => by obtain ⟨_, _, _, _, h1, h2, _⟩ := hJJ s i W'' hJ'; exact ⟨h1.mem.kept, h2⟩) hdN hs h0' (fun s i W1 y hy hJ' => by
          have := hY' s i W1 (List.getElem?_eq_some_iff.1 hy).1 hJ'
          simp only [warg_at hy] at this
          exact this)
    case body =>
      intro s l' i rec W' hi' hl' hrec hL' hD hu
      clear HU0 HLk hl0 HS
      obtain ⟨met1, next1, sm1, lev1, h1, h2, h3, h4, h6, h5⟩ := hu
      obtain ⟨⟨k, cn⟩, hx⟩ : ∃ y, wl[i]? = some y := ⟨wl[i], List.getElem?_eq_getElem hi'⟩
      obtain ⟨p, hp, _⟩ := HW.out.step i _ hx
      obtain ⟨b', hbp, hmb, hspan⟩ := way_at HM.out hx hp
      rw [hbp, warg_at hx]
      simp only at hp hmb hspan ⊢
      obtain ⟨pp, cc, hrf, hlc, hcm, hcells⟩ := row_form (HM.out.rows k p hp)
      have hx2 : cn ≤ p.reads.length := HW.out.cnt i _ hx p hp
      have hsp := h1.mem.kept.at hspan (fun x => x)
      have e3 := cell_of_block hsp 3
      simp at e3
      rw [hrf] at e3
      have hcm3 : cc ≤ 9223372036854775807 := hcm
      have hrd : readsOf s0 k = p.reads := by unfold readsOf; rw [hp]
      have hpl := HRd.out k p hp
      obtain ⟨S, hS⟩ : ∃ S, S = seenAt m sm1 k := ⟨_, rfl⟩
      have hSb := (h1.mem.seen hmb).2
      have hlk := h1.mem.lookS hmb
      rw [← hS] at hSb hlk
      have cs := cell_of_block h1.mem.hs 0
      have c6 := cell_of_block h4 0
      simp at cs c6
      have w1' : IntKind.i64.wrap ((S : Int) - 1) = (S : Int) - 1 := by rw [IntKind.wrap_i64]; omega
      have hHd : 0 < i → k ≠ k0 ∧ b' ≠ b0 := fun hi => by
        obtain ⟨i, rfl⟩ : ∃ j, i = j + 1 := ⟨i - 1, by omega⟩
        have hlt := HW.out.less HA0.out.ok.outer i k cn hx
        refine ⟨by omega, fun e => ?_⟩
        have := HM.out.uniq hmb HB0.out e
        omega
      have hHd0 : i = 0 → k = k0 ∧ b' = b0 := fun hi => by
        subst hi
        obtain ⟨_, _, hx0⟩ := HW.out.head
        rw [hx] at hx0
        injection hx0 with hx0
        injection hx0 with e1 _
        refine ⟨e1, ?_⟩
        rw [e1, HB0.out] at hmb
        injection hmb with hmb
        injection hmb with _ e2
        exact e2.symm
      have H1 := Lib.hid h1
      have H2 := Lib.hid h2
      have H3 := Lib.hid h3
      have H4 := Lib.hid h4
      have H5 := Lib.hid h5
      have H6 := Lib.hid h6
      have HLp := Lib.hid hL'
      have HD := Lib.hid hD
      have Hrec := Lib.hid hrec
      have HP := Lib.hid hp
      have HX := Lib.hid hx
      have HCe := Lib.hid hcells
      have HRe := Lib.hid hrd
      have HMb := Lib.hid hmb
      have HSe := Lib.hid hS
      have HHd := Lib.hid hHd
      have HHd0 := Lib.hid hHd0
      clear h1 h2 h3 h4 h5 h6 hx hp hbp hmb hspan hrf hcells hsp hL' hD hrec hrd hcm hS hHd hHd0
      refine wpIn_block ?_
      refine wpIn_seq ?_
      refine wpIn_seq ?_
      refine wpIn_mono (Q := fun e a' w' => e = .normal ∧ w' = W' ∧ ∃ v30 v31 v32 v33 v34 : Value, a' = { tmps := #[.int .i64 x, .pointer (some ⟨B.l, 0, none⟩), .pointer (some ⟨B.s, 0, none⟩), .pointer (some ⟨B.m, 0, none⟩), .pointer (some ⟨B.n, 0, none⟩), .pointer (some ⟨w.heap.size, 0, none⟩), .pointer (some ⟨w.heap.size + 1, 0, none⟩), .pointer (some ⟨b', 0, none⟩), .int .i64 cn, undef, undef, undef, undef, undef, .pointer (some ⟨L, 0, none⟩), .pointer (some ⟨L, 0, none⟩), .pointer (some ⟨L, 1, none⟩), .map (some M), .int .i64 x, .pointer (some ⟨b0, 0, none⟩), .pointer (some ⟨b0, 0, none⟩), .bool false, .pointer (some ⟨b0, 0, none⟩), .func (.func 126) #[] #[.pointer (some ⟨w.heap.size + 2, 0, none⟩)], .pointer (some ⟨b', 0, none⟩), .int .i64 cn, .map (some B.ms), .pointer (some ⟨b', 0, none⟩), .int .i64 (S : Nat), .int .i64 cn, v30, v31, v32, v33, v34, .bool (decide (cn < S) && decide (0 < i)), undef, undef, undef, undef, undef, undef, undef, undef, undef, undef, undef, undef, undef, undef, undef, undef, undef, undef, undef, undef, undef, undef, undef, undef, undef, undef, undef, undef, undef, undef, undef, undef, undef, undef, undef, undef, undef, undef, undef, undef, undef, undef, undef, undef, undef, undef, undef, undef, undef, undef], defers := [] }) ?_ ?_
      · have key : cn < S ∧ 0 < i ∨ cn < S ∧ i = 0 ∨ ¬ cn < S := by omega
        have hne := neq_ptr (H1.out.mem.okP HMb.out) (H1.out.mem.okP HB0.out)
        rcases key with ⟨k1, k2⟩ | ⟨k1, k2⟩ | k1
        · have k3 := (HHd.out k2).2
          have k4 : (cn : Int) < S := by omega
          rw [decide_eq_true k3] at hne
          gi_wp2
        · have k3 := (HHd0.out k2).2
          have k4 : (cn : Int) < S := by omega
          subst k3
          rw [decide_eq_false (by simp)] at hne
          gi_wp2
        · have k4 : ¬ (cn : Int) < S := by omega
          gi_wp2
      rintro _ _ _ ⟨rfl, hww, v30, v31, v32, v33, v34, rfl⟩
      have hww := hww.symm
      subst hww
      by_cases hst : cn < S ∧ 0 < i
      · rw [decide_eq_true hst.1, decide_eq_true hst.2]
        gi_wp2
        exact ⟨HLp.out, by rw [Hrec.out]; exact HD.out, _, _, _, _, H1.out.done HO.out HIx.out HW.out hst.2 (fun c hc => H5.out c hst.2 hc) (.inr ⟨k, cn, HX.out, by rw [← HSe.out]; exact hst.1⟩) H1.out.mem⟩
      · have hb : (decide (cn < S) && decide (0 < i)) = false := by
          by_cases h6 : cn < S
          · rw [decide_eq_false (fun h7 => hst ⟨h6, h7⟩), Bool.and_false]
          · rw [decide_eq_false h6, Bool.false_and]
        rw [hb]
        gi_wp2
        obtain ⟨lo, hlo⟩ : ∃ lo, lo = min (S - 1) cn := ⟨_, rfl⟩
        have hlo1 : lo ≤ cn := by omega
        obtain ⟨pl, hsl, hpl2⟩ := cut_reads (lo := lo) (hi := cn) hlo1 hx2 hlc HCe.out
        have hmx : ∀ W2 : World, (Builtin.max_ #[3, 3] 3 #[.int .i64 ((S : Int) - 1), .int .i64 0]).run Tryz.prog W2 = .ok (.int .i64 ((S - 1 : Nat) : Int)) W2 := fun W2 => by
          show Result.ok (Value.int .i64 (if (0 : Int) > (S : Int) - 1 then 0 else (S : Int) - 1)) W2 = _
          congr 2
          split <;> omega
        have hmn : ∀ W2 : World, (Builtin.min_ #[3, 3] 3 #[.int .i64 ((S - 1 : Nat) : Int), .int .i64 cn]).run Tryz.prog W2 = .ok (.int .i64 (lo : Int)) W2 := fun W2 => by
          show Result.ok (Value.int .i64 (if (cn : Int) < ((S - 1 : Nat) : Int) then (cn : Int) else ((S - 1 : Nat) : Int))) W2 = _
          congr 2
          split <;> omega
        have hcnc : cn ≤ cc := Nat.le_trans hx2 hlc
        have HSl := Lib.hid hsl
        have HLo := Lib.hid hlo
        have HMx := Lib.hid hmx
        have HMn := Lib.hid hmn
        have HP2 := Lib.hid hpl2
        clear hsl hmx hmn hpl2 hlo
        refine region_round (by kernel_rfl) (noDefer_spec (by kernel_rfl)) ?_ ?_
        · rintro ⟨a2, w2, h2⟩
          exact h2
        have hSs : (fun W2 : World => W2.cell? ⟨b', 3, none⟩ = some (.slice pp p.reads.length cc) ∧ W2.cell? ⟨B.s, 0, none⟩ = some (.map (some B.ms)) ∧ (Instr.lookup 177 (.map (some B.ms)) (.pointer (some ⟨b', 0, none⟩)) false).run Tryz.prog W2 = .ok (.int .i64 (S : Nat)) W2) W'.drew := ⟨e3, cs, by
          have := H1.out.mem.drew.lookS HMb.out
          rw [← HSe.out] at this
          exact this⟩
        refine wpAny_of_held (S := fun W2 : World => W2.cell? ⟨b', 3, none⟩ = some (.slice pp p.reads.length cc) ∧ W2.cell? ⟨B.s, 0, none⟩ = some (.map (some B.ms)) ∧ (Instr.lookup 177 (.map (some B.ms)) (.pointer (some ⟨b', 0, none⟩)) false).run Tryz.prog W2 = .ok (.int .i64 (S : Nat)) W2) _ _ _ _ ?_
        refine wpAnyH_take (i := 0) (oi := { dst := some 36, op := Op.move (Operand.tmp 7), type := 99, pos := "list.go:148", after := #[], guard := none }) (v := .pointer (some ⟨b', 0, none⟩)) rfl (by kernel_rfl) (by kernel_rfl) (by kernel_rfl) (fun _ _ _ h => h) (Or.inl ⟨by rfl, fun W2 hW2 => ?_⟩) hSs ?_
        · (obtain ⟨q1, q2, q3⟩ := hW2; have q4 := HSl.out; have q5 := HMx.out W2; have q6 := HMn.out W2; go_simp)
        simp only [Act.put, List.setIfInBounds_toArray, List.set_cons_zero, List.set_cons_succ]
        refine wpAnyH_take (i := 1) (oi := { dst := some 37, op := Op.nilCheck (Operand.tmp 36), type := 0, pos := "list.go:148", after := #[{ on := 0, ground := Ground.data }], guard := none }) (v := .pointer (some ⟨b', 0, none⟩)) rfl (by kernel_rfl) (by kernel_rfl) (by kernel_rfl) (fun _ _ _ h => h) (Or.inl ⟨by rfl, fun W2 hW2 => ?_⟩) hSs ?_
        · (obtain ⟨q1, q2, q3⟩ := hW2; have q4 := HSl.out; have q5 := HMx.out W2; have q6 := HMn.out W2; go_simp)
        simp only [Act.put, List.setIfInBounds_toArray, List.set_cons_zero, List.set_cons_succ]
        refine wpAnyH_take (i := 2) (oi := { dst := some 38, op := Op.fieldAddr 103 (Operand.tmp 37) 3, type := 0, pos := "list.go:148", after := #[{ on := 1, ground := Ground.data }], guard := none }) (v := .pointer (some ⟨b', 3, none⟩)) rfl (by kernel_rfl) (by kernel_rfl) (by kernel_rfl) (fun _ _ _ h => h) (Or.inl ⟨by rfl, fun W2 hW2 => ?_⟩) hSs ?_
        · (obtain ⟨q1, q2, q3⟩ := hW2; have q4 := HSl.out; have q5 := HMx.out W2; have q6 := HMn.out W2; go_simp)
        simp only [Act.put, List.setIfInBounds_toArray, List.set_cons_zero, List.set_cons_succ]
        refine wpAnyH_take (i := 3) (oi := { dst := some 39, op := Op.load 35 (Operand.tmp 38), type := 35, pos := "list.go:148", after := #[{ on := 2, ground := Ground.data }], guard := none }) (v := .slice pp p.reads.length cc) rfl (by kernel_rfl) (by kernel_rfl) (by kernel_rfl) (fun _ _ _ h => h) (Or.inl ⟨by rfl, fun W2 hW2 => ?_⟩) hSs ?_
        · (obtain ⟨q1, q2, q3⟩ := hW2; have q4 := HSl.out; have q5 := HMx.out W2; have q6 := HMn.out W2; go_simp)
        simp only [Act.put, List.setIfInBounds_toArray, List.set_cons_zero, List.set_cons_succ]
        refine wpAnyH_take (i := 4) (oi := { dst := some 40, op := Op.load 177 (Operand.tmp 2), type := 177, pos := "list.go:148", after := #[], guard := none }) (v := .map (some B.ms)) rfl (by kernel_rfl) (by kernel_rfl) (by kernel_rfl) (fun _ _ _ h => h) (Or.inl ⟨by rfl, fun W2 hW2 => ?_⟩) hSs ?_
        · (obtain ⟨q1, q2, q3⟩ := hW2; have q4 := HSl.out; have q5 := HMx.out W2; have q6 := HMn.out W2; go_simp)
        simp only [Act.put, List.setIfInBounds_toArray, List.set_cons_zero, List.set_cons_succ]
        refine wpAnyH_take (i := 5) (oi := { dst := some 41, op := Op.move (Operand.tmp 7), type := 99, pos := "list.go:148", after := #[], guard := none }) (v := .pointer (some ⟨b', 0, none⟩)) rfl (by kernel_rfl) (by kernel_rfl) (by kernel_rfl) (fun _ _ _ h => h) (Or.inl ⟨by rfl, fun W2 hW2 => ?_⟩) hSs ?_
        · (obtain ⟨q1, q2, q3⟩ := hW2; have q4 := HSl.out; have q5 := HMx.out W2; have q6 := HMn.out W2; go_simp)
        simp only [Act.put, List.setIfInBounds_toArray, List.set_cons_zero, List.set_cons_succ]
        refine wpAnyH_take (i := 6) (oi := { dst := some 42, op := Op.lookup 177 (Operand.tmp 40) (Operand.tmp 41) false, type := 3, pos := "list.go:148", after := #[{ on := 4, ground := Ground.data }, { on := 5, ground := Ground.data }], guard := none }) (v := .int .i64 (S : Nat)) rfl (by kernel_rfl) (by kernel_rfl) (by kernel_rfl) (fun _ _ _ h => h) (Or.inl ⟨by rfl, fun W2 hW2 => ?_⟩) hSs ?_
        · (obtain ⟨q1, q2, q3⟩ := hW2; have q4 := HSl.out; have q5 := HMx.out W2; have q6 := HMn.out W2; go_simp)
        simp only [Act.put, List.setIfInBounds_toArray, List.set_cons_zero, List.set_cons_succ]
        refine wpAnyH_take (i := 7) (oi := { dst := some 43, op := Op.binOp BinOp.sub 3 (Operand.tmp 42) (Operand.const (.int .i64 1)) 3, type := 3, pos := "list.go:148", after := #[{ on := 6, ground := Ground.data }], guard := none }) (v := .int .i64 ((S : Int) - 1)) rfl (by kernel_rfl) (by kernel_rfl) (by kernel_rfl) (fun _ _ _ h => h) (Or.inl ⟨by rfl, fun W2 hW2 => ?_⟩) hSs ?_
        · (obtain ⟨q1, q2, q3⟩ := hW2; have q4 := HSl.out; have q5 := HMx.out W2; have q6 := HMn.out W2; go_simp)
        simp only [Act.put, List.setIfInBounds_toArray, List.set_cons_zero, List.set_cons_succ]
        refine wpAnyH_take (i := 8) (oi := { dst := some 44, op := Op.call { callee := Callee.builtin Builtin.max, args := #[(Operand.tmp 43), (Operand.const (.int .i64 0))], argTypes := #[3, 3] }, type := 3, pos := "list.go:148", after := #[{ on := 7, ground := Ground.data }], guard := none }) (v := .int .i64 ((S - 1 : Nat) : Int)) rfl (by kernel_rfl) (by kernel_rfl) (by kernel_rfl) (fun _ _ _ h => h) (Or.inl ⟨by rfl, fun W2 hW2 => ?_⟩) hSs ?_
        · (obtain ⟨q1, q2, q3⟩ := hW2; have q4 := HSl.out; have q5 := HMx.out W2; have q6 := HMn.out W2; go_simp)
        simp only [Act.put, List.setIfInBounds_toArray, List.set_cons_zero, List.set_cons_succ]
        refine wpAnyH_take (i := 9) (oi := { dst := some 45, op := Op.move (Operand.tmp 8), type := 3, pos := "list.go:148", after := #[], guard := none }) (v := .int .i64 cn) rfl (by kernel_rfl) (by kernel_rfl) (by kernel_rfl) (fun _ _ _ h => h) (Or.inl ⟨by rfl, fun W2 hW2 => ?_⟩) hSs ?_
        · (obtain ⟨q1, q2, q3⟩ := hW2; have q4 := HSl.out; have q5 := HMx.out W2; have q6 := HMn.out W2; go_simp)
        simp only [Act.put, List.setIfInBounds_toArray, List.set_cons_zero, List.set_cons_succ]
        refine wpAnyH_take (i := 10) (oi := { dst := some 46, op := Op.call { callee := Callee.builtin Builtin.min, args := #[(Operand.tmp 44), (Operand.tmp 45)], argTypes := #[3, 3] }, type := 3, pos := "list.go:148", after := #[{ on := 8, ground := Ground.data }, { on := 9, ground := Ground.data }], guard := none }) (v := .int .i64 ((lo : Nat) : Int)) rfl (by kernel_rfl) (by kernel_rfl) (by kernel_rfl) (fun _ _ _ h => h) (Or.inl ⟨by rfl, fun W2 hW2 => ?_⟩) hSs ?_
        · (obtain ⟨q1, q2, q3⟩ := hW2; have q4 := HSl.out; have q5 := HMx.out W2; have q6 := HMn.out W2; go_simp)
        simp only [Act.put, List.setIfInBounds_toArray, List.set_cons_zero, List.set_cons_succ]
        refine wpAnyH_take (i := 11) (oi := { dst := some 47, op := Op.move (Operand.tmp 8), type := 3, pos := "list.go:148", after := #[], guard := none }) (v := .int .i64 cn) rfl (by kernel_rfl) (by kernel_rfl) (by kernel_rfl) (fun _ _ _ h => h) (Or.inl ⟨by rfl, fun W2 hW2 => ?_⟩) hSs ?_
        · (obtain ⟨q1, q2, q3⟩ := hW2; have q4 := HSl.out; have q5 := HMx.out W2; have q6 := HMn.out W2; go_simp)
        simp only [Act.put, List.setIfInBounds_toArray, List.set_cons_zero, List.set_cons_succ]
        refine wpAnyH_take (i := 12) (oi := { dst := some 48, op := Op.slice 35 (Operand.tmp 39) (some (Operand.tmp 46)) (some (Operand.tmp 47)) none, type := 35, pos := "list.go:148", after := #[{ on := 3, ground := Ground.data }, { on := 10, ground := Ground.data }, { on := 11, ground := Ground.data }], guard := none }) (v := .slice pl (cn - lo) (cc - lo)) rfl (by kernel_rfl) (by kernel_rfl) (by kernel_rfl) (fun _ _ _ h => h) (Or.inl ⟨by rfl, fun W2 hW2 => ?_⟩) hSs ?_
        · (obtain ⟨q1, q2, q3⟩ := hW2; have q4 := HSl.out; have q5 := HMx.out W2; have q6 := HMn.out W2; go_simp)
        simp only [Act.put, List.setIfInBounds_toArray, List.set_cons_zero, List.set_cons_succ]
        refine wpAnyH_take (i := 13) (oi := { dst := some 49, op := Op.call { callee := Callee.builtin Builtin.len, args := #[(Operand.tmp 48)], argTypes := #[35] }, type := 3, pos := "list.go:148", after := #[{ on := 12, ground := Ground.data }], guard := none }) (v := .int .i64 ((cn - lo : Nat) : Int)) rfl (by kernel_rfl) (by kernel_rfl) (by kernel_rfl) (fun _ _ _ h => h) (Or.inl ⟨by rfl, fun W2 hW2 => ?_⟩) hSs ?_
        · (obtain ⟨q1, q2, q3⟩ := hW2; have q4 := HSl.out; have q5 := HMx.out W2; have q6 := HMn.out W2; go_simp)
        simp only [Act.put, List.setIfInBounds_toArray, List.set_cons_zero, List.set_cons_succ]
        refine wpAnyH_take (i := 14) (oi := { dst := some 50, op := Op.move (Operand.const (.int .i64 0)), type := 3, pos := "list.go:148", after := #[], guard := none }) (v := .int .i64 0) rfl (by kernel_rfl) (by kernel_rfl) (by kernel_rfl) (fun _ _ _ h => h) (Or.inl ⟨by rfl, fun W2 hW2 => ?_⟩) hSs ?_
        · (obtain ⟨q1, q2, q3⟩ := hW2; have q4 := HSl.out; have q5 := HMx.out W2; have q6 := HMn.out W2; go_simp)
        simp only [Act.put, List.setIfInBounds_toArray, List.set_cons_zero, List.set_cons_succ]
        refine wpAnyH_done (by kernel_rfl) ?_ _
        try simp only [Act.put, List.setIfInBounds_toArray, List.set_cons_zero, List.set_cons_succ]
        gi_wp2_with fail
        gi_loopw [50] (fun q wr => ∃ j : Nat, j ≤ cn - lo ∧ q = .int .i64 j ∧ ∃ met next lev, Seen evs s0 fr x wR wr B L m d (some x) (exOf wl i) met next sm1 lev ∧ wr.heap[w.heap.size + 1 + 1]? = some (.cells #[s] 99 (0, 0)) ∧ wr.heap[w.heap.size]? = some (.cells #[.int .i64 x] 3 (0, 0)) ∧
          wr.heap[w.heap.size + 1]? = some (.cells #[.pointer (some ⟨b0, 0, none⟩)] 99 (0, 0)) ∧ (∃ v, wr.heap[B.n]? = some (.cells #[v] 35 (0, 0)) ∧ v.ownBlock ≠ some w.heap.size) ∧ KeepNC (fun b => b = B.ms ∨ b = B.mm) W' wr ∧ ∀ r ∈ p.reads.take (lo + j), Met met (addrAt evs r)) (fun q _ => (cn - lo) - (intOf q).toNat)
        case atStart =>
          refine ⟨0, Nat.zero_le _, rfl, met1, next1, lev1, H1.out.mems H1.out.mem.drew, H2.out, H3.out, H4.out, H6.out, (KeepNC.refl _ W').drew, fun r hr => ?_⟩
          refine H1.out.spr.reads k p HP.out r ?_
          rw [← HSe.out]
          exact List.take_subset_take_left p.reads (by rw [HLo.out]; omega) hr
        case round =>
          obtain ⟨j, hj, rfl, met2, next2, lev2, hs2, g2, g3, g4, g7, hnc, hrds⟩ := hrel
          have T7 := Lib.hid g7
          have T1 := Lib.hid hs2
          have T2 := Lib.hid g2
          have T3 := Lib.hid g3
          have T4 := Lib.hid g4
          have T5 := Lib.hid hnc
          have T6 := Lib.hid hrds
          clear hs2 g2 g3 g4 g7 hnc hrds
          by_cases hjx : j < cn - lo
          · obtain ⟨r, hr⟩ : ∃ r, p.reads[lo + j]? = some r := ⟨p.reads[lo + j]'(by omega), List.getElem?_eq_getElem _⟩
            obtain ⟨g, o, rfl, hgc⟩ := HP2.out j r hjx hr
            have hgc2 := cell_keeps T1.out.mem.kept hgc
            obtain ⟨e, he⟩ : ∃ e, evs[r]? = some e := by
              have := (HA0.out.rds k p HP.out).2 r (List.mem_of_getElem? hr)
              exact ⟨evs[r], List.getElem?_eq_getElem _⟩
            obtain ⟨eb, eo, rfl, hlt, _, _, c2w, _, _, _, _, _⟩ := HI.out.ev.cells he
            have c2 := cell_keeps T1.out.mem.kept c2w
            have hrn : (r : Int) < n := by
              have := (List.getElem?_eq_some_iff.1 he).1
              have := HI.out.len
              omega
            have hr0 : (0 : Int) ≤ r := by omega
            have hL0 := cell_of_block (T1.out.mem.kept.at HM.out.hL (fun x => x)) 0
            simp at hL0
            have hbl := cell_of_block T1.out.mem.hl 0
            simp at hbl
            have hbm := cell_of_block T1.out.mem.hm 0
            simp at hbm
            have h5c := cell_of_block T3.out 0
            simp at h5c
            have hea : addrAt evs r = e.addr := by unfold addrAt; rw [he]
            have k6 : (j : Int) < ((cn - lo : Nat) : Int) := by omega
            have k7 : (0 : Int) ≤ j := by omega
            have hlm := T1.out.mem.lookM e.addr true
            have HEa := Lib.hid hea
            have HR := Lib.hid hr
            clear hgc he c2w hea hr
            cases hg : getG met2 e.addr with
            | some y =>
              rw [hg] at hlm
              have HG := Lib.hid hg
              clear hg
              gi_wp2
              go_roundw
              case rel =>
                refine ⟨j + 1, by omega, by go_num, met2, next2, lev2, T1.out, T2.out, T3.out, T4.out, T7.out, T5.out, fun r' hr' => ?_⟩
                rw [show lo + (j + 1) = lo + j + 1 by omega] at hr'
                obtain ⟨h6, h7⟩ := List.getElem?_eq_some_iff.1 HR.out
                rw [List.take_succ_eq_append_getElem h6, h7] at hr'
                rcases List.mem_append.1 hr' with hr' | hr'
                · exact T6.out r' hr'
                · rw [List.mem_singleton] at hr'
                  subst hr'
                  rw [HEa.out]
                  exact met_iff.2 (by rw [HG.out]; simp)
              case measure => simp [intOf] <;> omega
            | none =>
              rw [hg] at hlm
              obtain ⟨w3, hput, hk3, -, hm3⟩ := T1.out.mem.putM hg x
              have hnm : ¬ Met met2 e.addr := fun h8 => met_iff.1 h8 hg
              have hzq : e.addr ∈ sq evs s0 x := by
                refine (mem_gath HO.out HIx.out HW.out e.addr).2 (gath_at.2 ⟨(k, cn), List.mem_of_getElem? HX.out, r, ?_, HEa.out⟩)
                rw [HRe.out]
                exact List.mem_of_getElem? (i := lo + j) (by rw [List.getElem?_take, if_pos (by omega)]; exact HR.out)
              obtain ⟨v3, hv3, _⟩ := hm3.row
              have hbn := cell_of_block hv3 0
              simp at hbn
              have hmx := T1.out.spr.here x rfl
              have hfew2 := T1.out.spr.few HO.out T1.out.mem.mapM.nd
              have hnx := T1.out.spr.len
              obtain ⟨p4, n4, c4, w4, hrun4, hsame4, hnc4, hm4, hoth4, hown4⟩ := (hm3.alloc (.cells #[.int .i64 e.addr] 3)).push (z := e.addr) (ad := ⟨w3.heap.size, 0, none⟩) (by rw [cell_of_block (heap_alloc_at _ _)]; rfl) (by omega) 35 (heap_alloc_old _ hv3)
              have hbn4 := hsame4 _ _ _ _ (heap_alloc_old (.cells #[.int .i64 e.addr] 3) hv3) (.inl (by decide))
              have hbc4 := cell_of_block hbn4 0
              have hbf4 := free_of_block hbn4 0
              simp at hbc4
              have hs5 : Seen evs s0 fr x wR (w4.setCell ⟨B.n, 0, none⟩ (.slice p4 n4 c4)) B L m d (some x) (exOf wl i) (met2 ++ [(e.addr, x)]) (next2 ++ [e.addr]) sm1 (fun v => if v = e.addr then lev2 x + 1 else lev2 v) :=
                ⟨hm4, T1.out.spr.add hzq, T1.out.bfs.add hmx hzq hnm T1.out.spr.root, by have := T1.out.bal; simp only [List.length_append, List.length_singleton]; omega⟩
              have far : ∀ (b : Nat) (c : Array Value) (t : TypeId), wr.heap[b]? = some (.cells c t (0, 0)) → t ≠ 3 ∨ b < wR.heap.size → b ≠ B.n → (w4.setCell ⟨B.n, 0, none⟩ (.slice p4 n4 c4)).heap[b]? = some (.cells c t (0, 0)) := fun b c t hb ht hne => by
                rw [heap_set_other _ hne]
                refine hsame4 _ _ _ _ (heap_alloc_old _ (hk3.at hb (fun e8 => ?_))) ht
                rw [e8] at hb
                exact T1.out.mem.mapM.not_cells hb
              have hv37 : v3.ownBlock ≠ some w.heap.size := by
                obtain ⟨v8, h81, h82⟩ := T7.out
                have h83 := hk3.at h81 (fun e8 => by rw [e8] at h81; exact T1.out.mem.mapM.not_cells h81)
                rw [hv3] at h83
                simp at h83
                rw [h83]; exact h82
              have hb5 : (w4.setCell ⟨B.n, 0, none⟩ (.slice p4 n4 c4)).heap[w.heap.size]? = some (.cells #[.int .i64 x] 3 (0, 0)) := by
                have h81 := hk3.at T3.out (fun e8 => by have h81 := T3.out; rw [e8] at h81; exact T1.out.mem.mapM.not_cells h81)
                rw [heap_set_other _ (fun e8 => by rw [e8, hv3] at h81; simp at h81)]
                exact hoth4 _ _ (heap_alloc_old _ h81) hv37
              have hn5 : ∃ v, (w4.setCell ⟨B.n, 0, none⟩ (.slice p4 n4 c4)).heap[B.n]? = some (.cells #[v] 35 (0, 0)) ∧ v.ownBlock ≠ some w.heap.size := by
                refine ⟨_, by rw [heap_set_same hbn4]; rfl, fun e8 => ?_⟩
                rcases hown4 _ e8 with h8 | h8
                · exact hv37 h8
                · have h81 := heap_lt (hk3.at T3.out (fun e8 => by have h81 := T3.out; rw [e8] at h81; exact T1.out.mem.mapM.not_cells h81))
                  rw [World.size_alloc] at h8
                  omega
              have HB5 := Lib.hid hb5
              have HN5 := Lib.hid hn5
              have HS5 := Lib.hid hs5
              have HFar := Lib.hid far
              have HBn := Lib.hid hv3
              have HNc4 : KeepNC (fun b => b = B.ms ∨ b = B.mm) W' (w4.setCell ⟨B.n, 0, none⟩ (.slice p4 n4 c4)) := by
                refine KeepNC.setCell ?_ _ _ (fun o8 ho8 => by rw [hbn4] at ho8; cases ho8; rfl)
                exact ((T5.out.keptX hk3 (fun b hb => .inr hb)).alloc _).trans (hnc4.mono fun _ h8 => h8.elim)
              have HNc5 := Lib.hid HNc4
              clear hv37 hb5 hn5 hoth4 hown4 hk3 hm3 hv3 hmx hfew2 hnx hsame4 hnc4 hm4 hbn4 hs5 far HNc4 hnm hzq hg
              gi_wp2_with (gi_at_builtin; refine hold ?_)
              refine Lib.hid ?_
              refine wpListIn_append_run (w := w3.alloc (.cells #[.int .i64 e.addr] 3)) rfl (.tmp 73) (.tmp 75) 35 rfl (v := v3) (xv := .slice (some ⟨w3.heap.size, 0, none⟩) 1 1) rfl rfl hrun4 ?_
              clear hrun4
              simp only [Act.put, List.setIfInBounds_toArray, List.set_cons_zero, List.set_cons_succ]
              gi_wp2
              go_roundw
              case rel =>
                have nn : ∀ (b : Nat) (c : Array Value) (t : TypeId), wr.heap[b]? = some (.cells c t (0, 0)) → t ≠ 35 → b ≠ B.n := fun b c t hb ht e8 => by
                  obtain ⟨v8, h8, _⟩ := T1.out.mem.row
                  rw [e8, h8] at hb
                  simp at hb
                  exact ht hb.2.symm
                refine ⟨j + 1, by omega, by go_num, _, _, _, HS5.out, HFar.out _ _ _ T2.out (.inl (by decide)) (nn _ _ _ T2.out (by decide)), HB5.out, HFar.out _ _ _ T4.out (.inl (by decide)) (nn _ _ _ T4.out (by decide)), HN5.out, HNc5.out, fun r' hr' => ?_⟩
                rw [show lo + (j + 1) = lo + j + 1 by omega] at hr'
                obtain ⟨h6, h7⟩ := List.getElem?_eq_some_iff.1 HR.out
                rw [List.take_succ_eq_append_getElem h6, h7] at hr'
                rcases List.mem_append.1 hr' with hr' | hr'
                · exact (T6.out r' hr').more _
                · rw [List.mem_singleton] at hr'
                  subst hr'
                  exact ⟨x, by rw [HEa.out]; simp⟩
              case measure => simp [intOf] <;> omega
          · obtain rfl : j = cn - lo := by omega
            have cs2 := cell_of_block T1.out.mem.hs 0
            simp at cs2
            have hlk2 := T1.out.mem.lookS HMb.out
            rw [← HSe.out] at hlk2
            have hmx2 : (Builtin.max_ #[3, 3] 3 #[.int .i64 (S : Int), .int .i64 ((cn : Int) + 1)]).run Tryz.prog wr = .ok (.int .i64 ((max S (cn + 1) : Nat) : Int)) wr := by
              show Result.ok (Value.int .i64 (if (cn : Int) + 1 > (S : Int) then (cn : Int) + 1 else (S : Int))) wr = _
              congr 2
              split <;> omega
            have w2' : IntKind.i64.wrap ((cn : Int) + 1) = (cn : Int) + 1 := by rw [IntKind.wrap_i64]; omega
            obtain ⟨w3, sm3, hput, hk3, -, hm3, hse3⟩ := T1.out.mem.putS HMb.out (v := max S (cn + 1)) (by omega)
            obtain ⟨mx, hmxe⟩ : ∃ mx, mx = max S (cn + 1) := ⟨_, rfl⟩
            rw [← hmxe] at hput hmx2 hse3
            have HMxe := Lib.hid hmxe
            have HK3 := Lib.hid hk3
            have HM3 := Lib.hid hm3
            have HSe3 := Lib.hid hse3
            clear hk3 hm3 hse3 hmxe
            gi_wp2
            have hNc := T5.out.keptX HK3.out (fun b hb => .inl hb)
            have nm : ∀ (b : Nat) (c : Array Value) (t : TypeId) (fr : Nat × Nat), wr.heap[b]? = some (.cells c t fr) → w3.heap[b]? = some (.cells c t fr) := fun b c t fr hb => HK3.out.at hb (fun e8 => by rw [e8] at hb; exact T1.out.mem.mapS.not_cells hb)
            refine ⟨hNc.same _ _ (fun h8 => by omega) HLp.out rfl, by rw [Hrec.out]; exact hNc.same _ _ (fun h8 => by omega) HD.out rfl, hNc, met2, next2, sm3, lev2, T1.out.through HM.out.len HW.out HX.out HP.out (fun r hr => T6.out r (by rw [show lo + (cn - lo) = cn by omega]; exact hr)) HM3.out (fun j hj => by rw [HSe3.out j hj, HMxe.out, HSe.out]), nm _ _ _ _ T2.out, nm _ _ _ _ T3.out, nm _ _ _ _ T4.out, (let ⟨v8, h81, h82⟩ := T7.out; ⟨v8, nm _ _ _ _ h81, h82⟩), fun c8 _ h0c => ?_⟩
            rw [HSe3.out k0 (by rw [HM.out.len]; exact hk0l)]
            by_cases hi0 : i = 0
            · subst hi0
              rw [if_pos (HHd0.out rfl).1.symm, HMxe.out]
              have h9 := HX.out
              rw [h0c] at h9
              injection h9 with h9
              injection h9 with _ h9
              omega
            · rw [if_neg (fun e8 => (HHd.out (by omega)).1 e8.symm)]
              exact H5.out c8 (by omega) h0c
end Go.Proofs.YtbhiaeciiphelaaGreatDoor
