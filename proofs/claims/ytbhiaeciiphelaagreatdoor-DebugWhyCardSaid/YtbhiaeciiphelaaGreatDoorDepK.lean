/-
  DERIVED. What package debug's direct gathers. Condition: the list lies in memory as read leaves it.
-/
import Derived.Test.YtbhiaeciiphelaaGreatDoorDepG
import Derived.Test.YtbhiaeciiphelaaGreatDoorEvO
import Derived.Deep.RegionHeld3
import Derived.Deep.AppendLies
namespace Go.Proofs.YtbhiaeciiphelaaGreatDoor
open Go.RowKit Go.Shelf
attribute [local go_sem] Oper.semAt_some
theorem ways_of (w : World) (p : Option Addr) : Calls Tryz.prog 95 #[.pointer p] w fun e w' => e = .returned (.func (.func 126) #[] #[.pointer (some ⟨w.heap.size, 0, none⟩)]) ∧ w' = w.alloc (.cells #[.pointer p] 99) := by
  go_enter Tryz.func95, Tryz.ntmps95
  go_wp2
  go_ret
  exact ⟨rfl, rfl⟩
def gath (evs : List Ev) (f : St) (wl : List (Nat × Nat)) (i : Nat) : List Int := (wl.take i).flatMap fun x => ((readsOf f x.1).take x.2).map (addrAt evs)
theorem gath_succ {evs : List Ev} {f : St} {wl : List (Nat × Nat)} {i : Nat} {x : Nat × Nat} (h : wl[i]? = some x) : gath evs f wl (i + 1) = gath evs f wl i ++ ((readsOf f x.1).take x.2).map (addrAt evs) := by
  obtain ⟨h1, h2⟩ := List.getElem?_eq_some_iff.1 h
  unfold gath
  rw [List.take_succ_eq_append_getElem h1, h2, List.flatMap_append]
  simp
def warg (wl : List (Nat × Nat)) (i : Nat) : Value := match wl[i]? with | some x => .int .i64 x.2 | none => undef
theorem warg_at {wl : List (Nat × Nat)} {i : Nat} {x : Nat × Nat} (h : wl[i]? = some x) : warg wl i = .int .i64 x.2 := by unfold warg; rw [h]
structure DJ (w : World) (bl Bo bx L : Nat) (G : List Int) (s : Value) (W : World) : Prop where
  kept : Keeps w W
  hx : W.heap[bx]? = some (.cells #[s] 99 (0, 0))
  hl : W.heap[bl]? = some (.cells #[.pointer (some ⟨L, 0, none⟩)] 93 (0, 0))
  row : ∃ v, W.heap[Bo]? = some (.cells #[v] 35 (0, 0)) ∧ W.ownsRow w.heap.size 3 1 v G.length (ints G)
section
variable {w W : World} {bl Bo bx L : Nat} {G : List Int} {s : Value}
theorem DJ.alloc (h : DJ w bl Bo bx L G s W) (o : Obj) : DJ w bl Bo bx L G s (W.alloc o) := by
  obtain ⟨v, h1, h2⟩ := h.row
  exact ⟨Kept.alloc h.kept o, heap_alloc_old _ h.hx, heap_alloc_old _ h.hl, v, heap_alloc_old _ h1, h2.alloc _⟩
theorem DJ.drewN (h : DJ w bl Bo bx L G s W) (q : Nat) : DJ w bl Bo bx L G s (W.drewN q) := by
  obtain ⟨v, h1, h2⟩ := h.row
  exact ⟨Kept.drewN h.kept q, h.hx, h.hl, v, h1, row_same h2 fun _ _ => rfl⟩
theorem DJ.drew (h : DJ w bl Bo bx L G s W) : DJ w bl Bo bx L G s W.drew := by
  obtain ⟨v, h1, h2⟩ := h.row
  exact ⟨Kept.drew h.kept, h.hx, h.hl, v, h1, row_same h2 fun _ _ => rfl⟩
theorem DJ.putObj (h : DJ w bl Bo bx L G s W) {b : Nat} {o : Obj} (o' : Obj) (hb : w.heap.size ≤ b) (ho : W.heap[b]? = some o) (hc : o.isCells = false) : DJ w bl Bo bx L G s (W.putObj b o') := by
  obtain ⟨v, h1, h2⟩ := h.row
  have key : ∀ (k : Nat) (c : Array Value) (t : TypeId) (fr : Nat × Nat), W.heap[k]? = some (.cells c t fr) → (W.putObj b o').heap[k]? = some (.cells c t fr) := fun k c t fr hk => by
    rw [World.putObj_heap_other (fun e => by subst e; rw [hk] at ho; cases ho; cases hc)]
    exact hk
  have hb2 := below_putObj (h.kept.below (B := w.heap.size) (Nat.le_refl _) (fun _ x => x.elim)) hb o'
  exact ⟨⟨hb2.os, hb2.tape, hb2.output, hb2.size, fun k hk _ => hb2.block k hk⟩, key _ _ _ _ h.hx, key _ _ _ _ h.hl, v, key _ _ _ _ h1, ownsRow_putObj h2 o' ho hc⟩
theorem DJ.box (h : DJ w bl Bo bx L G s W) (hb : w.heap.size ≤ bx) (v : Value) : DJ w bl Bo bx L G v (W.setCell ⟨bx, 0, none⟩ v) := by
  obtain ⟨v0, h1, h2⟩ := h.row
  have n1 : bl ≠ bx := fun e => by have := h.hl; rw [e, h.hx] at this; simp at this
  have n2 : Bo ≠ bx := fun e => by rw [e, h.hx] at h1; simp at h1
  refine ⟨Kept.one0 h.kept hb _ _, by rw [heap_set_same h.hx]; rfl, by rw [heap_set_other _ n1]; exact h.hl, v0, by rw [heap_set_other _ n2]; exact h1, row_same h2 fun g hg => heap_set_other _ fun e => ?_⟩
  obtain ⟨cur, hc⟩ := row_block h2 hg
  rw [e, h.hx] at hc
  simp at hc
theorem DJ.put (h : DJ w bl Bo bx L G s W) (hBo : w.heap.size ≤ Bo) {W2 : World} {v v' : Value} {x : Int} {o : Obj} (h1 : W.heap[Bo]? = some (.cells #[v] 35 (0, 0))) (h2 : W.ownsRow w.heap.size 3 1 v G.length (ints G)) (hg : (W.alloc o).grownBy W2 v.ownBlock)
    (hown : W2.ownsRow w.heap.size 3 1 v' (G.length + 1) (ints G ++ [.int .i64 x])) : DJ w bl Bo bx L (G ++ [x]) s (W2.setCell ⟨Bo, 0, none⟩ v') ∧ KeepNC (fun _ => False) W (W2.setCell ⟨Bo, 0, none⟩ v') := by
  have hty : ∀ k (c : Array Value) (t : TypeId), W.heap[k]? = some (.cells c t (0, 0)) → t ≠ 3 → v.ownBlock ≠ some k := by
    intro k c t hk ht e
    obtain ⟨cur, hc⟩ := row_block h2 e
    rw [hk] at hc
    simp at hc
    exact ht hc.2
  have hk5 : Kept (fun b => v.ownBlock = some b) W W2 := ((Kept.refl _ W).alloc o).grown hg (fun b hb _ => hb)
  have hB1 : W2.heap[Bo]? = some (.cells #[v] 35 (0, 0)) := hk5.at h1 (hty _ _ _ h1 (by decide))
  have hx2 := hk5.at h.hx (hty _ _ _ h.hx (by decide))
  have hl2 := hk5.at h.hl (hty _ _ _ h.hl (by decide))
  have n1 : bx ≠ Bo := fun e => by rw [e, hB1] at hx2; simp at hx2
  have n2 : bl ≠ Bo := fun e => by rw [e, hB1] at hl2; simp at hl2
  have hso : ∀ k, v.ownBlock = some k → ∀ o, W.heap[k]? = some o → Obj.firm o = false := by
    intro k hk o ho
    obtain ⟨cur, hc⟩ := row_block h2 hk
    rw [hc] at ho; cases ho; rfl
  have hk1 : KeepNC (fun _ => False) W W2 := (KeepNC.refl _ W).kept hk5 (fun b hb o ho => hso b hb o ho)
  refine ⟨⟨Kept.one0 (Kept.trans h.kept hk5 (fun b hb e => by have := (h2.lt b e).1; omega)) hBo _ _, by rw [heap_set_other _ n1]; exact hx2, by rw [heap_set_other _ n2]; exact hl2, v', by rw [heap_set_same hB1]; rfl, ?_⟩, hk1.setCell _ _ (fun o ho => by rw [hB1] at ho; cases ho; rfl)⟩
  have e1 : (G ++ [x]).length = G.length + 1 := by simp
  have e2 : ints (G ++ [x]) = ints G ++ [.int .i64 x] := by simp [ints]
  rw [e1, e2]
  refine row_same hown fun g hg' => heap_set_other _ fun e => ?_
  obtain ⟨cur, hc⟩ := row_block hown hg'
  rw [e, hB1] at hc
  simp at hc
end
theorem Ways.cnt {sps : List Sp} : ∀ {o : Option Nat} {t : Nat} {wl : List (Nat × Nat)}, Ways sps o t wl → ∀ (i : Nat) (x : Nat × Nat), wl[i]? = some x → ∀ p, sps[x.1]? = some p → x.2 ≤ p.reads.length
  | _, _, _, .nil, i, x, h, _, _ => by simp at h
  | _, _, _, .cons (p := p) hp hl, i, x, h, q, hq => by
    cases i with
    | zero =>
      simp at h
      subst h
      rw [hp] at hq; injection hq with hq; subst hq
      exact List.length_filter_le _ _
    | succ i => exact hl.cnt i x (by simpa using h) q hq
theorem ways_len {sps : List Sp} (ho : ∀ (k : Nat) (p : Sp) (j : Nat), sps[k]? = some p → p.outer = some j → j < k) : ∀ {o : Option Nat} {t : Nat} {wl : List (Nat × Nat)}, Ways sps o t wl → ∀ k, o = some k → wl.length ≤ k + 1
  | _, _, _, .nil, k, h => by cases h
  | _, _, _, .cons (k := k) (p := p) (l := l) hp hl, k', h => by
    injection h with h
    subst h
    cases hpo : p.outer with
    | none =>
      rw [hpo] at hl
      cases hl
      simp
    | some j =>
      have h1 := ho k p j hp hpo
      have h2 := ways_len ho hl j hpo
      simp only [List.length_cons]
      omega
theorem gath_len {evs : List Ev} {f : St} (hr : ∀ (k : Nat) (p : Sp), f.sps[k]? = some p → p.reads.length ≤ 60000) (wl : List (Nat × Nat)) : ∀ i : Nat, (gath evs f wl i).length ≤ i * 60000 := by
  have key : ∀ l : List (Nat × Nat), (l.flatMap fun x => ((readsOf f x.1).take x.2).map (addrAt evs)).length ≤ l.length * 60000 := by
    intro l
    induction l with
    | nil => simp
    | cons x l ih =>
      rw [List.flatMap_cons, List.length_append, List.length_map, List.length_take, List.length_cons]
      have : (readsOf f x.1).length ≤ 60000 := by
        unfold readsOf
        cases hp : f.sps[x.1]? with
        | none => simp
        | some p => exact hr _ _ hp
      omega
  intro i
  have h1 := key (wl.take i)
  have h2 : (wl.take i).length ≤ i := List.length_take_le _ _
  exact Nat.le_trans h1 (Nat.mul_le_mul_right _ h2)
set_option maxHeartbeats 8000000 in
set_option maxRecDepth 100000 in
theorem direct_of (w0 w : World) (a : Option Addr) (n c L M : Nat) (wv : Value) (m : List (Int × Nat)) (rf : Nat → Value) (evs : List Ev) (f : St) (h : EvIn w a n evs) (hro : readOf evs = some f)
    (hm : RMem w0 w (.slice a n c) L M wv m rf f.sps f.within) (k b : Nat) (y : Int) (wl : List (Nat × Nat)) (hw : Ways f.sps (some k) evs.length wl) (hb : m[k]? = some (y, b)) :
    Calls Tryz.prog 65 #[.pointer (some ⟨L, 0, none⟩), .pointer (some ⟨b, 0, none⟩)] w fun e w' => ∃ v, e = .returned v ∧ w'.ownsRow w.heap.size 3 1 v (rise (gath evs f wl wl.length)).length (ints (rise (gath evs f wl wl.length))) ∧ Keeps w w' := by
  have HI := Lib.hid h
  have HM := Lib.hid hm
  have HO := Lib.hid hro
  have HW := Lib.hid hw
  have hfew := h.few
  obtain ⟨i3, hi3, hz3, hs3, hb3⟩ := info_parts info3
  have hb0 : wayPtr m wl 0 = .pointer (some ⟨b, 0, none⟩) := by
    obtain ⟨p0, _, hx0⟩ := hw.head
    simp [wayPtr, hx0, ptrOf, hb]
  have HB0 := Lib.hid hb0
  have hlL := heap_lt hm.hL
  obtain ⟨s0, st0, wr0, hr0, ha0⟩ := momRun hro evs.length (Nat.le_refl _)
  rw [List.take_length] at hr0
  obtain ⟨rfl, _⟩ := momEnd hro hr0 ha0
  have hrd : ∀ (k : Nat) (p : Sp), s0.sps[k]? = some p → p.reads.length ≤ 60000 := fun k p hp => by have h8 := ha0.ok.reads k p hp; have h9 := h.len; omega
  have HRd := Lib.hid hrd
  have HA0 := Lib.hid ha0
  have hwl : wl.length ≤ 60000 := by
    obtain ⟨p0, hp0, _⟩ := hw.head
    have h1 := ways_len ha0.ok.outer hw k rfl
    have h2 := (List.getElem?_eq_some_iff.1 hp0).1
    have h3 := ha0.ok.spsn
    have h9 := h.len
    omega
  have hgl : ∀ i, i ≤ wl.length → (gath evs s0 wl i).length ≤ 3600000000 := fun i hi => by have := gath_len (evs := evs) hrd wl i; omega
  have HGl := Lib.hid hgl
  clear hr0 ha0 hrd hgl
  clear h hm hro hw hb hb0
  refine (callsIn_wide (n := 0)).1 ?_
  refine callsIn_of_wp_marks Tryz.func65 rfl trivial ?_ rfl
  simp only [Tryz.ntmps65, List.size_toArray, List.length_cons, List.length_nil, Nat.reduceAdd, Nat.reduceSub, Array.replicate_succ, Array.replicate_zero, List.push_toArray, List.append_toArray, List.nil_append, List.cons_append]
  refine wpIn_wide.2 ?_
  go_wp2_with (go_at_call 95; refine (ways_of _ _).mono ?_; rintro _ w1 ⟨rfl, hw1⟩)
  clear hw1
  obtain ⟨W0, hW0⟩ : ∃ W0, W0 = ((w.alloc (.cells #[.pointer (some ⟨L, 0, none⟩)] 93)).alloc (.cells #[.slice none 0 0] 35)).alloc (.cells #[.pointer (some ⟨b, 0, none⟩)] 99) := ⟨_, rfl⟩
  have hd0 : DJ w w.heap.size (w.heap.size + 1) (w.heap.size + 1 + 1) L (gath evs s0 wl 0) (wayPtr m wl 0) W0 := by
    rw [hW0, HB0.out]
    have e1 : (w.alloc (.cells #[.pointer (some ⟨L, 0, none⟩)] 93)).heap.size = w.heap.size + 1 := World.size_alloc _ _
    have e2 : ((w.alloc (.cells #[.pointer (some ⟨L, 0, none⟩)] 93)).alloc (.cells #[.slice none 0 0] 35)).heap.size = w.heap.size + 1 + 1 := by rw [World.size_alloc, e1]
    refine ⟨Kept.alloc (Kept.alloc (Keeps.alloc _ _) _) _, ?_, heap_alloc_old _ (heap_alloc_old _ (heap_alloc_at _ _)), .slice none 0 0, heap_alloc_old _ ?_, World.ownsRow_nil _ _ _ _⟩
    · rw [← e2]; exact heap_alloc_at _ _
    · rw [← e1]; exact heap_alloc_at _ _
  have hsz0 : w.heap.size ≤ W0.heap.size := hd0.kept.size
  rw [← hW0]
  have HD0 := Lib.hid hd0
  clear hW0 hd0
  refine (wpIn_wide (n := 0)).1 ?_
  refine wpIn_rangeC (gf := 126) (lb := #[.pointer (some ⟨w.heap.size + 1 + 1, 0, none⟩)]) (by simp [go_sem]) (enters_of Tryz.func126 (by kernel_rfl) rfl) wl.length (fun i => #[wayPtr m wl i, warg wl i])
    (fun s i W => DJ w w.heap.size (w.heap.size + 1) (w.heap.size + 1 + 1) L (gath evs s0 wl i) s W) (fun _ => False) (w.heap.size + 1 + 1) (wayPtr m wl 0) (fun _ => rfl) (fun s i W o h => h.alloc o) (fun s i W h => h.drew) (fun s i W v h => h.box (by omega) v) (fun s i W h => ⟨_, _, _, h.hx⟩)
    (fun s i W b o o' h hb ho hc => h.putObj o' (by omega) ho hc) HD0.out ?_
    (fun i => { tmps := #[.pointer (some ⟨L, 0, none⟩), .pointer (some ⟨b, 0, none⟩), .pointer (some ⟨w.heap.size, 0, none⟩), undef, .slice none 0 0, .pointer (some ⟨w.heap.size + 1, 0, none⟩), wayPtr m wl i, warg wl i, undef, undef, .pointer (some ⟨b, 0, none⟩), .func (.func 126) #[] #[.pointer (some ⟨w.heap.size + 1 + 1, 0, none⟩)], wayPtr m wl i, warg wl i, undef, undef, undef, undef, undef, undef, undef, undef, undef, undef, undef, undef, undef, undef, undef, undef, undef, undef, undef, undef, undef, undef, undef, undef, undef], defers := [] }) ?assign ?body ?done
  case assign =>
    intro l' i W' K hK
    gi_wp2
    exact hK
  case done =>
    rintro s D W' hD hdj hK
    obtain ⟨v, hv1, hv2⟩ := hdj.row
    have c3 : W'.cell? ⟨w.heap.size + 1, 0, none⟩ = some v := by rw [cell_of_block hv1]; rfl
    have HR := Lib.hid (rising_of W' w.heap.size v _ hv2 (Nat.le_trans (HGl.out _ (Nat.le_refl _)) (by decide)))
    have HV2 := Lib.hid hv2
    have HKp := Lib.hid hdj.kept
    have HK := Lib.hid hK
    clear hv1 hv2 hdj hK
    go_wp2_with (go_at_call 69; refine HR.out.mono ?_; rintro _ w2 ⟨v2, rfl, hr2, hb2, hk2⟩; have HR2 := Lib.hid hr2; have HK2 := Lib.hid hk2; clear hr2 hk2 hb2)
    refine ⟨by simp, .inl ⟨_, _, rfl, run_takeDeferred (HK2.out.at HK.out (fun e => by obtain ⟨cur, hc⟩ := row_block HV2.out e; rw [HK.out] at hc; cases hc)), ?_⟩⟩
    refine ⟨_, results_tmp rfl _ _ _, v2, rfl, ?_, ?_⟩
    · exact ownsRow_putObj HR2.out (.deferred none) (HK2.out.at HK.out (fun e => by obtain ⟨cur, hc⟩ := row_block HV2.out e; rw [HK.out] at hc; cases hc)) rfl
    · have h1 : Keeps w w2 := Kept.trans HKp.out HK2.out (fun b hb e => by have := (HV2.out.lt b e).1; omega)
      have h2 := below_putObj (h1.below (B := w.heap.size) (Nat.le_refl _) (fun _ x => x.elim)) (Nat.le_trans hsz0 hD) (.deferred none)
      exact ⟨h2.os, h2.tape, h2.output, h2.size, fun k hk _ => h2.block k hk⟩
  · intro l' J' W' hJJ h0' hl hW ha hd hs hp hY'
    have hdN : ∀ s i W'' q, J' s i W'' → J' s i (W''.drewN q) := by
      intro s i W'' q hj
      induction q with
      | zero => exact hj
      | succ q ih => exact hd _ _ _ ih
    exact ways1_in 0 l' (w.heap.size + 1 + 1) HM.out (fun k p hp => ⟨(HA0.out.rds k p hp).1, HRd.out k p hp⟩) HA0.out.ok.outer k evs.length wl HW.out (fun p hp => (HA0.out.rds k p hp).2) J' (KeepNC (fun b => False ∨ b = l')) W'
      (fun s i W'' hJ' => ⟨(hJJ s i W'' hJ').kept, (hJJ s i W'' hJ').hx⟩) hdN hs h0' (fun s i W1 x hx hJ' => by
        have := hY' s i W1 (List.getElem?_eq_some_iff.1 hx).1 hJ'
        simp only [warg_at hx] at this
        exact this)
  case body =>
    intro s l' i rec W' hi' hl' hrec hL' hD hdj
    obtain ⟨x, hx⟩ : ∃ x, wl[i]? = some x := ⟨wl[i], List.getElem?_eq_getElem hi'⟩
    obtain ⟨p, hp, _⟩ := HW.out.step i x hx
    obtain ⟨b', hbp, hmb, hspan⟩ := way_at HM.out hx hp
    rw [hbp, warg_at hx]
    obtain ⟨pp, cc, hrf, hlc, hcm, hcells⟩ := row_form (HM.out.rows x.1 p hp)
    have hx2 : x.2 ≤ p.reads.length := HW.out.cnt i x hx p hp
    have hsp := hdj.kept.at hspan (fun x => x)
    have e3 := cell_of_block hsp 3
    simp at e3
    rw [hrf] at e3
    have k4 : (x.2 : Int) ≤ cc := by omega
    have k5 : (0 : Int) ≤ x.2 := by omega
    have hcm3 : cc ≤ 9223372036854775807 := hcm
    have hrd : readsOf s0 x.1 = p.reads := by unfold readsOf; rw [hp]
    have hpl := HRd.out x.1 p hp
    have HDj := Lib.hid hdj
    have HLp := Lib.hid hL'
    have HD := Lib.hid hD
    have Hrec := Lib.hid hrec
    have HP := Lib.hid hp
    have HX := Lib.hid hx
    have HCe := Lib.hid hcells
    have HRe := Lib.hid hrd
    clear hx hp hbp hmb hspan hrf hlc hcells hsp hdj hL' hD hrec hrd hcm
    gi_wp2
    gi_loopw [21] (fun q wr => ∃ j : Nat, j ≤ x.2 ∧ q = .int .i64 j ∧ DJ w w.heap.size (w.heap.size + 1) (w.heap.size + 1 + 1) L (gath evs s0 wl i ++ (p.reads.take j).map (addrAt evs)) s wr ∧ KeepNC (fun _ => False) W' wr) (fun q _ => x.2 - (intOf q).toNat)
    case atStart => exact ⟨0, Nat.zero_le _, rfl, by simpa using HDj.out, KeepNC.refl _ _⟩
    case round =>
      obtain ⟨j, hj, rfl, hdj, hnc⟩ := hrel
      have HDw := Lib.hid hdj
      have HNc := Lib.hid hnc
      clear hdj hnc
      by_cases hjx : j < x.2
      · obtain ⟨r, hr⟩ : ∃ r, p.reads[j]? = some r := ⟨p.reads[j]'(by omega), List.getElem?_eq_getElem _⟩
        obtain ⟨g, rfl, hgc⟩ := HCe.out j r hr
        have hgc2 := cell_keeps HDw.out.kept hgc
        have hgl2 := World.block_lt_of_cell? _ _ hgc2
        have k6 : (j : Int) < x.2 := by omega
        have k7 : (0 : Int) ≤ j := by omega
        have HRr := Lib.hid hr
        clear hr hgc
        gi_wp2
        obtain ⟨e, he⟩ : ∃ e, evs[r]? = some e := by
          have := (HA0.out.rds x.1 p HP.out).2 r (List.mem_of_getElem? HRr.out)
          exact ⟨evs[r], List.getElem?_eq_getElem _⟩
        obtain ⟨eb, eo, rfl, hlt, _, _, c2w, _, _, _, _, _⟩ := HI.out.ev.cells he
        have c2 := cell_keeps HDw.out.kept c2w
        have hrn : (r : Int) < n := by
          have := (List.getElem?_eq_some_iff.1 he).1
          have := HI.out.len
          omega
        have hr0 : (0 : Int) ≤ r := by omega
        have hL0 := cell_of_block (HDw.out.kept.at HM.out.hL (fun x => x)) 0
        simp at hL0
        have hbl := cell_of_block HDw.out.hl 0
        simp at hbl
        have hea : addrAt evs r = e.addr := by unfold addrAt; rw [he]
        have HE := Lib.hid he
        have HEa := Lib.hid hea
        obtain ⟨G, hG⟩ : ∃ G, G = gath evs s0 wl i ++ (p.reads.take j).map (addrAt evs) := ⟨_, rfl⟩
        rw [← hG] at HDw
        have hGl : G.length ≤ 3600060000 := by
          rw [hG, List.length_append, List.length_map, List.length_take]
          have h1 := HGl.out i (Nat.le_of_lt hi')
          omega
        obtain ⟨v, hv1, hv2⟩ := HDw.out.row
        obtain ⟨pv, cv, rfl⟩ := row_slice hv2
        have hnt : ∀ k (cc : Array Value) (t : TypeId), wr.heap[k]? = some (.cells cc t (0, 0)) → t ≠ 3 → some k ≠ (Value.slice pv G.length cv).ownBlock := by
          intro k cc t hk ht e
          obtain ⟨cur, hc⟩ := row_block hv2 e.symm
          rw [hk] at hc
          simp at hc
          exact ht hc.2
        have hno : ∀ k, k < w.heap.size → some k ≠ (Value.slice pv G.length cv).ownBlock := fun k hk e => by have := (hv2.lt k e.symm).1; omega
        have m1 := hnt _ _ _ HDw.out.hl (by decide)
        have m2 := hno L hlL
        have m3 := hno eb hlt
        have m4 := hnt _ _ _ hv1 (by decide)
        have l1 := heap_lt HDw.out.hl
        have l2 : L < wr.heap.size := Nat.lt_of_lt_of_le hlL HDw.out.kept.size
        have l3 : eb < wr.heap.size := Nat.lt_of_lt_of_le hlt HDw.out.kept.size
        have l5 := heap_lt hv1
        have N1 := Lib.hid m1
        have N2 := Lib.hid m2
        have N3 := Lib.hid m3
        have N4 := Lib.hid m4
        have HG := Lib.hid hG
        clear hG hnt hno m1 m2 m3 m4
        have hBv := cell_of_block hv1 0
        have hBf := free_of_block hv1 0
        simp at hBv
        have HV1 := Lib.hid hv1
        have HV2 := Lib.hid hv2
        clear he hea c2w hv1 hv2
        refine region_round (by kernel_rfl) (noDefer_spec (by kernel_rfl)) ?_ ?_
        · rintro ⟨a2, w2, h2⟩
          exact h2
        have hS : (fun W2 : World => W2.cell? ⟨w.heap.size, 0, none⟩ = some (.pointer (some ⟨L, 0, none⟩)) ∧ W2.cell? ⟨L, 0, none⟩ = some (.slice (some ⟨eb, eo, none⟩) n c) ∧ W2.cell? ⟨eb, eo + r * 8 + 2, none⟩ = some (.int .i64 e.addr)) wr.drew := ⟨hbl, hL0, c2⟩
        refine wpAny_of_held (S := fun W2 : World => W2.cell? ⟨w.heap.size, 0, none⟩ = some (.pointer (some ⟨L, 0, none⟩)) ∧ W2.cell? ⟨L, 0, none⟩ = some (.slice (some ⟨eb, eo, none⟩) n c) ∧ W2.cell? ⟨eb, eo + r * 8 + 2, none⟩ = some (.int .i64 e.addr)) _ _ _ _ ?_
        refine wpAnyH_take (i := 1) (oi := { dst := some 26, op := Op.load 93 (Operand.tmp 2), type := 93, pos := "list.go:118", after := #[], guard := none }) (v := .pointer (some ⟨L, 0, none⟩)) rfl (by kernel_rfl) (by kernel_rfl) (by kernel_rfl) (fun _ _ _ h => h) (Or.inl ⟨by rfl, fun W2 hW2 => ?_⟩) hS ?_
        · (obtain ⟨q1, q2, q3⟩ := hW2; go_simp)
        simp only [Act.put, List.setIfInBounds_toArray, List.set_cons_zero, List.set_cons_succ]
        refine wpAnyH_take (i := 2) (oi := { dst := some 27, op := Op.nilCheck (Operand.tmp 26), type := 0, pos := "list.go:118", after := #[{ on := 1, ground := Ground.data }], guard := none }) (v := .pointer (some ⟨L, 0, none⟩)) rfl (by kernel_rfl) (by kernel_rfl) (by kernel_rfl) (fun _ _ _ h => h) (Or.inl ⟨by rfl, fun W2 hW2 => ?_⟩) hS ?_
        · (obtain ⟨q1, q2, q3⟩ := hW2; go_simp)
        simp only [Act.put, List.setIfInBounds_toArray, List.set_cons_zero, List.set_cons_succ]
        refine wpAnyH_take (i := 3) (oi := { dst := some 28, op := Op.fieldAddr 130 (Operand.tmp 27) 0, type := 0, pos := "list.go:118", after := #[{ on := 2, ground := Ground.data }], guard := none }) (v := .pointer (some ⟨L, 0, none⟩)) rfl (by kernel_rfl) (by kernel_rfl) (by kernel_rfl) (fun _ _ _ h => h) (Or.inl ⟨by rfl, fun W2 hW2 => ?_⟩) hS ?_
        · (obtain ⟨q1, q2, q3⟩ := hW2; go_simp)
        simp only [Act.put, List.setIfInBounds_toArray, List.set_cons_zero, List.set_cons_succ]
        refine wpAnyH_take (i := 4) (oi := { dst := some 29, op := Op.load 22 (Operand.tmp 28), type := 22, pos := "list.go:118", after := #[{ on := 3, ground := Ground.data }], guard := none }) (v := .slice (some ⟨eb, eo, none⟩) n c) rfl (by kernel_rfl) (by kernel_rfl) (by kernel_rfl) (fun _ _ _ h => h) (Or.inl ⟨by rfl, fun W2 hW2 => ?_⟩) hS ?_
        · (obtain ⟨q1, q2, q3⟩ := hW2; go_simp)
        simp only [Act.put, List.setIfInBounds_toArray, List.set_cons_zero, List.set_cons_succ]
        refine wpAnyH_take (i := 5) (oi := { dst := some 30, op := Op.move (Operand.tmp 9), type := 3, pos := "list.go:118", after := #[], guard := none }) (v := .int .i64 r) rfl (by kernel_rfl) (by kernel_rfl) (by kernel_rfl) (fun _ _ _ h => h) (Or.inl ⟨by rfl, fun W2 hW2 => ?_⟩) hS ?_
        · (obtain ⟨q1, q2, q3⟩ := hW2; go_simp)
        simp only [Act.put, List.setIfInBounds_toArray, List.set_cons_zero, List.set_cons_succ]
        refine wpAnyH_take (i := 6) (oi := { dst := some 31, op := Op.indexAddr 22 (Operand.tmp 29) (Operand.tmp 30), type := 0, pos := "list.go:118", after := #[{ on := 4, ground := Ground.data }, { on := 5, ground := Ground.data }], guard := none }) (v := .pointer (some ⟨eb, eo + r * 8, none⟩)) rfl (by kernel_rfl) (by kernel_rfl) (by kernel_rfl) (fun _ _ _ h => h) (Or.inl ⟨by rfl, fun W2 hW2 => ?_⟩) hS ?_
        · (obtain ⟨q1, q2, q3⟩ := hW2; go_simp)
        simp only [Act.put, List.setIfInBounds_toArray, List.set_cons_zero, List.set_cons_succ]
        refine wpAnyH_take (i := 7) (oi := { dst := some 32, op := Op.fieldAddr 98 (Operand.tmp 31) 2, type := 0, pos := "list.go:118", after := #[{ on := 6, ground := Ground.data }], guard := none }) (v := .pointer (some ⟨eb, eo + r * 8 + 2, none⟩)) rfl (by kernel_rfl) (by kernel_rfl) (by kernel_rfl) (fun _ _ _ h => h) (Or.inl ⟨by rfl, fun W2 hW2 => ?_⟩) hS ?_
        · (obtain ⟨q1, q2, q3⟩ := hW2; go_simp)
        simp only [Act.put, List.setIfInBounds_toArray, List.set_cons_zero, List.set_cons_succ]
        refine wpAnyH_take (i := 8) (oi := { dst := some 33, op := Op.load 3 (Operand.tmp 32), type := 3, pos := "list.go:118", after := #[{ on := 7, ground := Ground.data }], guard := none }) (v := .int .i64 e.addr) rfl (by kernel_rfl) (by kernel_rfl) (by kernel_rfl) (fun _ _ _ h => h) (Or.inl ⟨by rfl, fun W2 hW2 => ?_⟩) hS ?_
        · (obtain ⟨q1, q2, q3⟩ := hW2; go_simp)
        simp only [Act.put, List.setIfInBounds_toArray, List.set_cons_zero, List.set_cons_succ]
        have hSa : (fun W2 : World => W2.cell? ⟨w.heap.size, 0, none⟩ = some (.pointer (some ⟨L, 0, none⟩)) ∧ W2.cell? ⟨L, 0, none⟩ = some (.slice (some ⟨eb, eo, none⟩) n c) ∧ W2.cell? ⟨eb, eo + r * 8 + 2, none⟩ = some (.int .i64 e.addr)) (wr.alloc (.cells #[.int .i64 e.addr] 3)).drew :=
          ⟨cell_keeps (Keeps.alloc wr (.cells #[.int .i64 e.addr] 3)) hbl, cell_keeps (Keeps.alloc wr (.cells #[.int .i64 e.addr] 3)) hL0, cell_keeps (Keeps.alloc wr (.cells #[.int .i64 e.addr] 3)) c2⟩
        refine wpAnyH_ready (rs := [0, 9]) (by kernel_rfl) (by simp) ?_
        refine AllReadyH.cons (o := { dst := some 25, op := Op.load 35 (Operand.tmp 5), type := 35, pos := "list.go:118", after := #[], guard := none }) rfl (fun K hK => ?_) (AllReadyH.cons (o := { dst := some 34, op := Op.buildSlice 35 1 #[(0, Operand.tmp 33)], type := 35, pos := "list.go:118", after := #[{ on := 8, ground := Ground.data }], guard := none }) rfl (fun K hK => ?_) AllReadyH.nil)
        · go_simp
          refine hK.out _ _ hS (fun _ => ?_)
          clear hK K
          try simp only [Act.put, List.setIfInBounds_toArray, List.set_cons_zero, List.set_cons_succ]
          refine wpAnyH_ready (rs := [9]) (by kernel_rfl) (by simp) ?_
          refine AllReadyH.cons (o := { dst := some 34, op := Op.buildSlice 35 1 #[(0, Operand.tmp 33)], type := 35, pos := "list.go:118", after := #[{ on := 8, ground := Ground.data }], guard := none }) rfl (fun K hK => ?_) AllReadyH.nil
          go_simp
          refine hK.out _ _ hSa (fun _ => ?_)
          clear hK K
          try simp only [Act.put, List.setIfInBounds_toArray, List.set_cons_zero, List.set_cons_succ]
          refine wpAnyH_ready (rs := [10]) (by kernel_rfl) (by simp) ?_
          refine AllReadyH.cons (o := { dst := some 35, op := Op.call { callee := Callee.builtin Builtin.append, args := #[Operand.tmp 25, Operand.tmp 34], argTypes := #[35, 35] }, type := 35, pos := "list.go:118", after := #[{ on := 0, ground := Ground.data }, { on := 9, ground := Ground.data }], guard := none }) rfl (fun K hK => ?_) AllReadyH.nil
          refine step_append_lies _ (by rfl) _ _ _ (by rfl) w.heap.size 3 i3 (.int .i64 0) 1 8 under35 hi3 hz3 hs3 hb3 rfl (by decide) (.slice pv G.length cv) G.length (ints G) (by rfl) ((HV2.out.alloc _).drew) ⟨wr.heap.size, 0, none⟩ 1 1 [.int .i64 e.addr] (by rfl) (by rfl) (World.news_of_block (cs := #[.int .i64 e.addr]) (t := 3) (fr := (0, 0)) (heap_alloc_new wr _)) (by simp [Value.oneCell']) (by omega) (by unfold maxLen; omega) (by omega) (by have h9 := HDw.out.kept.size; simp; omega) (wr.heap.size + 1) (by simp) ?_
          intro g1 cap1 w1 hown hgrow hat hlt1
          have z1 : w1.cell? ⟨w.heap.size, 0, none⟩ = some (.pointer (some ⟨L, 0, none⟩)) := (hgrow.cell_far _ (by simp; omega) N1.out).trans hSa.1
          have z2 : w1.cell? ⟨L, 0, none⟩ = some (.slice (some ⟨eb, eo, none⟩) n c) := (hgrow.cell_far _ (by simp; omega) N2.out).trans hSa.2.1
          have z3 : w1.cell? ⟨eb, eo + r * 8 + 2, none⟩ = some (.int .i64 e.addr) := (hgrow.cell_far _ (by simp; omega) N3.out).trans hSa.2.2
          have z4 : w1.cell? ⟨w.heap.size + 1, 0, none⟩ = some (.slice pv G.length cv) := (hgrow.cell_far _ (by simp; omega) N4.out).trans (cell_keeps (Keeps.alloc wr (.cells #[.int .i64 e.addr] 3)) hBv)
          have z5 : w1.frozen? ⟨w.heap.size + 1, 0, none⟩ = false := (hgrow.frozen_far _ (by simp; omega) N4.out).trans (free_of_block (heap_alloc_old (.cells #[.int .i64 e.addr] 3) HV1.out) 0)
          obtain ⟨hD1, hN1⟩ := HDw.out.put (Nat.le_succ _) (o := .cells #[.int .i64 e.addr] 3) HV1.out HV2.out ⟨hgrow.os, hgrow.tape, hgrow.output, hgrow.size, hgrow.block⟩ hown
          have HD1 := Lib.hid hD1
          have HN1 := Lib.hid hN1
          clear hD1 hN1 hown hgrow hat hlt1
          refine hK.out _ _ ⟨z1, z2, z3⟩ (fun _ => ?_)
          clear hK K
          try simp only [Act.put, List.setIfInBounds_toArray, List.set_cons_zero, List.set_cons_succ]
          refine wpAnyH_ready (rs := [11]) (by kernel_rfl) (by simp) ?_
          refine AllReadyH.cons (o := { dst := none, op := Op.store 35 (Operand.tmp 5) (Operand.tmp 35), type := 0, pos := "list.go:118", after := #[{ on := 10, ground := Ground.data }, { on := 10, ground := Ground.chain }, { on := 0, ground := Ground.phase }, { on := 1, ground := Ground.phase }, { on := 2, ground := Ground.phase }, { on := 3, ground := Ground.phase }, { on := 4, ground := Ground.phase }, { on := 5, ground := Ground.phase }, { on := 6, ground := Ground.phase }, { on := 7, ground := Ground.phase }, { on := 8, ground := Ground.phase }, { on := 9, ground := Ground.phase }, { on := 10, ground := Ground.phase }], guard := none }) rfl (fun K hK => ?_) AllReadyH.nil
          go_simp
          refine hK.out _ _ ⟨?_, ?_, ?_⟩ (fun _ => ?_)
          · show (w1.setCell ⟨w.heap.size + 1, 0, none⟩ _).cell? _ = _
            rw [World.cell?_setCell_far _ _ _ _ (by simp)]; exact z1
          · show (w1.setCell ⟨w.heap.size + 1, 0, none⟩ _).cell? _ = _
            rw [World.cell?_setCell_far _ _ _ _ (by simp; omega)]; exact z2
          · show (w1.setCell ⟨w.heap.size + 1, 0, none⟩ _).cell? _ = _
            rw [World.cell?_setCell_far _ _ _ _ (by simp; omega)]; exact z3
          clear hK K
          refine wpAnyH_done (by kernel_rfl) ?_ _
          try simp only [Act.put, List.setIfInBounds_toArray, List.set_cons_zero, List.set_cons_succ]
          gi_wp2
          go_roundw
          case rel =>
            refine ⟨j + 1, by omega, by go_num, ?_, HNc.out.trans HN1.out⟩
            have h8 : gath evs s0 wl i ++ (p.reads.take (j + 1)).map (addrAt evs) = G ++ [e.addr] := by
              obtain ⟨h1, h2⟩ := List.getElem?_eq_some_iff.1 HRr.out
              rw [List.take_succ_eq_append_getElem h1, h2, List.map_append, HG.out, ← HEa.out, List.append_assoc]; rfl
            rw [h8]; exact HD1.out
          case measure => simp [intOf] <;> omega
        · go_simp
          refine hK.out _ _ hSa (fun _ => ?_)
          clear hK K
          try simp only [Act.put, List.setIfInBounds_toArray, List.set_cons_zero, List.set_cons_succ]
          refine wpAnyH_ready (rs := [0]) (by kernel_rfl) (by simp) ?_
          refine AllReadyH.cons (o := { dst := some 25, op := Op.load 35 (Operand.tmp 5), type := 35, pos := "list.go:118", after := #[], guard := none }) rfl (fun K hK => ?_) AllReadyH.nil
          go_simp
          refine hK.out _ _ hSa (fun _ => ?_)
          clear hK K
          try simp only [Act.put, List.setIfInBounds_toArray, List.set_cons_zero, List.set_cons_succ]
          refine wpAnyH_ready (rs := [10]) (by kernel_rfl) (by simp) ?_
          refine AllReadyH.cons (o := { dst := some 35, op := Op.call { callee := Callee.builtin Builtin.append, args := #[Operand.tmp 25, Operand.tmp 34], argTypes := #[35, 35] }, type := 35, pos := "list.go:118", after := #[{ on := 0, ground := Ground.data }, { on := 9, ground := Ground.data }], guard := none }) rfl (fun K hK => ?_) AllReadyH.nil
          refine step_append_lies _ (by rfl) _ _ _ (by rfl) w.heap.size 3 i3 (.int .i64 0) 1 8 under35 hi3 hz3 hs3 hb3 rfl (by decide) (.slice pv G.length cv) G.length (ints G) (by rfl) ((HV2.out.alloc _).drew) ⟨wr.heap.size, 0, none⟩ 1 1 [.int .i64 e.addr] (by rfl) (by rfl) (World.news_of_block (cs := #[.int .i64 e.addr]) (t := 3) (fr := (0, 0)) (heap_alloc_new wr _)) (by simp [Value.oneCell']) (by omega) (by unfold maxLen; omega) (by omega) (by have h9 := HDw.out.kept.size; simp; omega) (wr.heap.size + 1) (by simp) ?_
          intro g1 cap1 w1 hown hgrow hat hlt1
          have z1 : w1.cell? ⟨w.heap.size, 0, none⟩ = some (.pointer (some ⟨L, 0, none⟩)) := (hgrow.cell_far _ (by simp; omega) N1.out).trans hSa.1
          have z2 : w1.cell? ⟨L, 0, none⟩ = some (.slice (some ⟨eb, eo, none⟩) n c) := (hgrow.cell_far _ (by simp; omega) N2.out).trans hSa.2.1
          have z3 : w1.cell? ⟨eb, eo + r * 8 + 2, none⟩ = some (.int .i64 e.addr) := (hgrow.cell_far _ (by simp; omega) N3.out).trans hSa.2.2
          have z4 : w1.cell? ⟨w.heap.size + 1, 0, none⟩ = some (.slice pv G.length cv) := (hgrow.cell_far _ (by simp; omega) N4.out).trans (cell_keeps (Keeps.alloc wr (.cells #[.int .i64 e.addr] 3)) hBv)
          have z5 : w1.frozen? ⟨w.heap.size + 1, 0, none⟩ = false := (hgrow.frozen_far _ (by simp; omega) N4.out).trans (free_of_block (heap_alloc_old (.cells #[.int .i64 e.addr] 3) HV1.out) 0)
          obtain ⟨hD1, hN1⟩ := HDw.out.put (Nat.le_succ _) (o := .cells #[.int .i64 e.addr] 3) HV1.out HV2.out ⟨hgrow.os, hgrow.tape, hgrow.output, hgrow.size, hgrow.block⟩ hown
          have HD1 := Lib.hid hD1
          have HN1 := Lib.hid hN1
          clear hD1 hN1 hown hgrow hat hlt1
          refine hK.out _ _ ⟨z1, z2, z3⟩ (fun _ => ?_)
          clear hK K
          try simp only [Act.put, List.setIfInBounds_toArray, List.set_cons_zero, List.set_cons_succ]
          refine wpAnyH_ready (rs := [11]) (by kernel_rfl) (by simp) ?_
          refine AllReadyH.cons (o := { dst := none, op := Op.store 35 (Operand.tmp 5) (Operand.tmp 35), type := 0, pos := "list.go:118", after := #[{ on := 10, ground := Ground.data }, { on := 10, ground := Ground.chain }, { on := 0, ground := Ground.phase }, { on := 1, ground := Ground.phase }, { on := 2, ground := Ground.phase }, { on := 3, ground := Ground.phase }, { on := 4, ground := Ground.phase }, { on := 5, ground := Ground.phase }, { on := 6, ground := Ground.phase }, { on := 7, ground := Ground.phase }, { on := 8, ground := Ground.phase }, { on := 9, ground := Ground.phase }, { on := 10, ground := Ground.phase }], guard := none }) rfl (fun K hK => ?_) AllReadyH.nil
          go_simp
          refine hK.out _ _ ⟨?_, ?_, ?_⟩ (fun _ => ?_)
          · show (w1.setCell ⟨w.heap.size + 1, 0, none⟩ _).cell? _ = _
            rw [World.cell?_setCell_far _ _ _ _ (by simp)]; exact z1
          · show (w1.setCell ⟨w.heap.size + 1, 0, none⟩ _).cell? _ = _
            rw [World.cell?_setCell_far _ _ _ _ (by simp; omega)]; exact z2
          · show (w1.setCell ⟨w.heap.size + 1, 0, none⟩ _).cell? _ = _
            rw [World.cell?_setCell_far _ _ _ _ (by simp; omega)]; exact z3
          clear hK K
          refine wpAnyH_done (by kernel_rfl) ?_ _
          try simp only [Act.put, List.setIfInBounds_toArray, List.set_cons_zero, List.set_cons_succ]
          gi_wp2
          go_roundw
          case rel =>
            refine ⟨j + 1, by omega, by go_num, ?_, HNc.out.trans HN1.out⟩
            have h8 : gath evs s0 wl i ++ (p.reads.take (j + 1)).map (addrAt evs) = G ++ [e.addr] := by
              obtain ⟨h1, h2⟩ := List.getElem?_eq_some_iff.1 HRr.out
              rw [List.take_succ_eq_append_getElem h1, h2, List.map_append, HG.out, ← HEa.out, List.append_assoc]; rfl
            rw [h8]; exact HD1.out
          case measure => simp [intOf] <;> omega
      · obtain rfl : j = x.2 := by omega
        gi_wp2
        refine ⟨HNc.out.same _ _ (fun h => h) HLp.out rfl, by rw [Hrec.out]; exact HNc.out.same _ _ (fun h => h) HD.out rfl, HNc.out, ?_⟩
        rw [gath_succ HX.out, HRe.out]
        exact HDw.out
end Go.Proofs.YtbhiaeciiphelaaGreatDoor
