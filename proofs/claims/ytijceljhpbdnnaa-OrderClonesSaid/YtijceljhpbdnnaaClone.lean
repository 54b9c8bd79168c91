/-
  Clone over a whole order. Condition: Inv, the order as it lies in memory.
-/
import Derived.Test.YtijceljhpbdnnaaCloneB
import Derived.Test.YtijceljhpbdnnaaStamps
import Derived.Deep.RegionHeld3
import Derived.Deep.WholeRow
import Derived.Deep.DeepCutAuto
namespace Go.Proofs.Ytijceljhpbdnnaa
open Go.RowKit Go.Shelf
attribute [local go_sem] Oper.semAt_some

theorem info67 : (Try.prog.info? 67).map (fun i => (i.zero, i.size, i.bytes)) = some (some (.pointer none), 1, 8) := by kernel_rfl
theorem size71 : (Try.prog.info? 71).map (·.size) = some 36 := by kernel_rfl
theorem wpListIn_load_row {F : Fence} {n : Nat} {P : Program} {w : World} {ops : Array Oper} {rest : List Oper} {o : Oper} {a : Act} {Q : Exit → Act → World → Prop} (hgd : o.guard = none) (ty : TypeId) (x : Operand) (ho : o.op = .load ty x)
    (g : Nat) (hx : a.eval x = .pointer (some ⟨g, 0, none⟩)) (t : TypeId) (cs : Array Value) (fr : Nat × Nat) (d : TypeDesc) (hg : w.heap[g]? = some (.cells cs t fr))
    (hu : P.underlying ty = some d) (hd : (match d with | .struct _ | .array _ _ => true | _ => false) = true) (hi : (P.info? ty).map (·.size) = some cs.size)
    (h : wpListIn F n P ops Q rest (a.put o.dst (.agg cs)) w) : wpListIn F n P ops Q (o :: rest) a w := by
  refine wpListIn_plain hgd fun K hK => ?_
  unfold Oper.wpIn
  refine ⟨?_, ?_⟩
  · intro f hf; simp [Oper.about, ho] at hf
  · rw [Oper.semAt_plain F _ _ (by rw [ho]; intro c hc; cases hc)]
    unfold execOp
    simp only [ho, hx, Instr.loadAt, Instr.sureAddr, Sem.run_bind, Sem.run_pure, Result.andThen_ok, run_loadVar_row w g t ty cs fr d hg hu hd hi]
    exact hK _ _ h
theorem wpListIn_store_row {F : Fence} {n : Nat} {P : Program} {w : World} {ops : Array Oper} {rest : List Oper} {o : Oper} {a : Act} {Q : Exit → Act → World → Prop} (hgd : o.guard = none) (ty : TypeId) (x y : Operand) (ho : o.op = .store ty x y)
    (g : Nat) (cells : Array Value) (hx : a.eval x = .pointer (some ⟨g, 0, none⟩)) (hy : a.eval y = .agg cells)
    (t : TypeId) (old : Array Value) (hg : w.heap[g]? = some (.cells old t (0, 0))) (hi : (P.info? ty).map (·.size) = some cells.size)
    (hold : old.size = cells.size) (h1 : cells.all (·.oneCell') = true)
    (h : wpListIn F n P ops Q rest (a.put o.dst undef) (w.setRow g cells)) : wpListIn F n P ops Q (o :: rest) a w := by
  refine wpListIn_plain hgd fun K hK => ?_
  unfold Oper.wpIn
  refine ⟨?_, ?_⟩
  · intro f hf; simp [Oper.about, ho] at hf
  · rw [Oper.semAt_plain F _ _ (by rw [ho]; intro c hc; cases hc)]
    unfold execOp
    simp only [ho, hx, hy, Instr.storeAt, Instr.sureAddr, Sem.run_bind, Sem.run_pure, Result.andThen_ok, run_storeVar_row w g t ty old cells hg hi hold h1]
    exact hK _ _ h
theorem wpListIn_store_new {F : Fence} {n : Nat} {P : Program} {W : World} {ops : Array Oper} {rest : List Oper} {o : Oper} {a : Act} {Q : Exit → Act → World → Prop} (hgd : o.guard = none) (ty : TypeId) (x y : Operand) (ho : o.op = .store ty x y)
    (cells : Array Value) (t : TypeId) (old : Array Value) (hx : a.eval x = .pointer (some ⟨W.heap.size, 0, none⟩)) (hy : a.eval y = .agg cells) (hi : (P.info? ty).map (·.size) = some cells.size)
    (hold : old.size = cells.size) (h1 : cells.all (·.oneCell') = true)
    (h : ∀ W1, Kept (fun _ => False) W W1 → W1.heap[W.heap.size]? = some (.cells cells t) → wpListIn F n P ops Q rest (a.put o.dst undef) W1) : wpListIn F n P ops Q (o :: rest) a (W.alloc (.cells old t)) := by
  refine wpListIn_store_row hgd ty x y ho W.heap.size cells hx hy t old (heap_alloc_at _ _) hi hold h1 (h _ ?_ (setRow_heap _ _ old cells t (0, 0) (heap_alloc_at _ _)))
  refine ⟨rfl, rfl, rfl, by simp [World.setRow], fun k hk _ => ?_⟩
  rw [setRow_other _ _ _ _ (by omega)]
  exact _root_.Go.heap_alloc_old _ _ hk
theorem made_ptab (n : Nat) : (.cells (madeCells (Value.pointer none).cells (n * 1)) 67 : Obj) = ptab (List.replicate n none) := by
  unfold ptab
  congr 1
  apply Array.ext
  · simp [size_madeCells]
  · intro i h1 h2
    simp [madeCells, Value.cells, Nat.mod_one]
theorem make_table (n : Nat) (hn : n ≤ 100000) (W : World) : (Instr.makeSlice 64 (.int .i64 (n : Int)) (.int .i64 (n : Int))).run Try.prog W = .ok (.slice (some ⟨W.heap.size, 0, none⟩) n n) (W.alloc (ptab (List.replicate n none))) := by
  obtain ⟨i0, hi, hz0, hz1, hz2⟩ := info_parts info67
  have := run_make (P := Try.prog) W 64 67 i0 (.pointer none) elem64 hi hz0 .i64 .i64 n n (by omega) (Int.le_refl _) (by rw [hz2]; omega) (by omega)
  rw [hz1, Int.toNat_natCast, made_ptab] at this
  exact this
theorem cell_kept {w w' : World} {a : Addr} {v : Value} (h : w.cell? a = some v) (hK : Kept (fun _ => False) w w') : w'.cell? a = some v := by
  rw [World.cell?_of_block (hK.block a.block ?_ (fun x => x))]
  · exact h
  · rcases Nat.lt_or_ge a.block w.heap.size with hlt | hge
    · exact hlt
    · simp only [World.cell?] at h
      rw [Array.getElem?_eq_none hge] at h
      cases h
theorem gs_split' {O : Ord} {p : Nat} {g : Grp} (h : O.gs[p]? = some g) : O.gs = O.gs.take p ++ g :: O.gs.drop (p + 1) := by
  obtain ⟨hj, e⟩ := List.getElem?_eq_some_iff.1 h
  rw [← e, ← List.drop_eq_getElem_cons hj, List.take_append_drop]
theorem group_ones {arr : List Value} (h : ∀ v, v ∈ arr → v.oneCell' = true) (tag n : Nat) (pv nx : Option Nat) : (groupCells tag n arr pv nx).all (·.oneCell') = true := by
  unfold groupCells
  refine Array.all_eq_true_iff_forall_mem.2 (fun v hv => ?_)
  simp only [List.mem_toArray, List.mem_cons, List.mem_append, List.not_mem_nil, or_false] at hv
  rcases hv with rfl | rfl | hv | rfl | rfl
  · rfl
  · rfl
  · exact h v hv
  · rfl
  · rfl
theorem InAt.drew {w W wr : World} {O : Ord} {T : Trio} {hb k : Nat} {cs : List Grp} {g : Grp} {xs : List Stp} (h : InAt w O T cs g W hb k xs wr) : InAt w O T cs g W hb k xs wr.drew :=
  ⟨h.len, h.looks, h.grp, h.st, h.tab, h.nodup, h.new, h.kept.drew⟩
theorem InAt.drewN {w W wr : World} {O : Ord} {T : Trio} {hb k : Nat} {cs : List Grp} {g : Grp} {xs : List Stp} (h : InAt w O T cs g W hb k xs wr) (m : Nat) : InAt w O T cs g W hb k xs (wr.drewN m) :=
  ⟨h.len, h.looks, h.grp, h.st, h.tab, h.nodup, h.new, h.kept.drewN m⟩
theorem cell_kept2 {S : Nat → Prop} {w w' : World} {a : Addr} {v : Value} (h : w.cell? a = some v) (hK : Kept S w w') (hS : ¬ S a.block) : w'.cell? a = some v := by
  rw [World.cell?_of_block (hK.block a.block ?_ hS)]
  · exact h
  · rcases Nat.lt_or_ge a.block w.heap.size with hlt | hge
    · exact hlt
    · simp only [World.cell?] at h
      rw [Array.getElem?_eq_none hge] at h
      cases h
theorem CAt.soft {w W : World} {O : Ord} {T : Trio} {i : Nat} {cs : List Grp} (h : CAt w O T i cs W) : ∀ b, cset w T cs b → ∀ o, W.heap[b]? = some o → Obj.firm o = false := by
  intro b hb o ho
  rcases hb with rfl | rfl | rfl | hb
  · rw [h.tab] at ho; cases ho; rfl
  · rw [h.list] at ho; cases ho; rfl
  · rw [h.last] at ho; cases ho; rfl
  · obtain ⟨c, t, hc, ht⟩ := seg_kind h.seg b hb
    rw [hc] at ho
    cases ho
    rcases ht with rfl | rfl <;> rfl
/-- Behind the first statement. -/
structure Start (w : World) (T : Trio) (made ns : Nat) (W : World) : Prop where
  ok : T.ok w.heap.size
  tab : W.heap[T.tb]? = some (ptab (List.replicate made none))
  nb : W.heap[T.nb]? = some (.cells #[.pointer none, .int .i64 0, .int .i64 0, .slice (some ⟨T.tb, 0, none⟩) made made, .int .i64 ns] 66)
  ob : W.heap[T.ob]? = some (.cells #[ptr T.nb] 27)
  kept : Kept (fun _ => False) w W
  size : W.heap.size = w.heap.size + 3
theorem heap3_at (w : World) (a b c : Obj) : (((w.alloc a).alloc b).alloc c).heap[w.heap.size]? = some a ∧ (((w.alloc a).alloc b).alloc c).heap[w.heap.size + 1]? = some b ∧ (((w.alloc a).alloc b).alloc c).heap[w.heap.size + 2]? = some c := by
  have h1 : (w.alloc a).heap[w.heap.size]? = some a := heap_alloc_at _ _
  have h2 : ((w.alloc a).alloc b).heap[w.heap.size + 1]? = some b := by have := heap_alloc_at (w.alloc a) b; rwa [World.size_alloc] at this
  have h3 : (((w.alloc a).alloc b).alloc c).heap[w.heap.size + 2]? = some c := by have := heap_alloc_at ((w.alloc a).alloc b) c; rwa [World.size_alloc, World.size_alloc] at this
  exact ⟨heap_alloc_old _ (heap_alloc_old _ h1), heap_alloc_old _ h2, h3⟩
theorem trioA (B : Nat) : (⟨B, B + 1, B + 2⟩ : Trio).ok B := by constructor <;> simp
theorem trioB (B : Nat) : (⟨B, B + 2, B + 1⟩ : Trio).ok B := by constructor <;> simp
theorem trioC (B : Nat) : (⟨B + 1, B + 2, B⟩ : Trio).ok B := by constructor <;> simp
theorem kept3 (w : World) (a b c : Obj) : Kept (fun _ => False) w (((w.alloc a).alloc b).alloc c).drew := ((((Kept.refl _ w).alloc a).alloc b).alloc c).drew
theorem size3 (w : World) (a b c : Obj) : (((w.alloc a).alloc b).alloc c).drew.heap.size = w.heap.size + 3 := by
  show (((w.alloc a).alloc b).alloc c).heap.size = _
  simp [World.size_alloc]
set_option maxHeartbeats 4000000 in
set_option maxRecDepth 100000 in
theorem clone_ord {w : World} {O : Ord} (h : Inv w O) :
    Calls Try.prog 29 #[.pointer (some ⟨O.lb, 0, none⟩)] w fun e w' => ∃ T cs, e = .returned (ptr T.nb) ∧ CAt w O T O.gs.length cs w' := by
  obtain ⟨ab, cap, cur, hall, hag, hac, hcm, hat⟩ := h.table
  have l1 := list_c1 h.list
  have l2 := list_c2 h.list
  have l3 := list_c3 h.list
  have l4 := list_c4 h.list
  rw [hall] at l3
  have hlb := heap_lt h.list
  have hmade := h.wf.made
  have hngl := h.wf.groups_le
  have hstl := h.wf.stamps_le
  obtain ⟨made, hmd⟩ : ∃ m, m = O.P.length := ⟨_, rfl⟩
  obtain ⟨ng, hng⟩ : ∃ m, m = O.gs.length := ⟨_, rfl⟩
  obtain ⟨ns, hns⟩ : ∃ m, m = (stampsOf O.gs).length := ⟨_, rfl⟩
  obtain ⟨mv, hmv⟩ : ∃ m, m = O.moves := ⟨_, rfl⟩
  obtain ⟨lb, hlbe⟩ : ∃ m, m = O.lb := ⟨_, rfl⟩
  rw [← hmd] at hmade hstl
  rw [← hns] at hstl
  rw [← hng] at hngl
  simp only [← hmd, ← hng, ← hns, ← hmv, ← hlbe] at l1 l2 l3 l4 hlb ⊢
  have hmk := make_table made hmade
  have HI := Lib.hid h
  have HMD := Lib.hid hmd
  have HNG := Lib.hid hng
  have HNS := Lib.hid hns
  have HMV := Lib.hid hmv
  have HLB := Lib.hid hlbe
  clear h hall hag hac hcm hat hmd hng hns hmv hlbe
  refine (callsIn_wide (n := 0)).1 ?_
  refine callsIn_of_wp_marks Try.func29 rfl trivial ?_ rfl
  simp only [Try.ntmps29, List.size_toArray, List.length_cons, List.length_nil, Nat.reduceAdd, Nat.reduceSub, Array.replicate_succ, Array.replicate_zero, List.push_toArray, List.append_toArray, List.nil_append, List.cons_append]
  refine wpIn_wide.2 ?_
  go_wp2
  go_cut [3] from 12 to 23 (fun s3 wx => ∃ T : Trio, s3 = ptr T.ob ∧ Start w T made ns wx)
  case first =>
    go_region_held3 (fun w' => w'.cell? ⟨lb, 3, none⟩ = some (.slice (some ⟨ab, 0, none⟩) made cap) ∧ w'.cell? ⟨lb, 4, none⟩ = some (.int .i64 ns)) (first | exact ⟨l3, l4⟩ | (refine ⟨cell_kept l3 ?_, cell_kept l4 ?_⟩ <;> (repeat (first | exact Kept.refl _ _ | refine Kept.drew ?_ | refine Kept.alloc ?_ _)))) (first | fail)
    · go_wp2
      go_meet
      case rel =>
        obtain ⟨a0, a1, a2⟩ := heap3_at w (ptab (List.replicate made none)) (.cells #[.pointer none, .int .i64 0, .int .i64 0, .slice (some ⟨w.heap.size, 0, none⟩) made made, .int .i64 ns] 66) (.cells #[ptr (w.heap.size + 1)] 27)
        exact ⟨⟨w.heap.size, w.heap.size + 1, w.heap.size + 2⟩, rfl, trioA _, a0, a1, a2, kept3 _ _ _ _, size3 _ _ _ _⟩
    · go_wp2
      go_meet
      case rel =>
        obtain ⟨a0, a1, a2⟩ := heap3_at w (ptab (List.replicate made none)) (.cells #[ptr (w.heap.size + 2)] 27) (.cells #[.pointer none, .int .i64 0, .int .i64 0, .slice (some ⟨w.heap.size, 0, none⟩) made made, .int .i64 ns] 66)
        exact ⟨⟨w.heap.size, w.heap.size + 2, w.heap.size + 1⟩, rfl, trioB _, a0, a2, a1, kept3 _ _ _ _, size3 _ _ _ _⟩
    · go_wp2
      go_meet
      case rel =>
        obtain ⟨a0, a1, a2⟩ := heap3_at w (.cells #[ptr (w.heap.size + 2)] 27) (ptab (List.replicate made none)) (.cells #[.pointer none, .int .i64 0, .int .i64 0, .slice (some ⟨w.heap.size + 1, 0, none⟩) made made, .int .i64 ns] 66)
        exact ⟨⟨w.heap.size + 1, w.heap.size + 2, w.heap.size⟩, rfl, trioC _, a1, a2, a0, kept3 _ _ _ _, size3 _ _ _ _⟩
  case rest =>
    obtain ⟨T, rfl, hst⟩ := hcut
    have k1 := cell_kept l1 hst.kept
    have k2 := cell_kept l2 hst.kept
    have n0 := cell_of_block hst.nb 1
    have n1 := cell_of_block hst.nb 2
    have f0 := free_of_block hst.nb 1
    have f1 := free_of_block hst.nb 2
    have o0 := cell_of_block hst.ob 0
    simp only [List.getElem?_toArray, List.getElem?_cons_succ, List.getElem?_cons_zero] at n0 n1 o0
    have HST := Lib.hid hst
    have t1 := hst.ok.n0
    have t2 : ¬ T.nb = T.ob := hst.ok.no
    have t3 : ¬ T.nb = lb := by omega
    have t4 : ¬ lb = T.nb := by omega
    have t5 : ¬ T.ob = T.nb := fun e => t2 e.symm
    clear hst l1 l2 l3 l4 hmk
    go_wp2
    go_region_held3 (fun w' => w'.cell? ⟨T.ob, 0, none⟩ = some (ptr T.nb) ∧ w'.cell? ⟨lb, 1, none⟩ = some (.int .i64 ng) ∧ w'.cell? ⟨lb, 2, none⟩ = some (.int .i64 mv)) (first | exact ⟨o0, k1, k2⟩ | go_keep) (first | fail)
    go_wp2_with (go_at_call 44; refine (groups_mk lb _).mono ?_; rintro e w' ⟨rfl, rfl⟩)
    refine (wpIn_wide (n := 0)).1 ?_
    have hsz := HST.out.size
    have h0 : CAt w O T 0 [] ((((wc.setCell ⟨T.nb, 1, none⟩ (.int .i64 ng)).setCell ⟨T.nb, 2, none⟩ (.int .i64 mv)).alloc (.cells #[.pointer none] 61)).alloc (.cells #[.pointer (some ⟨lb, 0, none⟩)] 97)).drew := by
      have hS := HST.out
      obtain ⟨q0, q1, q2, q3, q4, q5, q6, q7, q8⟩ := hS.ok
      have e1 := heap_set_same (o := 1) hS.nb (.int .i64 (ng : Int))
      have e2 := heap_set_same (o := 2) e1 (.int .i64 (mv : Int))
      have hz : ((wc.setCell ⟨T.nb, 1, none⟩ (.int .i64 ng)).setCell ⟨T.nb, 2, none⟩ (.int .i64 mv)).heap.size = w.heap.size + 3 := by rw [← hsz]; simp [World.setCell]
      have hoth : ∀ k, k < wc.heap.size → k ≠ T.nb → ((((wc.setCell ⟨T.nb, 1, none⟩ (.int .i64 ng)).setCell ⟨T.nb, 2, none⟩ (.int .i64 mv)).alloc (.cells #[.pointer none] 61)).alloc (.cells #[.pointer (some ⟨lb, 0, none⟩)] 97)).heap[k]? = wc.heap[k]? := by
        intro k hk hne
        rw [_root_.Go.heap_alloc_old _ _ (by rw [World.size_alloc, hz]; omega), _root_.Go.heap_alloc_old _ _ (by rw [hz]; omega), heap_set_other _ hne, heap_set_other _ hne]
      refine ⟨hS.ok, rfl, ?_, ?_, ?_, ?_, ?_, trivial, by simp, fun k hk => by simp at hk, ?_⟩
      · refine (heap_alloc_old _ (heap_alloc_old _ e2)).trans ?_
        rw [← HMD.out, ← HNG.out, ← HNS.out, ← HMV.out]
        rfl
      · rw [← HMD.out]
        exact (hoth T.tb (by omega) (by omega)).trans hS.tab
      · exact (hoth T.ob (by omega) (by omega)).trans hS.ob
      · have := heap_alloc_at ((wc.setCell ⟨T.nb, 1, none⟩ (.int .i64 ng)).setCell ⟨T.nb, 2, none⟩ (.int .i64 mv)) (.cells #[.pointer none] 61)
        rw [hz] at this
        exact heap_alloc_old _ this
      · have := heap_alloc_at (((wc.setCell ⟨T.nb, 1, none⟩ (.int .i64 ng)).setCell ⟨T.nb, 2, none⟩ (.int .i64 mv)).alloc (.cells #[.pointer none] 61)) (.cells #[.pointer (some ⟨lb, 0, none⟩)] 97)
        rw [World.size_alloc, hz] at this
        rw [← HLB.out]
        exact this
      · refine Kept.below (S := fun k => k = T.nb) ?_ (Nat.le_refl _) (fun k e => by omega)
        exact ((((hS.kept.mono (T := fun k => k = T.nb) (fun _ _ x => x.elim)).setCell (p := ⟨T.nb, 1, none⟩) (fun _ => rfl) _).setCell (p := ⟨T.nb, 2, none⟩) (fun _ => rfl) _).alloc _).alloc _ |>.drew
    have hrd : ∀ W, Below w.heap.size w W → Reads O.gs O.lb W := fun W hb => HI.out.reads.of_below hb (heap_lt HI.out.list) (fun g hg => seg_lt HI.out.seg _ (mem_foot_group hg))
    have HRd := Lib.hid hrd
    have hwsz : ((((wc.setCell ⟨T.nb, 1, none⟩ (.int .i64 ng)).setCell ⟨T.nb, 2, none⟩ (.int .i64 mv)).alloc (.cells #[.pointer none] 61)).alloc (.cells #[.pointer (some ⟨lb, 0, none⟩)] 97)).drew.heap.size = w.heap.size + 5 := by
      show ((((wc.setCell ⟨T.nb, 1, none⟩ (.int .i64 ng)).setCell ⟨T.nb, 2, none⟩ (.int .i64 mv)).alloc (.cells #[.pointer none] 61)).alloc (.cells #[.pointer (some ⟨lb, 0, none⟩)] 97)).heap.size = _
      have hz : ((wc.setCell ⟨T.nb, 1, none⟩ (.int .i64 ng)).setCell ⟨T.nb, 2, none⟩ (.int .i64 mv)).heap.size = w.heap.size + 3 := by rw [← hsz]; simp [World.setCell]
      rw [World.size_alloc, World.size_alloc, hz]
    rw [hsz]
    generalize ((((wc.setCell ⟨T.nb, 1, none⟩ (.int .i64 ng)).setCell ⟨T.nb, 2, none⟩ (.int .i64 mv)).alloc (.cells #[.pointer none] 61)).alloc (.cells #[.pointer (some ⟨lb, 0, none⟩)] 97)).drew = Wb at *
    clear hrd k1 k2 n0 n1 f0 f1 o0 t3 t4
    refine wpIn_range (gf := 57) (lb := #[.pointer (some ⟨w.heap.size + 4, 0, none⟩)]) (by simp [go_sem]) (enters_of Try.func57 (by kernel_rfl) rfl) ng (fun i => #[arg O.gs i])
      (fun i W => ∃ cs, CAt w O T i cs W) (fun _ => False) (fun b hb => hb.elim) (fun _ => rfl) (fun i W o ⟨cs, h⟩ => ⟨cs, h.alloc o⟩) (fun i W ⟨cs, h⟩ => ⟨cs, h.drew⟩) (fun i W b o o' ⟨cs, h⟩ hb ho hc => ⟨cs, h.putObj o' (by omega) ho hc⟩)
      ⟨[], h0⟩ ?_
      (fun i => { tmps := #[.pointer (some ⟨lb, 0, none⟩), undef, .pointer none, ptr T.ob, .pointer (some ⟨w.heap.size + 3, 0, none⟩), arg O.gs i, undef, undef, undef, undef, .pointer (some ⟨lb, 0, none⟩), .bool false, u12, u13, u14, u15, u16, u17, u18, u19, u20, u21, u22, u23, ptr T.nb, ptr T.nb, .pointer (some ⟨lb, 0, none⟩), .pointer (some ⟨lb, 0, none⟩), .pointer (some ⟨lb, 0, none⟩), .pointer (some ⟨lb, 1, none⟩), .int .i64 ng, .pointer (some ⟨lb, 0, none⟩), .pointer (some ⟨lb, 0, none⟩), .pointer (some ⟨lb, 0, none⟩), .pointer (some ⟨lb, 2, none⟩), .int .i64 mv, .pointer (some ⟨T.nb, 0, none⟩), .pointer (some ⟨T.nb, 0, none⟩), .pointer (some ⟨T.nb, 1, none⟩), .pointer (some ⟨T.nb, 0, none⟩), .pointer (some ⟨T.nb, 0, none⟩), .pointer (some ⟨T.nb, 2, none⟩), .pointer (some ⟨lb, 0, none⟩), .pointer (some ⟨lb, 0, none⟩), .pointer (some ⟨lb, 0, none⟩), .func (.func 57) #[] #[.pointer (some ⟨w.heap.size + 4, 0, none⟩)], arg O.gs i, undef, undef, undef, undef, undef, undef, undef, undef, undef, undef, undef, undef, undef, undef, undef, undef, undef, undef, undef, undef, undef, undef, undef, undef, undef, undef, undef, undef, undef, undef, undef, undef, undef, undef, undef, undef, undef, undef, undef, undef, undef, undef, undef, undef, undef, undef, undef, undef, undef, undef, undef, undef, undef, undef, undef], defers := [] }) ?assign ?body ?done
    case assign =>
      intro l' i W' K hK
      gi_wp2
      exact hK
    case done =>
      rintro D W' hD ⟨cs, hC⟩ hK
      have c3 := cell_of_block hC.out 0
      simp only [List.getElem?_toArray, List.getElem?_cons_zero] at c3
      have HC := Lib.hid hC
      have HK := Lib.hid hK
      clear hC hK
      go_wp2
      refine ⟨by simp, .inl ⟨_, _, rfl, run_takeDeferred HK.out, ?_⟩⟩
      refine ⟨_, results_tmp rfl _ _ _, T, cs, rfl, ?_⟩
      exact HC.out.putObj _ (by omega) HK.out rfl
    · intro l' J' W' hJJ h0' hl hW ha hd hp hY'
      refine groups1_in 0 l' (w.heap.size + 4) O.lb O.gs J' (KeepNC (fun b => False ∨ b = l')) W' (fun i W'' hJ' => ?_) h0' ?_ |>.mono ?_
      · obtain ⟨cs, hC⟩ := hJJ i W'' hJ'
        obtain ⟨r1, r2⟩ := HRd.out W'' hC.below
        exact ⟨by rw [cell_of_block hC.box]; rfl, r1, fun j g hg => (r2 j g hg).1⟩
      · intro i W1 s hs hJ'
        have := hY' i W1 (by rw [HNG.out]; exact (List.getElem?_eq_some_iff.1 hs).1) hJ'
        rwa [arg_at hs] at this
      · intro e W1 h1
        rw [← HNG.out] at h1
        exact h1
    case body =>
      rintro l' i rec W' hi' hl' hrec hL' hD ⟨cs, hC⟩
      obtain ⟨g, hg⟩ : ∃ g, O.gs[i]? = some g := ⟨O.gs[i]'(by rw [← HNG.out]; exact hi'), List.getElem?_eq_getElem _⟩
      rw [arg_at hg]
      have hG := HI.out.group (gs_split' hg)
      have hgb : g.b < w.heap.size := heap_lt hG.1
      have hg1 : W'.heap[g.b]? = some (groupObj g.tag g.ss.length g.arr (lastB none (O.gs.take i)) (headB none (O.gs.drop (i + 1)))) := by
        rw [hC.below.block g.b hgb]; exact hG.1
      have h32 := hG.2.1
      have hone : (groupCells g.tag g.ss.length g.arr (lastB none (O.gs.take i)) (headB none (O.gs.drop (i + 1)))).all (·.oneCell') = true := group_ones (fun v hv => by
        unfold Grp.arr at hv
        rcases List.mem_append.1 hv with hv | hv
        · obtain ⟨s, _, rfl⟩ := List.mem_map.1 hv
          rfl
        · exact HI.out.wf.ones g (List.mem_of_getElem? hg) v hv) _ _ _ _
      have c3 := cell_of_block hC.last 0
      simp only [List.getElem?_toArray, List.getElem?_cons_zero] at c3
      have HC := Lib.hid hC
      have HLp := Lib.hid hL'
      have HD := Lib.hid hD
      have Hrec := Lib.hid hrec
      have HG := Lib.hid hG
      have HG1 := Lib.hid hg1
      have HGI := Lib.hid hg
      have H32 := Lib.hid h32
      have HONE := Lib.hid hone
      have hWs := hC.below.size
      have hbx := heap_lt hC.box
      clear hC hL' hD hrec hG hg1 hg h32 hone
      gi_wp2_with (first
        | (refine wpListIn_load_row rfl 71 (.tmp 48) rfl g.b rfl 71 (groupCells g.tag g.ss.length g.arr (lastB none (O.gs.take i)) (headB none (O.gs.drop (i + 1)))) (0, 0) _ HG1.out Try.underlying71 rfl (by rw [size71]; simp [groupCells, H32.out]) ?_)
        | (refine wpListIn_store_new rfl 71 (.tmp 6) (.tmp 49) rfl (groupCells g.tag g.ss.length g.arr (lastB none (O.gs.take i)) (headB none (O.gs.drop (i + 1)))) 71 _ rfl rfl (by rw [size71]; simp [groupCells, H32.out]) (by simp [groupCells, H32.out]) HONE.out ?_; intro W1 hK1 hN1; have c4 := (cell_kept c3 hK1); have q34 := group_c34 hN1 H32.out; have q35 := group_c35 hN1 H32.out; have f34 := group_fr hN1 34; have f35 := group_fr hN1 35; have HK1 := Lib.hid hK1; have HN1 := Lib.hid hN1; clear hK1 hN1 c3))
      have hA0 : InAt w O T cs g W' W'.heap.size 0 [] ((W1.setCell ⟨W'.heap.size, 34, none⟩ (.pointer (optp (lastB none cs)))).setCell ⟨W'.heap.size, 35, none⟩ (.pointer none)) :=
        InAt.start HC.out ((HK1.out.setCell (p := ⟨W'.heap.size, 34, none⟩) (fun (hh : W'.heap.size < W'.heap.size) => absurd hh (Nat.lt_irrefl _)) _).setCell (p := ⟨W'.heap.size, 35, none⟩) (fun (hh : W'.heap.size < W'.heap.size) => absurd hh (Nat.lt_irrefl _)) _)
          (group_set35 (group_set34 HN1.out H32.out (lastB none cs)) H32.out none)
      generalize ((W1.setCell ⟨W'.heap.size, 34, none⟩ (.pointer (optp (lastB none cs)))).setCell ⟨W'.heap.size, 35, none⟩ (.pointer none)) = W2 at *
      obtain ⟨N, hN⟩ : ∃ N, N = g.ss.length := ⟨_, rfl⟩
      have hN32 : N ≤ 32 := by have := H32.out; simp [Grp.arr] at this; omega
      have hok := HC.out.ok
      obtain ⟨t0, t1', n0', n1', o0', o1', tn, tu, no⟩ := hok
      have hgT : g.b ≠ T.tb := by omega
      have hgW : ∀ k xs wr, InAt w O T cs g W' W'.heap.size k xs wr → wr.heap[g.b]? = some (groupObj g.tag N g.arr (lastB none (O.gs.take i)) (headB none (O.gs.drop (i + 1)))) := by
        intro k xs wr hA
        rw [hA.kept.block g.b (by omega) hgT, hN]
        exact HG1.out
      have e1 := group_c1 (hgW 0 [] W2 hA0)
      have HA0 := Lib.hid hA0
      have HGW := Lib.hid hgW
      have HNN := Lib.hid hN
      clear hA0 hgW hN q34 q35 f34 f35 c4 HK1 HN1
      refine wpIn_still (by kernel_rfl) (by kernel_rfl) (by kernel_rfl) (by rintro ⟨a, w, h⟩; exact h) ?_
      repeat still_step
      refine wpStill_nil ?_
      gi_wp2
      gi_loopw [7, 8, 9, 62] (fun _ _ _ c wr => ∃ (k : Nat) (xs : List Stp), k ≤ N ∧ c = .int .i64 k ∧ InAt w O T cs g W' W'.heap.size k xs wr) (fun _ _ _ c _ => N - (intOf c).toNat)
      case atStart => exact ⟨0, [], Nat.zero_le _, rfl, HA0.out.drew⟩
      case round =>
        obtain ⟨k, xs, hk, rfl, hA⟩ := hrel
        by_cases hkN : k < N
        · obtain ⟨s, hs⟩ : ∃ s, g.ss[k]? = some s := ⟨g.ss[k]'(by rw [← HNN.out]; exact hkN), List.getElem?_eq_getElem _⟩
          have hgw := HGW.out k xs wr hA
          have harr : g.arr[k]? = some (ptr s.b) := by
            unfold Grp.arr
            rw [List.getElem?_append_left (by rw [List.length_map]; exact (List.getElem?_eq_some_iff.1 hs).1), List.getElem?_map, hs]
            rfl
          have b1 := group_ca hgw harr
          have hst := HG.out.2.2 s (List.mem_of_getElem? hs)
          have hsb : s.b < w.heap.size := heap_lt hst
          have hsw : StampAt wr g.b s := by
            unfold StampAt
            rw [hA.kept.block s.b (by omega) (by omega), HC.out.below.block s.b hsb]
            exact hst
          have b2 := stamp_c0 hsw
          have b3 := stamp_c1 hsw
          have hsm : s ∈ stampsOf O.gs := by
            simp only [stampsOf, List.mem_flatMap]
            exact ⟨g, List.mem_of_getElem? HGI.out, List.mem_of_getElem? hs⟩
          have hid : s.id < O.P.length := (List.getElem?_eq_some_iff.1 (HI.out.wf.tabled s hsm)).1
          rw [← HMD.out] at hid
          have hlw : wr.heap[T.nb]? = _ := (hA.kept.block T.nb (by omega) (by omega)).trans HC.out.list
          have b4 := list_c3 hlw
          rw [← HMD.out] at b4
          have how : wr.heap[T.ob]? = _ := (hA.kept.block T.ob (by omega) (by omega)).trans HC.out.out
          have b5 := cell_of_block how 0
          simp only [List.getElem?_toArray, List.getElem?_cons_zero] at b5
          obtain ⟨v0, hv0⟩ : ∃ v, (xs.map (fun s => ptr s.b) ++ g.arr.drop k)[k]? = some v := ⟨_, List.getElem?_eq_getElem (by have := hA.len; have := H32.out; simp; omega)⟩
          have b6 := group_ca hA.grp hv0
          have f6 := group_fr hA.grp (2 + k)
          obtain ⟨v1, hv1⟩ : ∃ v, wr.cell? ⟨T.tb, s.id, none⟩ = some v := by
            have ht := hA.tab
            unfold ptab at ht
            rw [cell_of_block ht]
            exact ⟨_, Array.getElem?_eq_getElem (by simp [setAll_length]; rw [← HMD.out]; exact hid)⟩
          have f7 : wr.frozen? ⟨T.tb, s.id, none⟩ = false := by
            have ht := hA.tab
            unfold ptab at ht
            exact free_of_block ht _
          have hhl := heap_lt hA.grp
          have hstep := InAt.step HC.out hA hs H32.out (Nat.le_refl _) (by rw [← HMD.out]; exact hid)
          have HST := Lib.hid hstep
          have hwl := hA.kept.size
          have y1 : ¬ W'.heap.size = T.tb := by omega
          have y2 : ¬ T.tb = W'.heap.size := by omega
          have y3 : ¬ W'.heap.size = T.ob := by omega
          have y4 : ¬ W'.heap.size = T.nb := by omega
          have y5 : ¬ W'.heap.size = s.b := by omega
          have y6 : (s.id : Int) < (made : Int) := by omega
          have y7 : (0 : Int) ≤ (s.id : Int) := by omega
          clear hstep hgw harr hst hsw hsm hlw how hv0 hs
          gi_wp2
          refine wpIn_tail 8 (by kernel_rfl) (by kernel_rfl) (by kernel_rfl) (by rintro ⟨a, w, h⟩; exact h) ?_
          simp only [List.take_succ_cons, List.take_zero, List.drop_succ_cons, List.drop_zero]
          repeat still_step
          refine wpStill_nil ?_
          go_wp2
          gi_wp2
          have hcm := World.setCell_alloc_past (w := wr) (.cells #[.int .i64 (s.id : Int), .int .i64 (s.minor : Int), .pointer (some ⟨W'.heap.size, 0, none⟩)] 73) W'.heap.size (2 + k) (ptr wr.heap.size) hhl
          have hst2 := HST.out
          unfold stampObj at hst2
          rw [hcm] at hst2
          have hK4 : Kept (fun b => b = W'.heap.size) wr ((wr.setCell ⟨W'.heap.size, 2 + k, none⟩ (ptr wr.heap.size)).alloc (.cells #[.int .i64 (s.id : Int), .int .i64 (s.minor : Int), .pointer (some ⟨W'.heap.size, 0, none⟩)] 73)) :=
            Kept.alloc (Kept.setCell (S := fun b => b = W'.heap.size) (p := ⟨W'.heap.size, 2 + k, none⟩) (Kept.refl _ wr) (fun _ => rfl) _) _
          have d5 := cell_kept2 b5 hK4 (fun e => y3 e.symm)
          have d4 := cell_kept2 b4 hK4 (fun e => y4 e.symm)
          have d2 := cell_kept2 b2 hK4 (fun e => y5 e.symm)
          have d7 := cell_kept2 hv1 hK4 y2
          have d8 : ((wr.setCell ⟨W'.heap.size, 2 + k, none⟩ (ptr wr.heap.size)).alloc (.cells #[.int .i64 (s.id : Int), .int .i64 (s.minor : Int), .pointer (some ⟨W'.heap.size, 0, none⟩)] 73)).frozen? ⟨T.tb, s.id, none⟩ = false := by
            rw [World.frozen?_of_block (hK4.block T.tb (by have := hA.kept.size; omega) y2)]
            exact f7
          have HS2 := Lib.hid hst2
          generalize (wr.setCell ⟨W'.heap.size, 2 + k, none⟩ (ptr wr.heap.size)).alloc (.cells #[.int .i64 (s.id : Int), .int .i64 (s.minor : Int), .pointer (some ⟨W'.heap.size, 0, none⟩)] 73) = W4 at *
          clear hcm hst2 hK4 HST b1 b2 b3 b4 b5 b6 f6 f7 hv1
          refine wpIn_tail 10 (by kernel_rfl) (by kernel_rfl) (by kernel_rfl) (by rintro ⟨a, w, h⟩; exact h) ?_
          simp only [List.take_succ_cons, List.take_zero, List.drop_succ_cons, List.drop_zero]
          repeat still_step
          refine wpStill_nil ?_
          go_wp2
          gi_wp2
          go_roundw
          case rel => exact ⟨k + 1, _, by omega, by go_num, HS2.out.drewN 2⟩
          case measure => simp [intOf]; omega
        · obtain rfl : k = N := by omega
          have hlw : wr.heap[w.heap.size + 3]? = _ := (hA.kept.block (w.heap.size + 3) (by omega) (by omega)).trans HC.out.last
          have b1 := cell_of_block hlw 0
          have f1 := free_of_block hlw 0
          simp only [List.getElem?_toArray, List.getElem?_cons_zero] at b1
          have how : wr.heap[T.ob]? = _ := (hA.kept.block T.ob (by omega) (by omega)).trans HC.out.out
          have b2 := cell_of_block how 0
          simp only [List.getElem?_toArray, List.getElem?_cons_zero] at b2
          have hnw : wr.heap[T.nb]? = _ := (hA.kept.block T.nb (by omega) (by omega)).trans HC.out.list
          have b3 := list_c0 hnw
          have f3 := list_fr hnw 0
          have hsoft := HC.out.soft
          rcases List.eq_nil_or_concat cs with rfl | ⟨cs0, p, rfl⟩
          · have hfin := HC.out.first hA HNN.out HGI.out H32.out (Nat.le_refl _)
            have HF := Lib.hid hfin
            have HSO := Lib.hid hsoft
            have y1 : ¬ T.nb = w.heap.size + 3 := by omega
            clear hfin hsoft hlw how hnw hA HC
            simp only [lastB, optp_none] at b1
            gi_wp2
            have p2 := (KeepNC.refl (fun _ => False) W').kept HF.out.2 HSO.out
            exact ⟨p2.same _ _ (fun h => h) HLp.out rfl, by rw [Hrec.out]; exact p2.same _ _ (fun h => h) HD.out rfl, p2, ⟨_, HF.out.1⟩⟩
          · rw [List.concat_eq_append] at *
            have hfin := HC.out.later hA HNN.out HGI.out H32.out (Nat.le_refl _)
            have hsegr : Seg wr none (cs0 ++ [p]) none := seg_frame HC.out.seg (fun q hq => hA.kept.block q (seg_lt HC.out.seg q hq) (by have := HC.out.new q hq; omega))
            have hGp := (seg_append.1 hsegr).2.1
            have b4 := group_c35 hGp.1 hGp.2.1
            have f4 := group_fr hGp.1 35
            have hcl := group_clean hGp.1
            have hpf : p.b ∈ foot (cs0 ++ [p]) := by simp [Grp.foot]
            have hp5 := HC.out.new _ hpf
            have y1 : ¬ p.b = w.heap.size + 3 := by omega
            have HF := Lib.hid hfin
            have HSO := Lib.hid hsoft
            have hlast : lastB none (cs0 ++ [p]) = some p.b := by simp [lastB]
            rw [hlast, optp_some] at b1
            clear hfin hsoft hlw how hnw hA HC hsegr hGp hpf
            gi_wp2
            have p2 := (KeepNC.refl (fun _ => False) W').kept HF.out.2 HSO.out
            exact ⟨p2.same _ _ (fun h => h) HLp.out rfl, by rw [Hrec.out]; exact p2.same _ _ (fun h => h) HD.out rfl, p2, ⟨_, HF.out.1⟩⟩
end Go.Proofs.Ytijceljhpbdnnaa
