/-
  DERIVED. What the row's condition on the laid variables gives: the cells that the example and the library read. Condition: the variables are laid.
-/
import Derived.Test.YtfehlbepjmmkeaaGreatDoorRows
import Derived.Test.YtfehlbepjmmkeaaGreatDoorJad
import Derived.ProofKit
import Derived.LaidMore
import Derived.OpenShut
import Derived.Stop.Joined
import Derived.Stop.LaidErr
import Derived.MakeChecks
import Derived.Lay
import Derived.Lib.LaidTab
import Derived.Shelf.Vars
import Derived.Test.YtfehlbepjmmkeaaGreatDoorJaa
import Derived.Lib.SmallJoins
import Derived.Deep.Slices
import Derived.SizedLaws
namespace Go.Proofs.YtfehlbepjmmkeaaGreatDoor
open Go.ChangeShapes Go.WideShapes Go.ChangeAt Go.RowKit
set_option maxRecDepth 100000

theorem star : "*" ++ "errors.errorString" = "*errors.errorString" := by decide
theorem row354 (u : TypeId) (h : Tryz.prog.typeName? 3 u = some "*errors.errorString") : u = 354 :=
  typeName_ptr_named (nm := "errors.errorString") (by rw [star]; kernel_rfl) (by kernel_rfl) (by decide) u (by rw [star]; exact h)

theorem err_cell {W : World} (hs : W.ShapedOpen Tryz.prog) (hl : laidMetH Tryz.prog Rows.tracedValuesRow.laid W) :
    ∃ b o : Nat, W.heap[0]? = some (.cells #[.iface 354 (.pointer (some ⟨b, o, none⟩))] 228 (0, 0)) := by
  rw [MakeChecks.laidMetH_plain _ _ _ (by kernel_rfl)] at hl
  have h := hl.tail.tail.tail.tail.tail
  obtain ⟨a, s, h1, h0, _⟩ := laid_sentinel (P := Tryz.prog) (g := 0) (ti := 228) (tp := 354) (te := 356) (ts := 9) (ms := _) (f := _) h (by kernel_rfl) (by kernel_rfl) Tryz.underlying228 row354 Tryz.underlying354 Tryz.underlying356 (by rfl) (by rfl) Tryz.underlying9 (by kernel_rfl) (by kernel_rfl)
  have hsp := World.cell?_spot h0
  obtain ⟨b, o, sp⟩ := a
  simp only at hsp
  subst hsp
  refine ⟨b, o, ?_⟩
  obtain ⟨cs, hc, _⟩ := hs.1 0 #[.nilIface] 228 (of_decide_eq_true (by kernel_rfl)) (by kernel_rfl)
  have h2 : W.var? Tryz.prog "strconv.ErrSyntax" = some cs := by
    unfold World.var?
    rw [show Tryz.prog.globalNamed "strconv.ErrSyntax" = some 0 by kernel_rfl]
    simp [hc]
  rw [h1] at h2
  injection h2 with h2
  subst h2
  exact hc
theorem range_cell {W : World} (hs : W.ShapedOpen Tryz.prog) (hl : laidMetH Tryz.prog Rows.tracedValuesRow.laid W) :
    ∃ b o : Nat, W.heap[1]? = some (.cells #[.iface 354 (.pointer (some ⟨b, o, none⟩))] 228 (0, 0)) := by
  rw [MakeChecks.laidMetH_plain _ _ _ (by kernel_rfl)] at hl
  have h := hl.tail.tail.tail.tail
  obtain ⟨a, s, h1, h0, _⟩ := laid_sentinel (P := Tryz.prog) (g := 1) (ti := 228) (tp := 354) (te := 356) (ts := 9) (ms := _) (f := _) h (by kernel_rfl) (by kernel_rfl) Tryz.underlying228 row354 Tryz.underlying354 Tryz.underlying356 (by rfl) (by rfl) Tryz.underlying9 (by kernel_rfl) (by kernel_rfl)
  have hsp := World.cell?_spot h0
  obtain ⟨b, o, sp⟩ := a
  simp only at hsp
  subst hsp
  refine ⟨b, o, ?_⟩
  obtain ⟨cs, hc, _⟩ := hs.1 1 #[.nilIface] 228 (of_decide_eq_true (by kernel_rfl)) (by kernel_rfl)
  have h2 : W.var? Tryz.prog "strconv.ErrRange" = some cs := by
    unfold World.var?
    rw [show Tryz.prog.globalNamed "strconv.ErrRange" = some 1 by kernel_rfl]
    simp [hc]
  rw [h1] at h2
  injection h2 with h2
  subst h2
  exact hc
theorem vars_of {W : World} (hs : W.ShapedOpen Tryz.prog) (hl : laidMetH Tryz.prog Rows.tracedValuesRow.laid W) : Vars W := by
  obtain ⟨b, o, h0⟩ := err_cell hs hl
  obtain ⟨b', o', h1⟩ := range_cell hs hl
  refine ⟨?_, ⟨_, cell_of_block h0 0, .inr ⟨_, _, rfl⟩⟩, ⟨_, cell_of_block h1 0, .inr ⟨_, _, rfl⟩⟩, ?_, ?_⟩
  · exact cell_of_shapedOpen_int (P := Tryz.prog) (g := 2) (t := 3) (zero := #[.int .i64 0]) hs (of_decide_eq_true (by kernel_rfl)) (by kernel_rfl) rfl (by kernel_rfl) (by kernel_rfl) Tryz.underlying3
  · rw [MakeChecks.laidMetH_plain _ _ _ (by kernel_rfl)] at hl
    exact Lib.tabIs_of_head (g := 5) (t := 359) (e := 279) (n := 20) (by kernel_rfl) (by kernel_rfl) Tryz.underlying359 Tryz.underlying279 (by kernel_rfl) (by kernel_rfl) hl.tail.tail
  · obtain ⟨cs, hc, _⟩ := hs.1 7 (Array.replicate 64 (.int .u8 0)) 362 (of_decide_eq_true (by kernel_rfl)) (by kernel_rfl)
    have := heap_lt hc
    omega
end Go.Proofs.YtfehlbepjmmkeaaGreatDoor
namespace Go.Proofs.YtfehlbepjmmkeaaGreatDoor
open Go.ChangeShapes Go.WideShapes Go.ChangeAt Go.RowKit
section
variable {H : Type} {enc : TypeId × Value → H}

theorem returnsInHanded_shaped {a : Assume} {C : Checked} {os : Os} {f : FuncId} {fn : Func} {s : ChangeSpec} {conds : List PathCond} {apart fresh handsOn again : Bool} {X : World → Array Value → Prop}
    (hX : ∀ (w w' : World) (args : Array Value), w.heap = w'.heap → X w args → X w' args)
    (own : ownKnob C.prog.godebug = none) (started : os.Started) (noInit : C.prog.inits.idxOf? f = none) (hfn : C.prog.funcs[f]? = some fn)
    (witness : ∃ (w : World) (tape : Tape) (i : Input), w.os = os ∧ (w.forCall tape i).Shaped C.prog ∧ i.vars = [] ∧ Input.okWide C.prog (w.forCall tape i) .any w.heap.size f i ∧
      ((s.pre enc C.prog fn conds apart (w.forCall tape i).memory i.args ∧ X (w.forCall tape i).memory i.args) ∧ sizedMet enc C.prog fn (OpenSpec.ofChange s) apart (w.forCall tape i).memory i.args) ∧ a.holds C.prog (lone (Frame.enter C.prog f i.args .normal) [] (w.forCall tape i)))
    (contract : ∀ (W : World) (base : Nat) (args : Array Value) (ds gs : List (DataW H)) (before : List MemPlace), W.ShapedOpen C.prog →
      (∀ (j : Nat) t v, fn.params[j]? = some t → args[j]? = some v → Value.okWide C.prog W .any base t v) →
      DataW.Whole enc C.prog fn.params.toList s.vars apart W args.toList ds gs before →
      conds.all (PathCond.test C.prog ⟨fn.params.toList, ds, s.plain.varTypes C.prog, gs⟩) = true →
      (DataW.weightsEach C.prog (fn.params.toList ++ s.plain.varTypes C.prog) (ds ++ gs)).all (· ≤ reachBytes) = true → X W args →
      a.holds C.prog (lone (Frame.enter C.prog f args .normal) [] W) →
      Calls C.prog f args W fun e W' => ∃ v, e = .returned v ∧ s.post enc C.prog fn apart fresh handsOn again W args v W') :
    ReturnsInHanded a C os f .any (fun w args => (s.pre enc C.prog fn conds apart w args ∧ X w args) ∧ sizedMet enc C.prog fn (OpenSpec.ofChange s) apart w args) (s.post enc C.prog fn apart fresh handsOn again) := by
  refine returnsInHanded_of_calls own started noInit witness ?_
  intro w tape i _ hsh _ hok hpre hholds
  obtain ⟨_, _, _, fn', hfn', _, _, _, _, hval⟩ := hok
  have e : fn' = fn := Option.some.inj (hfn'.symm.trans hfn)
  subst e
  obtain ⟨⟨⟨ds, gs, before, hw, hc⟩, hx⟩, hz⟩ := hpre
  have hw' := DataW.Whole.of_heap (w' := w.forCall tape i) (by rfl) hw
  refine (contract (w.forCall tape i) w.heap.size i.args ds gs before hsh hval hw' hc (hz.weights hw) (hX _ _ _ (by rfl) hx) hholds).mono fun e W' ⟨v, he, hp⟩ => ?_
  subst he
  exact ChangeSpec.post_blind hp
end
end Go.Proofs.YtfehlbepjmmkeaaGreatDoor
namespace Go.Proofs.YtfehlbepjmmkeaaGreatDoor
open Go.ChangeShapes Go.WideShapes Go.ChangeAt Go.RowKit
set_option maxRecDepth 100000
theorem own : ownKnob Tryz.prog.godebug = none := by kernel_rfl
end Go.Proofs.YtfehlbepjmmkeaaGreatDoor
namespace Go.Proofs.YtfehlbepjmmkeaaGreatDoor
open Go.ChangeShapes Go.WideShapes Go.ChangeAt Go.RowKit Go.Deep
theorem cells24 : Tryz.prog.cellsOf 24 = 4 := by kernel_rfl
theorem cells22 : Tryz.prog.cellsOf 22 = 1 := by kernel_rfl
theorem cells3 : Tryz.prog.cellsOf 3 = 1 := by kernel_rfl
theorem cells9 : Tryz.prog.cellsOf 9 = 1 := by kernel_rfl
theorem laidOut : laidOutB Tryz.prog = true := by kernel_rfl
theorem bytes24 : Tryz.prog.bytesOf 24 = 56 := by kernel_rfl
section
variable {H : Type} {enc : TypeId × Value → H} {W : World}
/-- What was read is within reach. -/
def Fits (t : TypeId) (d : DataW H) : Prop := ∀ n ∈ d.weights Tryz.prog t, n ≤ reachBytes
theorem weights_mem_all {e : TypeId} {n : Nat} : ∀ {l : List (DataW H)} {d : DataW H}, d ∈ l → n ∈ d.weights Tryz.prog e → n ∈ DataW.weightsAll Tryz.prog e l
  | x :: l, d, hd, hn => by
    rw [DataW.weightsAll, List.mem_append]
    rcases List.mem_cons.1 hd with rfl | hd
    · exact .inl hn
    · exact .inr (weights_mem_all hd hn)
theorem Fits.field {t t' : TypeId} {fs : Array Field} {parts : List (DataW H)} {d : DataW H} {j : Nat} (h : Fits t (.agg parts)) (ht : Tryz.prog.underlying t = some (.struct fs)) (hj : (fs.toList.map (·.type))[j]? = some t') (hd : parts[j]? = some d) : Fits t' d := fun n hn =>
  h n (by rw [DataW.weights, ht]; exact DataW.weights_mem_each hj hd n hn)
theorem Fits.elem {t e : TypeId} {elems spare : List (DataW H)} {d : DataW H} (h : Fits t (.slice elems spare)) (ht : Tryz.prog.underlying t = some (.slice e)) (hd : d ∈ elems) : Fits e d := fun n hn =>
  h n (by rw [DataW.weights, ht]; exact List.mem_cons_of_mem _ (List.mem_append_left _ (weights_mem_all hd hn)))
theorem Fits.len {t e : TypeId} {elems spare : List (DataW H)} (h : Fits t (.slice elems spare)) (ht : Tryz.prog.underlying t = some (.slice e)) : elems.length * Tryz.prog.bytesOf e ≤ reachBytes := by
  have h1 := h ((elems.length + spare.length) * Tryz.prog.bytesOf e) (by rw [DataW.weights, ht]; exact List.mem_cons_self)
  exact Nat.le_trans (Nat.mul_le_mul_right _ (Nat.le_add_right _ _)) h1
theorem add_two (a : Addr) (hs : a.spot = none) (i j : Nat) : (a.add i).add j = ⟨a.block, a.off + i + j, none⟩ := by
  obtain ⟨b, o, sp⟩ := a
  simp only at hs
  subst hs
  unfold Addr.add
  split <;> split <;> simp_all
theorem RunsAt.le {A : Nat → Prop} {d d' : Nat} {v : Value} {ts : List RV} (h : RunsAt W A d v ts) (hd : d ≤ d') : RunsAt W A d' v ts := by
  obtain ⟨p, c, rfl, hl, h1⟩ := h
  refine ⟨p, c, rfl, hl, fun j t hj => ?_⟩
  obtain ⟨g, o, cs, rfl, hA, hc, ht⟩ := h1 j t hj
  exact ⟨g, o, cs, rfl, hA, hc, ht.le hd⟩
instance : Inhabited RV := ⟨.mk 0 0 ⟨#[]⟩ []⟩
/-- A slice of values. -/
theorem runs_open {n : Nat} (ih : ∀ m, m < n → ∀ (cs : List Value) (x : DataW H × List MemPlace), DataW.trod enc Tryz.prog W 0 (fun _ => true) true m 24 cs = some x → Fits 24 x.1 → ∃ t, RunAt W (fun _ => False) m t cs)
    {v : Value} {x : DataW H × List MemPlace} (h : DataW.trod enc Tryz.prog W 0 (fun _ => true) true n 22 [v] = some x) (hw : Fits 22 x.1) : ∃ ts, RunsAt W (fun _ => False) n v ts := by
  rcases DataW.trod_slice Tryz.underlying22 h with ⟨hc, _⟩ | ⟨a, len, cap, elems, rest, m, rfl, hc, rfl, _, hl, hm, hlen, hall, _⟩
  · simp only [List.cons.injEq, and_true] at hc
    exact ⟨[], by rw [hc]; exact ⟨none, 0, rfl, by simp, fun j t hj => by simp at hj⟩⟩
  · simp only [List.cons.injEq, and_true] at hc
    subst hc
    have hex : ∀ i, i < len → ∃ t : RV, ∃ cs, (∀ (j : Nat) (u : Value), cs[j]? = some u → W.cell? ((a.add (i * 4)).add j) = some u) ∧ RunAt W (fun _ => False) m t cs := by
      intro i hi
      have h1 := hall i hi
      rw [cells24] at h1
      obtain ⟨y, hy⟩ : ∃ y, elems[i]? = some y := ⟨_, List.getElem?_eq_getElem (by omega)⟩
      rw [hy] at h1
      obtain ⟨cs, h2, h3⟩ := Option.bind_eq_some_iff.1 h1
      obtain ⟨_, hcl, hcell⟩ := World.cells?_some h2
      have hyf : Fits 24 y.1 := hw.elem Tryz.underlying22 (List.mem_map.2 ⟨y, List.mem_of_getElem? hy, rfl⟩)
      obtain ⟨t, ht⟩ := ih m (by omega) cs y h3 hyf
      refine ⟨t, cs, fun j u hj => ?_, ht⟩
      rw [hcell j (by have := (List.getElem?_eq_some_iff.1 hj).1; omega)]
      exact hj
    obtain ⟨f, hf⟩ := choose_lt (α := RV) (p := fun i t => ∃ cs, (∀ (j : Nat) (u : Value), cs[j]? = some u → W.cell? ((a.add (i * 4)).add j) = some u) ∧ RunAt W (fun _ => False) m t cs) hex
    refine ⟨(List.range len).map f, some a, cap, by simp, ?_, fun j t hj => ?_⟩
    · have h1 := hw.len Tryz.underlying22
      rw [bytes24, List.length_map, hlen] at h1
      simp only [List.length_map, List.length_range]
      unfold reachBytes at h1
      omega
    · rw [List.getElem?_map] at hj
      cases hr : (List.range len)[j]? with
      | none => rw [hr] at hj; cases hj
      | some j' =>
        rw [hr] at hj
        obtain ⟨hjl, hj2⟩ := List.getElem?_eq_some_iff.1 hr
        simp at hjl hj2
        subst hj2
        injection hj with hj
        subst hj
        obtain ⟨cs0, h00, ht0⟩ := hf 0 (by omega)
        obtain ⟨cs, h1, ht⟩ := hf j hjl
        have hsp : a.spot = none := by
          have h4 := ht0.len
          have := World.cell?_spot (h00 0 (cs0[0]'(by omega)) (List.getElem?_eq_getElem _))
          simpa [Addr.add] using this
        refine ⟨a.block, a.off, cs, by obtain ⟨b, o, sp⟩ := a; simp only at hsp; subst hsp; rfl, fun h => h, fun i u hi => ?_, ht.le (Nat.le_succ _)⟩
        rw [← add_two a hsp]
        exact h1 i u hi
set_option maxRecDepth 100000 in
/-- A value. -/
theorem run_open : ∀ (fuel : Nat) (cs : List Value) (x : DataW H × List MemPlace), DataW.trod enc Tryz.prog W 0 (fun _ => true) true fuel 24 cs = some x → Fits 24 x.1 → ∃ t, RunAt W (fun _ => False) fuel t cs := by
  intro fuel
  induction fuel using Nat.strongRecOn with
  | _ fuel ih =>
    intro cs x h hw
    obtain ⟨xs, n, rfl, rfl, hl, hlen, hf⟩ := DataW.trod_struct Tryz.underlying24 h
    rw [cells24] at hl
    match xs, hlen, cs, hl with
    | [y0, y1, y2, y3], _, [v0, v1, v2, v3], _ =>
      have f0 := hf 0 _ rfl
      have f1 := hf 1 _ rfl
      have f2 := hf 2 _ rfl
      have f3 := hf 3 _ rfl
      simp only [List.getElem?_cons_zero, List.getElem?_cons_succ] at f0 f1 f2 f3
      obtain ⟨k, e0, _, _⟩ := DataW.trod_int Tryz.underlying3 f0
      obtain ⟨m, e1, _, _⟩ := DataW.trod_int Tryz.underlying3 f1
      obtain ⟨s, e2, _⟩ := DataW.trod_string Tryz.underlying9 f2
      injection e0 with e0 _
      injection e1 with e1 _
      injection e2 with e2 _
      obtain ⟨ts, p, c, rfl, hl2, h1⟩ := runs_open (n := n) (fun m hm => ih m (by omega)) f3 (hw.field (j := 3) Tryz.underlying24 rfl rfl)
      exact ⟨.mk k m s ts, p, c, by rw [e0, e1, e2], hl2, h1⟩
end
end Go.Proofs.YtfehlbepjmmkeaaGreatDoor
