/-
  slices.Collect of an order's groups; Groups. Condition: what the iterator reads of the groups.
-/
import Derived.Test.YtijceljhpbdnnaaStamps
namespace Go.Proofs.Ytijceljhpbdnnaa
open Go.RowKit Go.Shelf
attribute [local go_sem] Oper.semAt_some

/-- Between two rounds of a loop that gathers: so many have been gathered. -/
def GJ (w : World) (Bo : Nat) (tb te : TypeId) (xs : List Value) (i : Nat) (W : World) : Prop :=
  (∃ v, W.heap[Bo]? = some (.cells #[v] tb (0, 0)) ∧ W.ownsRow w.heap.size te 1 v i (xs.take i)) ∧ Below w.heap.size w W
section
variable {w : World} {Bo : Nat} {tb te : TypeId} {xs : List Value} {i : Nat} {W : World}
theorem GJ.alloc (h : GJ w Bo tb te xs i W) (o : Obj) : GJ w Bo tb te xs i (W.alloc o) := by
  obtain ⟨⟨v, h1, h2⟩, h3⟩ := h
  exact ⟨⟨v, heap_alloc_old _ h1, h2.alloc _⟩, h3.alloc h3.size _⟩
theorem GJ.drew (h : GJ w Bo tb te xs i W) : GJ w Bo tb te xs i W.drew := by
  obtain ⟨⟨v, h1, h2⟩, h3⟩ := h
  exact ⟨⟨v, h1, h2⟩, h3.drew⟩
theorem GJ.putObj (h : GJ w Bo tb te xs i W) {b : Nat} {o : Obj} (o' : Obj) (hb : w.heap.size ≤ b) (ho : W.heap[b]? = some o) (hc : o.isCells = false) : GJ w Bo tb te xs i (W.putObj b o') := by
  obtain ⟨⟨v, h1, h2⟩, h3⟩ := h
  refine ⟨⟨v, ?_, ownsRow_putObj h2 o' ho hc⟩, below_putObj h3 hb o'⟩
  rw [World.putObj_heap_other (fun e => by subst e; rw [h1] at ho; cases ho; cases hc)]
  exact h1
/-- One more has been gathered. -/
theorem GJ.put {W1 W2 : World} {v v' x : Value} (ht : tb ≠ te) (hs1 : (te == 97 || te == 102) = false) (hs2 : (tb == 97 || tb == 102) = false) (hB : w.heap.size ≤ Bo) (h1 : W.heap[Bo]? = some (.cells #[v] tb (0, 0)))
    (h2 : W.ownsRow w.heap.size te 1 v i (xs.take i)) (h3 : Below w.heap.size w W) (hn : xs[i]? = some x) (hW1 : Kept (fun _ => False) W W1)
    (hown : W2.ownsRow w.heap.size te 1 v' (i + 1) (xs.take i ++ [x])) (hg : W1.grownBy W2 v.ownBlock) :
    GJ w Bo tb te xs (i + 1) (W2.setCell ⟨Bo, 0, none⟩ v') ∧ KeepNC (fun _ => False) W (W2.setCell ⟨Bo, 0, none⟩ v') ∧ W2.heap[Bo]? = some (.cells #[v] tb (0, 0)) := by
  have hso := ownsRow_soft h2 hs1
  have hlt := lt_of_block h1
  have hk0 : KeepNC (fun _ => False) W W1 := (KeepNC.refl _ W).kept hW1 (fun b h => h.elim)
  have hk1 : KeepNC (fun _ => False) W W2 := by
    refine hk0.grown hg ?_
    intro k hk o ho
    obtain ⟨_, hkl⟩ := h2.lt k hk
    rw [hW1.block k hkl (fun h => h)] at ho
    exact hso k hk o ho
  have hbo : ∀ k, v.ownBlock = some k → k ≠ Bo := by
    intro k hk e
    obtain ⟨_, h | ⟨g, cap, cur, hv, hz, hgg, r⟩⟩ := h2
    · rw [h.1] at hk; simp [Value.ownBlock] at hk
    · rw [hv] at hk; simp [Value.ownBlock] at hk; subst hk; subst e; rw [h1] at hgg; simp at hgg; exact ht hgg.2
  have hB1 : W2.heap[Bo]? = some (.cells #[v] tb (0, 0)) := by
    rw [hg.block Bo (Nat.lt_of_lt_of_le hlt hW1.size) (fun e => hbo Bo e.symm rfl), hW1.block Bo hlt (fun h => h)]
    exact h1
  have hso2 := soft_of hB1 hs2
  have hx : xs.take (i + 1) = xs.take i ++ [x] := by
    have hi := List.getElem?_eq_some_iff.1 hn
    obtain ⟨hi, e⟩ := hi
    rw [List.take_succ_eq_append_getElem hi, e]
  refine ⟨⟨⟨v', ?_, ?_⟩, ?_⟩, hk1.setCell _ _ hso2, hB1⟩
  · rw [heap_set_same hB1]; rfl
  · rw [hx]
    refine ownsRow_setCell_other hown ?_ _
    intro e
    obtain ⟨_, h | ⟨g, cap, cur, hv, hz, hgg, r⟩⟩ := hown
    · rw [h.1] at e; simp [Value.ownBlock] at e
    · rw [hv] at e; simp [Value.ownBlock] at e; subst e; rw [hB1] at hgg; simp at hgg; exact ht hgg.2
  · refine Below.setCell ?_ (p := ⟨Bo, 0, none⟩) hB _
    have hb1 : Below w.heap.size w W1 := h3.trans (hW1.below h3.size (fun k h => h.elim))
    refine hb1.grown hg hb1.size ?_
    intro k hk; exact (h2.lt k hk).1
end
theorem info61 : (Try.prog.info? 61).map (fun i => (i.zero, i.size, i.bytes)) = some (some (.pointer none), 1, 8) := by kernel_rfl
theorem under106 : Try.prog.underlying 106 = some (.slice 61) := by kernel_rfl

set_option maxHeartbeats 2000000 in
set_option maxRecDepth 100000 in
theorem appendSeq_of (w : World) (bx lb : Nat) (gs : List Grp) (hbx : w.cell? ⟨bx, 0, none⟩ = some (.pointer (some ⟨lb, 0, none⟩))) (hbl : bx < w.heap.size)
    (hr : Reads gs lb w) (hlb : lb < w.heap.size) (hgl : ∀ g, g ∈ gs → g.b < w.heap.size) (hlen : gs.length ≤ 100000) :
    Calls Try.prog 61 #[.slice none 0 0, .func (.func 57) #[] #[.pointer (some ⟨bx, 0, none⟩)]] w fun e w' => ∃ v, e = .returned v ∧ w'.ownsRow w.heap.size 61 1 v gs.length (gs.map fun g => ptr g.b) ∧ Below w.heap.size w w' := by
  obtain ⟨i0, hi, hz0, hz1, hz2⟩ := info_parts info61
  obtain ⟨L, hL⟩ : ∃ L, L = gs.length := ⟨_, rfl⟩
  rw [← hL] at hlen ⊢
  have HL := Lib.hid hL
  have HR := Lib.hid hr
  have HG := Lib.hid hgl
  have HBx := Lib.hid hbx
  clear hL hr hgl hbx
  refine (callsIn_wide (n := 0)).1 ?_
  refine callsIn_of_wp_marks Try.func61 rfl trivial ?_ rfl
  simp only [Try.ntmps61, List.size_toArray, List.length_cons, List.length_nil, Nat.reduceAdd, Nat.reduceSub, Array.replicate_succ, Array.replicate_zero, List.push_toArray, List.append_toArray, List.nil_append, List.cons_append]
  refine wpIn_wide.2 ?_
  go_wp2
  refine (wpIn_wide (n := 0)).1 ?_
  have hB1 : (w.alloc (.cells #[.slice none 0 0] 106)).heap[w.heap.size]? = some (.cells #[.slice none 0 0] 106 (0, 0)) := heap_alloc_at _ _
  have hb0 : Below w.heap.size w (w.alloc (.cells #[.slice none 0 0] 106)) := (Below.refl _ w).alloc (Nat.le_refl _) _
  have hbxc : ∀ W, Below w.heap.size w W → W.cell? ⟨bx, 0, none⟩ = some (.pointer (some ⟨lb, 0, none⟩)) := fun W hb => by rw [hb.cell (p := ⟨bx, 0, none⟩) hbl]; exact HBx.out
  have HBc := Lib.hid hbxc
  clear hbxc
  refine wpIn_range (gf := 57) (lb := #[.pointer (some ⟨bx, 0, none⟩)]) (by simp [go_sem]) (enters_of Try.func57 (by kernel_rfl) rfl) L (fun i => #[arg gs i])
    (GJ w w.heap.size 106 61 (gs.map fun g => ptr g.b)) (fun _ => False) (fun b hb => hb.elim) (fun _ => rfl) (fun i W o h => h.alloc o) (fun i W h => h.drew) (fun i W b o o' h hb ho hc => h.putObj o' (by simp at hb; omega) ho hc)
    ⟨⟨_, hB1, by simpa using World.ownsRow_nil _ _ _ _⟩, hb0⟩ ?_
    (fun i => { tmps := #[.slice none 0 0, .func (.func 57) #[] #[.pointer (some ⟨bx, 0, none⟩)], .pointer (some ⟨w.heap.size, 0, none⟩), undef, .slice none 0 0, arg gs i, .func (.func 57) #[] #[.pointer (some ⟨bx, 0, none⟩)], arg gs i, undef, undef, undef, undef, undef], defers := [] }) ?assign ?body ?done
  case assign =>
    intro l' i W' K hK
    gi_wp2
    exact hK
  case done =>
    rintro D W' hD ⟨⟨v, hv1, hv2⟩, hb⟩ hK
    have c3 : W'.cell? ⟨w.heap.size, 0, none⟩ = some v := by rw [cell_of_block hv1]; rfl
    have HV2 := Lib.hid hv2
    have HBl := Lib.hid hb
    have HK := Lib.hid hK
    clear hv1 hv2 hb hK
    go_wp2
    refine ⟨by simp, .inl ⟨_, _, rfl, run_takeDeferred HK.out, ?_⟩⟩
    refine ⟨_, results_tmp rfl _ _ _, v, rfl, ?_, below_putObj HBl.out (by simp at hD; omega) _⟩
    have := ownsRow_putObj HV2.out (.deferred none) HK.out rfl
    rwa [List.take_of_length_le (by rw [HL.out]; simp)] at this
  · intro l' J' W' hJJ h0' hl hW ha hd hp hY'
    have := groups1_in 0 l' bx lb gs J' (KeepNC (fun b => False ∨ b = l')) W' (fun i W'' hJ' => by
      obtain ⟨_, hb⟩ := hJJ i W'' hJ'
      have hr' := HR.out.of_below hb hlb HG.out
      exact ⟨HBc.out W'' hb, hr'.1, fun j g hg => (hr'.2 j g hg).1⟩) h0' (fun i W1 g hg hJ' => by
        have := hY' i W1 (by rw [HL.out]; exact (List.getElem?_eq_some_iff.1 hg).1) hJ'
        rwa [arg_at hg] at this)
    rw [← HL.out] at this; exact this
  case body =>
    rintro l' i rec W' hi' hl' hrec hL' hD ⟨⟨v, hv1, hv2⟩, hb⟩
    obtain ⟨g, hg⟩ : ∃ g, gs[i]? = some g := ⟨gs[i]'(by rw [← HL.out]; exact hi'), List.getElem?_eq_getElem _⟩
    rw [arg_at hg]
    have c3 : W'.cell? ⟨w.heap.size, 0, none⟩ = some v := by rw [cell_of_block hv1]; rfl
    have hxs : (gs.map fun g => ptr g.b)[i]? = some (ptr g.b) := by simp [hg]
    have hbsz := hb.size
    have HV1 := Lib.hid hv1
    have HV2 := Lib.hid hv2
    have HBl := Lib.hid hb
    have HLp := Lib.hid hL'
    have HD := Lib.hid hD
    have Hrec := Lib.hid hrec
    have HXs := Lib.hid hxs
    clear hv1 hv2 hb hL' hD hrec hg hB1 hb0 hxs
    gi_wp2_with (gi_at_builtin; refine wpListIn_append_own _ rfl _ _ 106 rfl w.heap.size 61 i0 (.pointer none) 1 8 under106 hi hz0 hz1 hz2 rfl (by decide) v i ((gs.map fun g => ptr g.b).take i) rfl (HV2.out.alloc _) ⟨W'.heap.size, 0, none⟩ 1 1 [ptr g.b] rfl rfl (cell_one_new _ _ _) (by simp [Value.oneCell']) (by unfold maxLen; omega) (by omega) (by simp; omega) ?_; intro v2 w2 hown2 hgrow2 hnil2; obtain ⟨g2, cap2, rfl⟩ := ownsRow_succ hown2; have hput := GJ.put (by decide) rfl rfl (Nat.le_refl _) HV1.out HV2.out HBl.out HXs.out ((Kept.refl _ _).alloc _) hown2 hgrow2; have cb := cell_of_one hput.2.2; have fb := free_of_one hput.2.2; have HPut := Lib.hid hput; clear hput hown2 hgrow2 hnil2)
    obtain ⟨p1, p2, p3⟩ := HPut.out
    exact ⟨p2.same _ _ (fun h => h) HLp.out rfl, by rw [Hrec.out]; exact p2.same _ _ (fun h => h) HD.out rfl, p2, p1⟩

set_option maxHeartbeats 400000 in
theorem collect_of (w : World) (bx lb : Nat) (gs : List Grp) (hbx : w.cell? ⟨bx, 0, none⟩ = some (.pointer (some ⟨lb, 0, none⟩))) (hbl : bx < w.heap.size)
    (hr : Reads gs lb w) (hlb : lb < w.heap.size) (hgl : ∀ g, g ∈ gs → g.b < w.heap.size) (hlen : gs.length ≤ 100000) :
    Calls Try.prog 59 #[.func (.func 57) #[] #[.pointer (some ⟨bx, 0, none⟩)]] w fun e w' => ∃ v, e = .returned v ∧ w'.ownsRow w.heap.size 61 1 v gs.length (gs.map fun g => ptr g.b) ∧ Below w.heap.size w w' := by
  have h := appendSeq_of w bx lb gs hbx hbl hr hlb hgl hlen
  have H := Lib.hid h
  clear h hbx hr hgl
  go_enter Try.func59, Try.ntmps59
  go_wp2_with (go_at_call 61; refine H.out.mono ?_; rintro e w' ⟨v, rfl, h1, h2⟩; have H1 := Lib.hid h1; have H2 := Lib.hid h2; clear h1 h2)
  go_ret
  exact ⟨_, rfl, H1.out, H2.out⟩
end Go.Proofs.Ytijceljhpbdnnaa
