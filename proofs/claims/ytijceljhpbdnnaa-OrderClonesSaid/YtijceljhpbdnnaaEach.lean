/-
  The iterator each: all stamps, group by group. Conditions: the theorem's own hypotheses.
-/
import Derived.Test.YtijceljhpbdnnaaRound
import Derived.Test.YtijceljhpbdnnaaOrd
namespace Go.Proofs.Ytijceljhpbdnnaa
open Go.RowKit Go.Shelf
attribute [local go_sem] Oper.semAt_some

/-- What the iterators read of the groups. -/
def Reads (gs : List Grp) (lb : Nat) (W : World) : Prop :=
  W.cell? ⟨lb, 0, none⟩ = some (.pointer (optp (headB none gs))) ∧
  ∀ (j : Nat) g, gs[j]? = some g → W.cell? ⟨g.b, 35, none⟩ = some (.pointer (optp (headB none (gs.drop (j + 1))))) ∧ W.cell? ⟨g.b, 1, none⟩ = some (.int .i64 g.ss.length) ∧ g.ss.length ≤ 32 ∧
    ∀ (k : Nat) s, g.ss[k]? = some s → W.cell? ⟨g.b, 2 + k, none⟩ = some (.pointer (some ⟨s.b, 0, none⟩))
def arg (gs : List Grp) (i : Nat) : Value := match gs[i]? with | some g => .pointer (some ⟨g.b, 0, none⟩) | none => undef
theorem arg_at {gs : List Grp} {i : Nat} {g : Grp} (h : gs[i]? = some g) : arg gs i = .pointer (some ⟨g.b, 0, none⟩) := by unfold arg; rw [h]
theorem stamps_take {gs : List Grp} {i : Nat} {g : Grp} (h : gs[i]? = some g) : (stampsOf (gs.take (i + 1))).length = (stampsOf (gs.take i)).length + g.ss.length := by
  have hi := List.getElem?_eq_some_iff.1 h
  obtain ⟨hi, e⟩ := hi
  rw [List.take_succ_eq_append_getElem hi, e]
  simp
theorem stamps_take_at {gs : List Grp} {i k : Nat} {g : Grp} (h : gs[i]? = some g) (hk : k < g.ss.length) : (stampsOf gs)[(stampsOf (gs.take i)).length + k]? = g.ss[k]? := by
  have hi := List.getElem?_eq_some_iff.1 h
  obtain ⟨hi, e⟩ := hi
  have h2 := stampsOf_at (l := gs.take i) (g := g) (r := gs.drop (i + 1)) hk
  rwa [show gs.take i ++ g :: gs.drop (i + 1) = gs from by rw [← e, ← List.drop_eq_getElem_cons hi, List.take_append_drop]] at h2

structure EachRel (J : Nat → World → Prop) (X : Nat → Prop) (c0 B1 l lb l' : Nat) (rec : Loop) (W' : World) (k : Nat) (wr : World) : Prop where
  j : J (c0 + k) wr
  b1 : wr.heap[B1]? = some (.cells #[.func (.yield l) #[] #[]] 102 (0, 0))
  b2 : wr.heap[B1 + 1]? = some (.cells #[.pointer (some ⟨lb, 0, none⟩)] 97 (0, 0))
  lp : wr.heap[l']? = some (.loop rec)
  df : wr.heap[rec.defers]? = some (.deferred (some []))
  kp : KeepNC X W' wr

set_option maxHeartbeats 2000000 in
set_option maxRecDepth 100000 in
theorem each1_in (n l bx lb : Nat) (gs : List Grp) (J : Nat → World → Prop) (X : Nat → Prop) (W : World)
    (hm : ∀ i W', J i W' → Reads gs lb W') (hbx : W.cell? ⟨bx, 0, none⟩ = some (.pointer (some ⟨lb, 0, none⟩))) (hbl : bx < W.heap.size)
    (hX : ∀ b, X b → b < W.heap.size)
    (hJa : ∀ i W' o, J i W' → J i (W'.alloc o)) (hJd : ∀ i W', J i W' → J i W'.drew)
    (hJp : ∀ i W' b o o', J i W' → W.heap.size ≤ b → W'.heap[b]? = some o → o.isCells = false → J i (W'.putObj b o'))
    (h0 : J 0 W)
    (hY : ∀ i W1 s, (stampsOf gs)[i]? = some s → J i W1 → Yields l #[.pointer (some ⟨s.b, 0, none⟩)] W1 fun e W' => e = .returned (.bool true) ∧ J (i + 1) W' ∧ KeepNC X W1 W') :
    CallsIn Fence.wide n Try.prog 56 #[.func (.yield l) #[] #[], .pointer (some ⟨bx, 0, none⟩)] W fun e W' => (∃ v, e = .returned v) ∧ J (stampsOf gs).length W' := by
  have HM := Lib.hid hm
  have HX := Lib.hid hX
  have HJa := Lib.hid hJa
  have HJd := Lib.hid hJd
  have HJp := Lib.hid hJp
  have H0 := Lib.hid h0
  have HY := Lib.hid hY
  clear hm hX hJa hJd hJp h0 hY
  refine callsIn_of_wp_marks Try.func56 rfl trivial ?_ rfl
  simp only [Try.ntmps56, List.size_toArray, List.length_cons, List.length_nil, Nat.reduceAdd, Nat.reduceSub, Array.replicate_succ, Array.replicate_zero, List.push_toArray, List.append_toArray, List.nil_append, List.cons_append]
  refine wpIn_wide.2 ?_
  go_wp2_with (go_at_call 44; refine (groups_mk lb _).mono ?_; rintro e w' ⟨rfl, rfl⟩)
  refine (wpIn_wide (n := 0)).1 ?_
  have hB1 : ((W.alloc (.cells #[.func (.yield l) #[] #[]] 102)).alloc (.cells #[.pointer (some ⟨lb, 0, none⟩)] 97)).heap[W.heap.size]? = some (.cells #[.func (.yield l) #[] #[]] 102 (0, 0)) :=
    heap_alloc_old _ (heap_alloc_at _ _)
  have hB2 : ((W.alloc (.cells #[.func (.yield l) #[] #[]] 102)).alloc (.cells #[.pointer (some ⟨lb, 0, none⟩)] 97)).heap[W.heap.size + 1]? = some (.cells #[.pointer (some ⟨lb, 0, none⟩)] 97 (0, 0)) := by
    have := heap_alloc_at (W.alloc (.cells #[.func (.yield l) #[] #[]] 102)) (.cells #[.pointer (some ⟨lb, 0, none⟩)] 97)
    rwa [World.size_alloc] at this
  refine wpIn_range (gf := 57) (lb := #[.pointer (some ⟨W.heap.size + 1, 0, none⟩)]) (by simp [go_sem]) (enters_of Try.func57 (by kernel_rfl) rfl) gs.length (fun i => #[arg gs i])
    (fun i W' => J (stampsOf (gs.take i)).length W' ∧ W'.heap[W.heap.size]? = some (.cells #[.func (.yield l) #[] #[]] 102 (0, 0)) ∧ W'.heap[W.heap.size + 1]? = some (.cells #[.pointer (some ⟨lb, 0, none⟩)] 97 (0, 0)))
    X (fun b hb => by have := HX.out b hb; simp; omega) (fun _ => rfl) ?_ ?_ ?_ ?_ ?_
    (fun i => { tmps := #[.func (.yield l) #[] #[], .pointer (some ⟨bx, 0, none⟩), .pointer (some ⟨W.heap.size, 0, none⟩), arg gs i, undef, undef, .pointer (some ⟨lb, 0, none⟩), .func (.func 57) #[] #[.pointer (some ⟨W.heap.size + 1, 0, none⟩)], arg gs i, undef, undef, undef, undef, undef, undef, undef, undef, undef, undef, undef, undef, undef, undef, undef, undef, undef, undef], defers := [] }) ?assign ?body ?done
  case assign =>
    intro l' i W' K hK
    gi_wp2
    exact hK
  case done =>
    rintro D W' hD ⟨hJ, _, _⟩ hK
    rw [List.take_length] at hJ
    have HJ := Lib.hid hJ
    have HK := Lib.hid hK
    clear hJ hK
    go_wp2
    refine ⟨by simp, .inl ⟨_, _, rfl, run_takeDeferred HK.out, ?_⟩⟩
    exact ⟨_, results_none rfl _ _ _, ⟨_, rfl⟩, HJp.out _ _ D _ _ HJ.out (by simp at hD; omega) HK.out rfl⟩
  · rintro i W' o ⟨a, b, c⟩
    exact ⟨HJa.out _ _ _ a, heap_alloc_old _ b, heap_alloc_old _ c⟩
  · rintro i W' ⟨a, b, c⟩
    exact ⟨HJd.out _ _ a, b, c⟩
  · rintro i W' b o o' ⟨j1, j2, j3⟩ hb ho hc
    simp at hb
    exact ⟨HJp.out _ _ b o o' j1 (by omega) ho hc, by rw [World.putObj_heap_other (by omega)]; exact j2, by rw [World.putObj_heap_other (by omega)]; exact j3⟩
  · exact ⟨by simpa using HJa.out _ _ _ (HJa.out _ _ _ H0.out), hB1, hB2⟩
  · intro l' J' W' hJJ h0' _ _ _ _ _ hY'
    refine groups1_in _ l' (W.heap.size + 1) lb gs J' (KeepNC (fun b => X b ∨ b = l')) W' ?_ h0' ?_
    · intro i W'' hJ'
      obtain ⟨a, b, c⟩ := hJJ i W'' hJ'
      obtain ⟨r1, r2⟩ := HM.out _ _ a
      exact ⟨by rw [cell_of_block c]; rfl, r1, fun j g hg => (r2 j g hg).1⟩
    · intro i W1 g hg hJ'
      have := hY' i W1 (List.getElem?_eq_some_iff.1 hg).1 hJ'
      rwa [arg_at hg] at this
  case body =>
    rintro l' i rec W' hi hl' hrec hL hD ⟨hJ, hb1, hb2⟩
    have hg : gs[i]? = some gs[i] := List.getElem?_eq_getElem hi
    generalize gs[i] = g at hg
    obtain ⟨r1, r2⟩ := HM.out _ _ hJ
    obtain ⟨r3, r4, r5, r6⟩ := r2 i g hg
    rw [arg_at hg]
    have HJ := Lib.hid hJ
    have Hb1 := Lib.hid hb1
    have Hb2 := Lib.hid hb2
    have HG := Lib.hid hg
    have HR6 := Lib.hid r6
    have HL := Lib.hid hL
    have HD := Lib.hid hD
    have Hrec := Lib.hid hrec
    obtain ⟨N, hN⟩ : ∃ N, N = g.ss.length := ⟨_, rfl⟩
    rw [← hN] at r4 r5
    have HN := Lib.hid hN
    clear hJ hb1 hb2 hg r1 r2 r3 r6 hL hD hrec hN hB1 hB2
    gi_wp2
    refine wpIn_still (by kernel_rfl) (by kernel_rfl) (by kernel_rfl) (by rintro ⟨a, w, h⟩; exact h) ?_
    repeat still_step
    refine wpStill_nil ?_
    gi_wp2
    gi_loopw [5, 18] (fun _ c wr => ∃ k : Nat, k ≤ N ∧ c = .int .i64 k ∧ EachRel J X (stampsOf (gs.take i)).length W.heap.size l lb l' rec W' k wr) (fun _ c _ => N - (intOf c).toNat)
    case atStart => exact ⟨0, Nat.zero_le _, rfl, ⟨HJd.out _ _ HJ.out, Hb1.out, Hb2.out, HL.out, by rw [Hrec.out]; exact HD.out, (KeepNC.refl _ _).drew⟩⟩
    case round =>
      obtain ⟨k, hk, rfl, hr⟩ := hrel
      have HR := Lib.hid hr
      clear hr
      by_cases hlt : k < N
      · obtain ⟨s, hs⟩ : ∃ s, g.ss[k]? = some s := ⟨g.ss[k]'(by rw [← HN.out]; exact hlt), List.getElem?_eq_getElem _⟩
        obtain ⟨_, q2⟩ := HM.out _ _ HR.out.j
        obtain ⟨_, _, _, q6⟩ := q2 i g HG.out
        have c1 := q6 k s hs
        have c2 : wr.cell? ⟨W.heap.size, 0, none⟩ = some (.func (.yield l) #[] #[]) := by rw [cell_of_block HR.out.b1]; rfl
        have hsO : (stampsOf gs)[(stampsOf (gs.take i)).length + k]? = some s := by rw [stamps_take_at HG.out (by rw [← HN.out]; exact hlt)]; exact hs
        obtain ⟨fn, tmps, assign, body, hy1, hRd⟩ := HY.out _ wr s hsO HR.out.j
        have HRd := Lib.hid hRd
        clear q2 q6 hs hsO hRd
        gi_wp2
        refine ⟨rfl, roundIn_inRound l' ((roundIn_any _ HRd.out).mono ?_)⟩
        rintro e W3 ⟨rfl, hJ3, hY3⟩
        have hx : ¬ X W.heap.size := fun h => by have := HX.out _ h; omega
        have hx2 : ¬ X (W.heap.size + 1) := fun h => by have := HX.out _ h; omega
        have hx3 : ¬ X l' := fun h => by have := HX.out _ h; simp at hl'; omega
        have hx4 : ¬ X rec.defers := fun h => by have := HX.out _ h; rw [Hrec.out] at this; simp at this; omega
        have hnew : EachRel J X (stampsOf (gs.take i)).length W.heap.size l lb l' rec W' (k + 1) W3 :=
          ⟨hJ3, hY3.same _ _ hx HR.out.b1 rfl, hY3.same _ _ hx2 HR.out.b2 rfl, hY3.same _ _ hx3 HR.out.lp rfl, hY3.same _ _ hx4 HR.out.df rfl, HR.out.kp.trans hY3⟩
        have HNew := Lib.hid hnew
        clear hJ3 hY3 hx hx2 hx3 hx4 hnew
        gi_wp2
        go_roundw
        case rel => exact ⟨k + 1, by omega, by go_num, HNew.out⟩
        case measure => simp [intOf]; omega
      · obtain rfl : k = N := by omega
        gi_wp2
        obtain ⟨e1, e2, e3, e4, e5, e6⟩ := HR.out
        refine ⟨e4, e5, e6, ?_, e2, e3⟩
        rw [stamps_take HG.out, ← HN.out]; exact e1
end Go.Proofs.Ytijceljhpbdnnaa
