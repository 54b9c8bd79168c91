/-
  DeleteBetween over a whole order. Condition: Inv, the order as it lies in memory.
-/
import Derived.Test.YtijceljhpbdnnaaDelete
namespace Go.Proofs.Ytijceljhpbdnnaa
open Go.RowKit

/-- What deletions leave as it was. -/
structure Fewer (O O' : Ord) : Prop where
  lb : O'.lb = O.lb
  len : O'.P.length = O.P.length
  moves : O'.moves = O.moves
  tags : (O'.gs.map (·.tag)).Sublist (O.gs.map (·.tag))
  over : over O'.gs ≤ over O.gs
  own : ∀ k, O'.own k → O.own k
theorem Fewer.refl (O : Ord) : Fewer O O := ⟨rfl, rfl, rfl, List.Sublist.refl _, Nat.le_refl _, fun _ h => h⟩
theorem Fewer.trans {A B C : Ord} (h : Fewer A B) (k : Fewer B C) : Fewer A C :=
  ⟨k.lb.trans h.lb, k.len.trans h.len, k.moves.trans h.moves, k.tags.trans h.tags, Nat.le_trans k.over h.over, fun x hx => h.own x (k.own x hx)⟩
theorem Shrunk.fewer {O O' : Ord} {s : Stp} {i : Nat} (h : Shrunk O O' s i) : Fewer O O' :=
  ⟨h.lb, by rw [h.P]; simp, h.moves, h.tags, h.over, h.own⟩

set_option maxHeartbeats 400000 in
theorem db_no1 (l s t : Value) (q : Option Addr) (w : World)
    (hf : Calls Try.prog 34 #[l, s] w fun e w' => e = .returned (.pointer none) ∧ w = w')
    (hg : Calls Try.prog 34 #[l, t] w fun e w' => e = .returned (.pointer q) ∧ w = w') :
    Calls Try.prog 28 #[l, s, t] w fun e w' => e = .returned (.tuple #[.int .i64 0, .int .i64 180]) ∧ w = w' := by
  have Hf := Lib.hid hf
  have Hg := Lib.hid hg
  clear hf hg
  go_enter Try.func28, Try.ntmps28
  go_wp2_with fail
  refine Hf.out.mono ?_; rintro e w' ⟨rfl, rfl⟩
  go_wp2_with fail
  refine Hg.out.mono ?_; rintro e w' ⟨rfl, rfl⟩
  go_wp2
  go_ret2
  exact ⟨rfl, rfl⟩
set_option maxHeartbeats 400000 in
theorem db_no2 (l s t : Value) (p : Addr) (w : World)
    (hf : Calls Try.prog 34 #[l, s] w fun e w' => e = .returned (.pointer (some p)) ∧ w = w')
    (hg : Calls Try.prog 34 #[l, t] w fun e w' => e = .returned (.pointer none) ∧ w = w') :
    Calls Try.prog 28 #[l, s, t] w fun e w' => e = .returned (.tuple #[.int .i64 0, .int .i64 180]) ∧ w = w' := by
  have Hf := Lib.hid hf
  have Hg := Lib.hid hg
  clear hf hg
  go_enter Try.func28, Try.ntmps28
  go_wp2_with fail
  refine Hf.out.mono ?_; rintro e w' ⟨rfl, rfl⟩
  go_wp2_with fail
  refine Hg.out.mono ?_; rintro e w' ⟨rfl, rfl⟩
  go_wp2
  go_ret2
  exact ⟨rfl, rfl⟩
set_option maxHeartbeats 400000 in
theorem db_none (l s t : Value) (p q : Addr) (w : World)
    (hf : Calls Try.prog 34 #[l, s] w fun e w' => e = .returned (.pointer (some p)) ∧ w = w')
    (hg : Calls Try.prog 34 #[l, t] w fun e w' => e = .returned (.pointer (some q)) ∧ w = w')
    (hl : Calls Try.prog 39 #[.pointer (some p), .pointer (some q)] w fun e w' => e = .returned (.bool false) ∧ ∃ m, w' = w.drewN m) :
    Calls Try.prog 28 #[l, s, t] w fun e w' => e = .returned (.tuple #[.int .i64 0, .int .i64 3]) ∧ ∃ m, w' = w.drewN m := by
  have Hf := Lib.hid hf
  have Hg := Lib.hid hg
  have Hl := Lib.hid hl
  clear hf hg hl
  go_enter Try.func28, Try.ntmps28
  go_wp2_with fail
  refine Hf.out.mono ?_; rintro e w' ⟨rfl, rfl⟩
  go_wp2_with fail
  refine Hg.out.mono ?_; rintro e w' ⟨rfl, rfl⟩
  go_wp2_with (go_at_call 39; refine Hl.out.mono ?_; rintro e w' ⟨rfl, m, rfl⟩)
  go_ret2
  exact ⟨rfl, _, rfl⟩

/-- Behind j rounds. -/
structure BetRel (w : World) (O : Ord) (i k j : Nat) (wr : World) (O' : Ord) : Prop where
  inv : Inv wr O'
  few : Fewer O O'
  stamps : stampsOf O'.gs = (stampsOf O.gs).take (i + 1) ++ (stampsOf O.gs).drop (i + 1 + j)
  le : i + 1 + j ≤ k
  kept : Kept O.own w wr
theorem BetRel.start {w : World} {O : Ord} (h : Inv w O) {i k : Nat} (hik : i < k) (n : Nat) : BetRel w O i k 0 (w.drewN n) O :=
  ⟨h.drewN n, Fewer.refl O, by simp, by omega, (Kept.refl _ _).drewN n⟩
theorem BetRel.drewN {w : World} {O : Ord} {i k j : Nat} {wr : World} {O' : Ord} (h : BetRel w O i k j wr O') (n : Nat) : BetRel w O i k j (wr.drewN n) O' :=
  ⟨h.inv.drewN n, h.few, h.stamps, h.le, h.kept.drewN n⟩
theorem BetRel.at_x {w : World} {O : Ord} {i k j : Nat} {wr : World} {O' : Ord} (h : BetRel w O i k j wr O') {x : Stp} (hx : (stampsOf O.gs)[i]? = some x) : (stampsOf O'.gs)[i]? = some x := by
  have hil := (List.getElem?_eq_some_iff.1 hx).1
  rw [h.stamps, List.getElem?_append_left (by simp; omega), List.getElem?_take, if_pos (by omega)]; exact hx
theorem BetRel.at_s {w : World} {O : Ord} {i k j : Nat} {wr : World} {O' : Ord} (h : BetRel w O i k j wr O') (hk : k < (stampsOf O.gs).length) : (stampsOf O'.gs)[i + 1]? = (stampsOf O.gs)[i + 1 + j]? := by
  have := h.le
  rw [h.stamps, List.getElem?_append_right (by simp; omega)]
  simp only [List.length_take, List.getElem?_drop]
  congr 1; omega
theorem BetRel.step {w : World} {O : Ord} {i k j : Nat} {wr w2 : World} {O' O2 : Ord} (h : BetRel w O i k j wr O') (hk : k < (stampsOf O.gs).length) (hj : i + 1 + j < k)
    {s : Stp} (h2 : Inv w2 O2) (hs : Shrunk O' O2 s (i + 1)) (hkp : Kept O'.own wr w2) : BetRel w O i k (j + 1) w2 O2 := by
  refine ⟨h2, h.few.trans hs.fewer, ?_, by omega, h.kept.trans hkp (fun x _ hx => h.few.own x hx)⟩
  rw [hs.stamps, h.stamps, List.eraseIdx_append_of_length_le (by simp; omega)]
  congr 1
  have hm : min (i + 1) (stampsOf O.gs).length = i + 1 := by omega
  simp only [List.length_take, hm, Nat.sub_self]
  rw [List.drop_eq_getElem_cons (show i + 1 + j < (stampsOf O.gs).length by omega)]
  simp [Nat.add_assoc]
theorem ids_pos {O : Ord} (h : Wf O) {i : Nat} {s : Stp} (hs : (stampsOf O.gs)[i]? = some s) (hi : 0 < i) : s.id ≠ 0 := by
  intro e
  have h1 : (idsOf O.gs)[i]? = some 0 := by simp [idsOf, hs, e]
  have h2 := h.first
  have := (List.getElem?_inj (List.getElem?_eq_some_iff.1 h1).1 h.ids).1 (h1.trans h2.symm)
  omega
theorem stamp_inj {O : Ord} (h : Wf O) {i j : Nat} {s t : Stp} (hs : (stampsOf O.gs)[i]? = some s) (ht : (stampsOf O.gs)[j]? = some t) (hb : s.b = t.b) : i = j := by
  have h1 := h.tabled s (List.mem_of_getElem? hs)
  have h2 := h.tabled t (List.mem_of_getElem? ht)
  have : (stampsOf O.gs).Pairwise (fun a b => a.b ≠ b.b) := by
    have aux : ∀ gs : List Grp, (foot gs).Nodup → (stampsOf gs).Pairwise (fun a b => a.b ≠ b.b) := by
      intro gs
      induction gs with
      | nil => intro _; simp
      | cons g gs ih =>
        intro hn
        rw [foot_cons] at hn
        have hn1 := List.nodup_append.1 hn
        rw [stampsOf_cons, List.pairwise_append]
        refine ⟨?_, ih hn1.2.1, ?_⟩
        · have := hn1.1
          simp only [Grp.foot, List.nodup_cons] at this
          exact List.pairwise_map.1 this.2
        · intro a ha b hb
          exact hn1.2.2 a.b (by simp only [Grp.foot, List.mem_cons, List.mem_map]; exact .inr ⟨a, ha, rfl⟩) b.b (mem_foot_stamp hb)
    exact aux _ h.nodup
  rcases Nat.lt_trichotomy i j with hlt | e | hgt
  · exact absurd hb (pairwise_lt this hs ht hlt)
  · exact e
  · exact absurd hb.symm (pairwise_lt this ht hs hgt)

set_option maxHeartbeats 2000000 in
theorem db_yes {w : World} {O : Ord} (h : Inv w O) {i k : Nat} {x y : Stp} (hx : (stampsOf O.gs)[i]? = some x) (hy : (stampsOf O.gs)[k]? = some y) (hik : i < k) :
    Calls Try.prog 28 #[.pointer (some ⟨O.lb, 0, none⟩), .int .i64 x.id, .int .i64 y.id] w fun e w' =>
      e = .returned (.tuple #[.int .i64 ((k - i - 1 : Nat) : Int), .int .i64 0]) ∧ ∃ O', BetRel w O i k (k - i - 1) w' O' := by
  have hkl := (List.getElem?_eq_some_iff.1 hy).1
  have hf := find_ord h (x.id : Int)
  have hg := find_ord h (y.id : Int)
  rw [h.wf.look_of (List.mem_of_getElem? hx)] at hf
  rw [h.wf.look_of (List.mem_of_getElem? hy)] at hg
  have hl := less_ord h hx hy
  rw [decide_eq_true hik] at hl
  have hmade : (stampsOf O.gs).length < 1000000000 := by
    have h1 : (idsOf O.gs).length = (stampsOf O.gs).length := by simp [idsOf]
    rw [← h1]
    have h2 : ∀ v, v ∈ idsOf O.gs → v ∈ List.range O.P.length := by
      intro v hv
      obtain ⟨t, ht, rfl⟩ := List.mem_map.1 hv
      exact List.mem_range.2 (List.getElem?_eq_some_iff.1 (h.wf.tabled t ht)).1
    have := h.wf.ids.length_le_of_subset h2
    have := h.wf.made
    simp at *; omega
  have HI := Lib.hid h
  have Hx := Lib.hid hx
  have Hy := Lib.hid hy
  have Hf := Lib.hid hf
  have Hg := Lib.hid hg
  have Hl := Lib.hid hl
  simp only [optp_some] at hf hg
  clear h hx hy hf hg hl
  go_enter Try.func28, Try.ntmps28
  go_wp2_with fail
  refine Hf.out.mono ?_; rintro e w' ⟨rfl, rfl⟩
  go_wp2_with fail
  refine Hg.out.mono ?_; rintro e w' ⟨rfl, rfl⟩
  go_wp2_with (go_at_call 39; refine Hl.out.mono ?_; rintro e w' ⟨rfl, m, rfl⟩)
  obtain ⟨s1, hs1⟩ : ∃ s1, (stampsOf O.gs)[i + 1]? = some s1 := ⟨(stampsOf O.gs)[i + 1], List.getElem?_eq_getElem (by omega)⟩
  have hf1 := follow_ord (HI.out.drewN m) Hx.out
  rw [hs1] at hf1
  have Hf1 := Lib.hid hf1
  have Hs1 := Lib.hid hs1
  clear hf1 hs1
  refine Hf1.out.mono ?_; rintro e w' ⟨rfl, m2, rfl⟩
  simp only [Option.map_some, optp_some]
  go_wp2_with fail
  go_loopw [10, 11] (fun n p wr => ∃ (j : Nat) (O' : Ord) (s : Stp), n = .int .i64 j ∧ BetRel w O i k j wr O' ∧ (stampsOf O.gs)[i + 1 + j]? = some s ∧ p = .pointer (some ⟨s.b, 0, none⟩)) (fun n _ _ => k - (intOf n).toNat)
  case atStart => exact ⟨0, O, s1, rfl, by rw [World.drewN_drewN]; exact BetRel.start HI.out hik _, Hs1.out, rfl⟩
  case round =>
    obtain ⟨j, O', s, rfl, hb, hs, rfl⟩ := hrel
    have hle := hb.le
    have hsO : (stampsOf O'.gs)[i + 1]? = some s := by rw [hb.at_s hkl]; exact hs
    have hyO : ∃ z : Nat, (stampsOf O'.gs)[z]? = some y := by
      refine ⟨k - j, ?_⟩
      rw [hb.stamps, List.getElem?_append_right (by simp; omega)]
      simp only [List.length_take, List.getElem?_drop]
      rw [show i + 1 + j + (k - j - min (i + 1) (stampsOf O.gs).length) = k from by omega]
      exact Hy.out
    obtain ⟨z, hz⟩ := hyO
    have c1 := hb.inv.clean (mem_foot_stamp (List.mem_of_getElem? hsO))
    have c2 := hb.inv.clean (mem_foot_stamp (List.mem_of_getElem? hz))
    obtain ⟨gg, _, _, hst⟩ := seg_stamp hb.inv.seg (List.mem_of_getElem? hsO)
    have c3 := stamp_c0 hst
    have hnid := ids_pos hb.inv.wf hsO (by omega)
    by_cases hj : i + 1 + j = k
    · have hsy : s = y := by rw [hj] at hs; have := Hy.out; rw [hs] at this; simpa using this
      subst hsy
      have HB := Lib.hid hb
      clear hb hs hsO hz hst hnid
      obtain rfl : j = k - i - 1 := by omega
      go_wp2
      go_ret2
      exact ⟨rfl, O', HB.out⟩
    · have hne : ¬ s.b = y.b := fun e => hj (stamp_inj HI.out.wf hs Hy.out e)
      have hd := delete_ord hb.inv hsO hnid
      rw [hb.few.lb] at hd
      have HB := Lib.hid hb
      have HD := Lib.hid hd
      have HS := Lib.hid hs
      have HSO := Lib.hid hsO
      clear hb hs hsO hz hst hnid hd
      go_wp2_with fail
      refine HD.out.mono ?_; rintro e w2 ⟨rfl, O2, hi2, hs2, hk2⟩
      have hB2 := HB.out.step hkl (by omega) hi2 hs2 hk2
      have HB2 := Lib.hid hB2
      obtain ⟨s3, hs3⟩ : ∃ s3, (stampsOf O.gs)[i + 1 + (j + 1)]? = some s3 := ⟨(stampsOf O.gs)[i + 1 + (j + 1)], List.getElem?_eq_getElem (by omega)⟩
      have hf3 := follow_ord hi2 (hB2.at_x Hx.out)
      rw [hB2.at_s hkl, hs3] at hf3
      have HF3 := Lib.hid hf3
      have HS3 := Lib.hid hs3
      clear hi2 hs2 hk2 hB2 hf3 hs3
      go_wp2_with (go_at_call 41; refine HF3.out.mono ?_; rintro e w3 ⟨rfl, m3, rfl⟩; simp only [Option.map_some, optp_some])
      go_roundw
      case rel => exact ⟨j + 1, O2, s3, by go_num, HB2.out.drewN _, HS3.out, rfl⟩
      case measure => simp [intOf]; omega
end Go.Proofs.Ytijceljhpbdnnaa
