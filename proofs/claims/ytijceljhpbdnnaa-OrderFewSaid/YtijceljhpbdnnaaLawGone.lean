/-
  OrderGone, walked. Conditions: the argument lies in memory.
-/
import Derived.Test.YtijceljhpbdnnaaLawBeside
namespace Go.Proofs.Ytijceljhpbdnnaa
open Go.RowKit

theorem delete_at {w : World} {O : Ord} (h : Inv w O) (hf : ∃ S p j, Few O S p j) {i s : Nat} (hi : O.ids[i]? = some s) (h0 : 0 < i) :
    Calls Try.prog 24 #[lptr O, .int .i64 s] w fun e w' => e = .returned (.int .i64 0) ∧ ∃ O', Turn w w' O O' (O.ids.take i ++ O.ids.drop (i + 1)) O.P.length := by
  obtain ⟨t, hs, hid⟩ := stamp_of hi
  have hs0 : t.id ≠ 0 := ids_pos h.wf hs h0
  have := delete_ord h hs hs0
  rw [hid] at this
  refine this.mono ?_
  rintro _ w' ⟨rfl, O', k1, k2, k3⟩
  obtain ⟨S, p, j, hf⟩ := hf
  refine ⟨rfl, O', k1, ⟨S, p, j, hf.shrunk k2⟩, k2.lb, ?_, by rw [k2.P]; simp, fun k _ hk => k2.own k hk, k3⟩
  show idsOf O'.gs = _
  unfold idsOf
  rw [k2.stamps, List.eraseIdx_eq_take_drop_succ, List.map_append, List.map_take, List.map_drop]
  rfl
theorem insert_at {w : World} {O : Ord} (h : Inv w O) (hf : ∃ S p j, Few O S p j) {i s : Nat} (hi : O.ids[i]? = some s) (hm : O.P.length < 100000) :
    Calls Try.prog 16 #[lptr O, .int .i64 s] w fun e w' => e = .returned (.tuple #[.int .i64 O.P.length, .int .i64 0]) ∧ ∃ O', Turn w w' O O' (putId O.ids i O.P.length) (O.P.length + 1) := by
  obtain ⟨S, p, j, hf⟩ := hf
  refine (insert_pos h hf hi hm).mono ?_
  rintro _ w' ⟨rfl, O', S', p', j', k1, k2, k3, k4⟩
  exact ⟨rfl, O', k1, ⟨S', p', j', k2⟩, k3.lb, k3.ids, k3.made, k3.own, k4⟩
theorem id_lt {w : World} {O : Ord} (h : Inv w O) {s : Nat} (hs : s ∈ O.ids) : s < O.P.length := by
  obtain ⟨i, hi⟩ := List.mem_iff_getElem?.1 hs
  obtain ⟨t, ht, rfl⟩ := stamp_of hi
  exact (List.getElem?_eq_some_iff.1 (h.wf.tabled t (List.mem_of_getElem? ht))).1
theorem gone_nodup {ids : List Nat} (hnd : ids.Nodup) {i s : Nat} (hi : ids[i]? = some s) : ∀ n, n ∈ ids.take i ++ ids.drop (i + 1) → n ≠ s := by
  rintro n hn rfl
  obtain ⟨hil, he⟩ := List.getElem?_eq_some_iff.1 hi
  rcases List.mem_append.1 hn with h | h
  · obtain ⟨j, hj⟩ := List.mem_iff_getElem?.1 h
    rw [List.getElem?_take] at hj
    split at hj
    · next hji =>
      have := (List.getElem?_inj hil hnd).1 (hi.trans hj.symm)
      omega
    · cases hj
  · obtain ⟨j, hj⟩ := List.mem_iff_getElem?.1 h
    rw [List.getElem?_drop] at hj
    have := (List.getElem?_inj hil hnd).1 (hi.trans hj.symm)
    omega
/-- The order without the stamp s; x's box lies at xb. -/
structure Gone (w wr : World) (xb lb : Nat) (o : Obj) (O : Ord) (s : Nat) : Prop where
  inv : Inv wr O
  few : ∃ S p j, Few O S p j
  lb : O.lb = lb
  box : wr.heap[xb]? = some o
  off : ¬ O.own xb
  out : ∀ n, n ∈ O.ids → n ≠ s
  lt : s < O.P.length
  kept : Kept (fun _ => False) w wr
  own : ∀ k, O.own k → w.heap.size ≤ k
theorem Gone.turn {w wr w' : World} {xb lb : Nat} {o : Obj} {O O' : Ord} {s made' : Nat} {ids' : List Nat} (h : Gone w wr xb lb o O s) (hT : Turn wr w' O O' ids' made') (ho : ∀ n, n ∈ ids' → n ≠ s) (hm : O.P.length ≤ made') : Gone w w' xb lb o O' s := by
  have hx := heap_lt h.box
  have hs := h.kept.size
  refine ⟨hT.inv, hT.few, hT.lb.trans h.lb, (hT.kept.block xb hx h.off).trans h.box, fun k => h.off (hT.own xb hx k), by rw [hT.ids]; exact ho, by rw [hT.made]; have := h.lt; omega, h.kept.trans hT.kept (fun k hk x => absurd (h.own k x) (by omega)), ?_⟩
  intro k hk
  rcases Nat.lt_or_ge k wr.heap.size with hlt | hge
  · exact h.own k (hT.own k hlt hk)
  · omega
theorem Gone.on {w wr w' : World} {xb lb : Nat} {o : Obj} {O : Ord} {s : Nat} (h : Gone w wr xb lb o O s) (hK : Kept (fun _ => False) wr w') : Gone w w' xb lb o O s :=
  ⟨h.inv.frame hK (fun _ _ x => x), h.few, h.lb, (hK.block xb (heap_lt h.box) (fun x => x)).trans h.box, h.off, h.out, h.lt, h.kept.trans hK (fun _ _ x => x), h.own⟩
theorem Gone.cell {w wr : World} {xb lb l2 g n cap made : Nat} {O : Ord} {s : Nat} (h : Gone w wr xb lb (xobj l2 g n cap made) O s) : wr.cell? ⟨xb, 0, none⟩ = some (.pointer (some ⟨l2, 0, none⟩)) := (xcells h.box).1
theorem put_out {O : Ord} {s i : Nat} (h : ∀ n, n ∈ O.ids → n ≠ s) (hl : s < O.P.length) : ∀ n, n ∈ putId O.ids i O.P.length → n ≠ s := by
  intro n hn
  unfold putId at hn
  rw [List.mem_append, List.mem_cons] at hn
  rcases hn with hn | rfl | hn
  · exact h n (List.mem_of_mem_take hn)
  · omega
  · exact h n (List.mem_of_mem_drop hn)
set_option maxRecDepth 100000 in
set_option maxHeartbeats 4000000 in
theorem orderGone_of {w : World} {v : Value} {nn : Nat} {a more : Int} (h : OpsAt w v nn) (ha : I64 a) (hmo : I64 more) : Calls Try.prog 7 #[v, .int .i64 a, .int .i64 more] w fun e w' => e = .returned (.bool true) ∧ Kept (fun _ => False) w w' := by
  have hp := fun (W : World) (hK : Kept (fun _ => False) w W) => played_of (h.on' hK)
  have HP := Lib.hid hp
  have hpm : ∀ (W : World), Calls Try.prog 15 #[.int .i64 more, .int .i64 50] W fun e w' => e = .returned (.int .i64 (pickN more 50 : Nat)) ∧ w' = W := fun W => pick_of more 50 hmo (by omega) (by omega) W
  have hpl : pickN more 50 < 50 := pickN_lt (by omega)
  generalize pickN more 50 = q at hpm hpl
  have HPM := Lib.hid hpm
  have HPA := Lib.hid fun (n : Nat) (hn : 0 < n) (hn1 : n ≤ 1000000) (W : World) => pick_of a n ha hn hn1 W
  have HQ := Lib.hid hpl
  clear h hp hpm ha hmo hpl
  go_enter Try.func7, Try.ntmps7
  go_wp2_with fail
  refine (sane_of _).mono ?_
  rintro _ w1 ⟨rfl, hK1⟩
  have HK1 := Lib.hid hK1
  clear hK1
  go_wp2_with fail
  refine (HP.out _ HK1.out).mono ?_
  rintro _ w2 ⟨xb, O, g, cap, rfl, hN, hP⟩
  obtain ⟨c0, c1, c2, _, _⟩ := hN.both.cells
  have hs := stamps_lies hN.both.inv
  have hln := len_pos hN.both.inv
  dsimp only [lptr] at hs
  obtain ⟨n, hn⟩ : ∃ n, n = O.ids.length := ⟨_, rfl⟩
  obtain ⟨lb, hlb⟩ : ∃ l, l = O.lb := ⟨_, rfl⟩
  simp only [← hn, ← hlb] at hs hln c0
  have HS := Lib.hid hs
  have HLN := Lib.hid hln
  have HN := Lib.hid hN
  have HPP := Lib.hid hP
  have HN1 := Lib.hid hn
  have HLB := Lib.hid hlb
  have hle : n ≤ 100000 := by rw [hn]; exact ids_le hN.both.inv
  clear hN hs hln hP hn hlb
  go_wp2_with fail
  refine HLN.out.mono ?_
  rintro _ w3 ⟨rfl, rfl⟩
  by_cases hn2 : n < 2
  · go_wp2
    go_ret
    exact ⟨rfl, HK1.out.trans HN.out.kept (fun _ _ x => x)⟩
  · go_wp2_with fail
    refine HS.out.mono ?_
    rintro _ w3 ⟨g1, cap1, rfl, hL1, _, hK3⟩
    have hN3 := HN.out.on hK3
    obtain ⟨r, hr⟩ : ∃ r, r = pickN a (n - 1) := ⟨_, rfl⟩
    have hrl : r < n - 1 := by rw [hr]; exact pickN_lt (by omega)
    have hpa : ∀ (W : World), Calls Try.prog 15 #[.int .i64 a, .int .i64 ((n : Int) - 1)] W fun e w' => e = .returned (.int .i64 r) ∧ w' = W := fun W => by
      have := HPA.out (n - 1) (by omega) (by omega) W
      rw [← hr, show ((n - 1 : Nat) : Int) = (n : Int) - 1 by omega] at this
      exact this
    obtain ⟨s, hs⟩ : ∃ s, O.ids[1 + r]? = some s := ⟨_, List.getElem?_eq_getElem (by rw [← HN1.out]; omega)⟩
    have cs := hL1.cell _ _ hs
    have hfit := hL1.fit
    rw [← HN1.out] at hfit
    obtain ⟨d0, _, _, _, _⟩ := hN3.both.cells
    rw [← HLB.out] at d0
    have hd := delete_at hN3.both.inv hN3.both.few hs (by omega)
    have hd0 : ∀ w' O', Turn w3 w' O O' (O.ids.take (1 + r) ++ O.ids.drop (1 + r + 1)) O.P.length → Gone w w' xb lb (xobj O.lb g O.ids.length cap O.P.length) O' s := by
      intro w' O' hT
      have hx := heap_lt hN3.both.box
      have hsz := (HK1.out.trans hN3.kept (fun _ _ x => x)).size
      have s1 := HK1.out.size
      refine ⟨hT.inv, hT.few, hT.lb.trans HLB.out.symm, (hT.kept.block xb hx hN3.both.boxOff).trans hN3.both.box, fun k => hN3.both.boxOff (hT.own xb hx k), by rw [hT.ids]; exact gone_nodup hN3.both.inv.wf.ids hs, by rw [hT.made]; exact id_lt hN3.both.inv (List.mem_of_getElem? hs), (HK1.out.trans hN3.kept (fun _ _ x => x)).trans hT.kept (fun k hk x => absurd (hN3.own k x) (by omega)), ?_⟩
      intro k hk
      rcases Nat.lt_or_ge k w3.heap.size with hlt | hge
      · have := hN3.own k (hT.own k hlt hk); omega
      · omega
    dsimp only [lptr] at hd
    rw [← HLB.out] at hd
    have z1 : (0 : Int) ≤ 1 + (r : Int) := by omega
    have z2 : 1 + (r : Int) < (n : Int) := by omega
    have z3 : IntKind.i64.wrap ((n : Int) - 1) = (n : Int) - 1 := IntWalk.i64_in _ (by omega)
    have z4 : (1 + (r : Int)).toNat = 1 + r := by omega
    have HPA2 := Lib.hid hpa
    have HD := Lib.hid hd
    have HD0 := Lib.hid hd0
    clear hL1 hK3 hN3 hr hpa hs hd hd0
    go_wp2_with fail
    refine (HPA2.out _).mono ?_
    rintro _ w4 ⟨rfl, rfl⟩
    go_wp2_with fail
    refine HD.out.mono ?_
    rintro _ w5 ⟨rfl, O1, hT⟩
    have hG := HD0.out _ _ hT
    have hd1 := delete_out hG.inv (v := s) (.inl fun n hn => by have := hG.out n hn; omega)
    have hh1 := has_of _ _ none _ (find_out hG.inv (v := s) (fun n hn => by have := hG.out n hn; omega))
    have k0 := hG.cell
    rw [hG.lb] at hd1 hh1
    rw [← HLB.out] at k0
    have HG := Lib.hid hG
    have HD1 := Lib.hid hd1
    have HH1 := Lib.hid hh1
    have HM1 := Lib.hid (show O1.P.length ≤ 301 by rw [hT.made]; exact HPP.out)
    clear hT hG hd1 hh1 HD HD0
    go_wp2_with fail
    refine HD1.out.mono ?_
    rintro _ w6 ⟨rfl, rfl⟩
    go_wp2_with fail
    refine HH1.out.mono ?_
    rintro _ w6 ⟨rfl, rfl⟩
    go_wp2_with fail
    go_loopw [12, 13, 14] (fun c _ _ wr => ∃ (j : Nat) (O' : Ord), j ≤ q ∧ c = .int .i64 j ∧ Gone w wr xb lb (xobj O.lb g O.ids.length cap O.P.length) O' s ∧ O'.P.length ≤ 301 + j) (fun c _ _ _ => q - (intOf c).toNat)
    case atStart => exact ⟨0, O1, Nat.zero_le _, rfl, HG.out, HM1.out⟩
    case round =>
      obtain ⟨j, O2, hj, rfl, hG2, hP2⟩ := hrel
      have k2 := hG2.cell
      rw [← HLB.out] at k2
      by_cases hjq : j < q
      · have hq := HQ.out
        have hi0 : Calls Try.prog 16 #[.pointer (some ⟨lb, 0, none⟩), .int .i64 0] wr fun e w' => e = .returned (.tuple #[.int .i64 O2.P.length, .int .i64 0]) ∧ ∃ O', Turn wr w' O2 O' (putId O2.ids 0 O2.P.length) (O2.P.length + 1) := by
          have := insert_at hG2.inv hG2.few (first_id hG2.inv.wf) (by omega)
          dsimp only [lptr] at this
          rw [hG2.lb] at this
          exact this
        have hms : ¬ O2.P.length = s := by have := hG2.lt; omega
        have HI0 := Lib.hid hi0
        have HG2 := Lib.hid hG2
        have HP2 := Lib.hid hP2
        clear hi0 hG2 hP2
        go_wp2_with fail
        refine (HPM.out _).mono ?_
        rintro _ w7 ⟨rfl, rfl⟩
        go_wp2_with fail
        refine HI0.out.mono ?_
        rintro _ w8 ⟨rfl, O3, hT⟩
        have hG3 := HG2.out.turn hT (put_out HG2.out.out HG2.out.lt) (by omega)
        have HG3 := Lib.hid hG3
        have HP3 := Lib.hid (show O3.P.length ≤ 301 + (j + 1) by rw [hT.made]; have := HP2.out; omega)
        clear hT hG3 k2
        go_wp2
        go_roundw
        case rel => exact ⟨j + 1, O3, by omega, by go_num, HG3.out, HP3.out⟩
        case measure => simp [intOf]; omega
      · have ho : ∀ n, n ∈ O2.ids → (n : Int) ≠ (s : Int) := fun n hn => by have := hG2.out n hn; omega
        have hi1 := insert_out hG2.inv ho
        have hx1 := next_of _ _ _ _ wr ((beside_no 41 _ _ wr (find_out hG2.inv ho)).mono fun _ _ ⟨h1, h2⟩ => ⟨h1, 0, h2.symm⟩)
        have hl1 : Calls Try.prog 20 #[.pointer (some ⟨lb, 0, none⟩), .int .i64 0, .int .i64 s] wr fun e w' => e = .returned (.tuple #[.bool false, .int .i64 180]) ∧ wr = w' := by
          obtain ⟨_, _, _, hf⟩ := find_pos hG2.inv (first_id hG2.inv.wf)
          have := less_no2 _ _ _ _ wr hf (find_out hG2.inv ho)
          rw [hG2.lb] at this
          exact this
        rw [hG2.lb] at hi1 hx1
        have HI1 := Lib.hid hi1
        have HX1 := Lib.hid hx1
        have HL1 := Lib.hid hl1
        have HG2 := Lib.hid hG2
        clear ho hi1 hx1 hl1 hG2 hP2
        go_wp2_with fail
        refine (HPM.out _).mono ?_
        rintro _ w7 ⟨rfl, rfl⟩
        go_wp2_with fail
        refine HI1.out.mono ?_
        rintro _ w7 ⟨rfl, rfl⟩
        go_wp2_with fail
        refine HL1.out.mono ?_
        rintro _ w7 ⟨rfl, rfl⟩
        go_wp2_with fail
        refine HX1.out.mono ?_
        rintro _ w7 ⟨rfl, m, rfl⟩
        go_wp2
        go_ret
        exact ⟨rfl, HG2.out.kept.drewN _⟩
end Go.Proofs.Ytijceljhpbdnnaa
