/-
  OrderFew, walked. Conditions: the argument lies in memory.
-/
import Derived.Test.YtijceljhpbdnnaaLawGone
namespace Go.Proofs.Ytijceljhpbdnnaa
open Go.RowKit

/-- The order has grown since the reference's row was read. -/
structure Since (w wr : World) (xb lb g cap : Nat) (o : Obj) (ids0 : List Nat) (O : Ord) : Prop where
  inv : Inv wr O
  few : ∃ S p j, Few O S p j
  lb : O.lb = lb
  box : wr.heap[xb]? = some o
  off : ¬ O.own xb
  lies : Lies wr g cap ids0
  gOff : ¬ O.own g
  sub : ∀ n, n ∈ ids0 → n ∈ O.ids
  kept : Kept (fun _ => False) w wr
  own : ∀ k, O.own k → w.heap.size ≤ k
theorem put_mem {O : Ord} {i n : Nat} (h : n ∈ O.ids) : n ∈ putId O.ids i O.P.length := by
  unfold putId
  rw [List.mem_append, List.mem_cons]
  rw [← List.take_append_drop (i + 1) O.ids, List.mem_append] at h
  rcases h with h | h
  · exact .inl h
  · exact .inr (.inr h)
theorem put_self {O : Ord} {i : Nat} : O.P.length ∈ putId O.ids i O.P.length := by
  unfold putId
  rw [List.mem_append, List.mem_cons]
  exact .inr (.inl rfl)
theorem Since.turn {w wr w' : World} {xb lb g cap : Nat} {o : Obj} {ids0 : List Nat} {O O' : Ord} {i made' : Nat} (h : Since w wr xb lb g cap o ids0 O) (hT : Turn wr w' O O' (putId O.ids i O.P.length) made') : Since w w' xb lb g cap o ids0 O' := by
  have hx := heap_lt h.box
  have hg := h.lies.lt
  have hs := h.kept.size
  refine ⟨hT.inv, hT.few, hT.lb.trans h.lb, (hT.kept.block xb hx h.off).trans h.box, fun k => h.off (hT.own xb hx k), h.lies.same (hT.kept.block g hg h.gOff), fun k => h.gOff (hT.own g hg k), fun n hn => by rw [hT.ids]; exact put_mem (h.sub n hn), h.kept.trans hT.kept (fun k hk x => absurd (h.own k x) (by omega)), ?_⟩
  intro k hk
  rcases Nat.lt_or_ge k wr.heap.size with hlt | hge
  · exact h.own k (hT.own k hlt hk)
  · omega
theorem Since.start {w wr : World} {xb g cap : Nat} {O : Ord} (h : Newer w wr xb O g cap) : Since w wr xb O.lb g cap (xobj O.lb g O.ids.length cap O.P.length) O.ids O :=
  ⟨h.both.inv, h.both.few, rfl, h.both.box, h.both.boxOff, h.both.lies, h.both.gOff, fun _ x => x, h.kept, h.own⟩
theorem Since.drewN {w wr : World} {xb lb g cap : Nat} {o : Obj} {ids0 : List Nat} {O : Ord} (h : Since w wr xb lb g cap o ids0 O) (m : Nat) : Since w (wr.drewN m) xb lb g cap o ids0 O :=
  ⟨h.inv.drewN m, h.few, h.lb, h.box, h.off, h.lies.same rfl, h.gOff, h.sub, h.kept.drewN m, h.own⟩
theorem third {c : Int} (h : I64 c) : I64 (c.tdiv 3) := by
  obtain ⟨h1, h2⟩ := h
  rcases Int.lt_or_le c 0 with h0 | h0
  · have e : c.tdiv 3 = -((-c).tdiv 3) := by rw [Int.neg_tdiv, Int.neg_neg]
    rw [e, Int.tdiv_eq_ediv_of_nonneg (by omega)]
    constructor <;> omega
  · rw [Int.tdiv_eq_ediv_of_nonneg h0]
    constructor <;> omega
set_option maxRecDepth 100000 in
set_option maxHeartbeats 4000000 in
theorem orderFew_of {w : World} {v : Value} {nn : Nat} {many place : Int} (h : OpsAt w v nn) (hma : I64 many) (hpl : I64 place) : Calls Try.prog 3 #[v, .int .i64 many, .int .i64 place] w fun e w' => e = .returned (.bool true) ∧ Kept (fun _ => False) w w' := by
  have hp := fun (W : World) (hK : Kept (fun _ => False) w W) => played_of (h.on' hK)
  have HP := Lib.hid hp
  have hpm : ∀ (W : World), Calls Try.prog 15 #[.int .i64 many, .int .i64 3000] W fun e w' => e = .returned (.int .i64 (pickN many 3000 : Nat)) ∧ w' = W := fun W => pick_of many 3000 hma (by omega) (by omega) W
  have hp3 : ∀ (W : World), Calls Try.prog 15 #[.int .i64 place, .int .i64 3] W fun e w' => e = .returned (.int .i64 (pickN place 3 : Nat)) ∧ w' = W := fun W => pick_of place 3 hpl (by omega) (by omega) W
  have hq : pickN many 3000 < 3000 := pickN_lt (by omega)
  have hr : pickN place 3 < 3 := pickN_lt (by omega)
  generalize pickN many 3000 = q at hpm hq
  generalize pickN place 3 = r3 at hp3 hr
  have HPM := Lib.hid hpm
  have HP3 := Lib.hid hp3
  have HQ := Lib.hid hq
  have HR3 := Lib.hid hr
  have HPK := Lib.hid fun (c : Int) (hc : I64 c) (n : Nat) (hn : 0 < n) (hm : n ≤ 1000000) (W : World) => pick_of c n hc hn hm W
  have HPL := Lib.hid hpl
  clear h hp hpm hp3 hma hq hr hpl
  go_enter Try.func3, Try.ntmps3
  go_wp2_with fail
  refine (sane_of _).mono ?_
  rintro _ w1 ⟨rfl, hK1⟩
  have HK1 := Lib.hid hK1
  clear hK1
  go_wp2_with fail
  refine (HP.out _ HK1.out).mono ?_
  rintro _ w2 ⟨xb, O, g, cap, rfl, hN, hP⟩
  obtain ⟨c0, c1, c2, _, _⟩ := hN.both.cells
  have hmade := made_pos hN.both.inv
  obtain ⟨n, hn⟩ : ∃ n, n = O.ids.length := ⟨_, rfl⟩
  obtain ⟨lb, hlb⟩ : ∃ l, l = O.lb := ⟨_, rfl⟩
  obtain ⟨m, hm⟩ : ∃ m, O.P.length = m + 1 := by have := made_bounds hN.both.inv; exact ⟨O.P.length - 1, by omega⟩
  have hpos := ids_pos0 hN.both.inv
  have hle := ids_le hN.both.inv
  rw [← hlb, hm] at hmade
  rw [← hlb] at c0
  rw [← hn] at c1 hpos hle
  rw [hm] at hP
  have HS := Lib.hid (Since.start hN)
  have HMD := Lib.hid hmade
  have HPP := Lib.hid hP
  have HN1 := Lib.hid hn
  have HLB := Lib.hid hlb
  have HMM := Lib.hid hm
  clear hN hmade hP hn hlb hm c2
  go_wp2_with fail
  refine HMD.out.mono ?_
  rintro _ w3 ⟨rfl, rfl⟩
  have z1 : IntKind.i64.wrap (((m + 1 : Nat) : Int) - 1) = (m : Int) := by rw [show ((m + 1 : Nat) : Int) - 1 = m by omega]; exact IntWalk.i64_in _ (by have := HPP.out; omega)
  have hc : ∃ f, f < n ∧ ∀ (W : World), Calls Try.prog 15 #[.int .i64 (wrap64 (place.tdiv 3)), .int .i64 n] W fun e w' => e = .returned (.int .i64 (f : Nat)) ∧ w' = W := by
    have hI := third HPL.out
    refine ⟨pickN (place.tdiv 3) n, pickN_lt hpos, fun W => ?_⟩
    rw [IntWalk.wrap64_in _ ⟨hI.1, hI.2⟩]
    exact HPK.out _ hI n hpos (by omega) W
  obtain ⟨f, hf, hcf⟩ := hc
  obtain ⟨x0, hx0⟩ : ∃ a, O.ids[f]? = some a := ⟨_, List.getElem?_eq_getElem (by rw [← HN1.out]; exact hf)⟩
  have cf := HS.out.lies.cell _ _ hx0
  have HX0 := Lib.hid (List.mem_of_getElem? hx0)
  have HCF := Lib.hid hcf
  have y1 : (f : Int) < (n : Int) := by omega
  have y2 : (0 : Int) ≤ (f : Int) := by omega
  clear hx0 hcf
  go_wp2_with fail
  go_quiet ((go_at_call 15; exact Calls.quiet_of_same (HCF.out _)))
  go_wp2
  have hw : wrap64 (m : Int) = (m : Int) := IntWalk.wrap64_in _ ⟨by omega, by have := HPP.out; omega⟩
  rw [hw]
  have hb : Since w1 (w2.drewN nq) xb lb g cap (xobj O.lb g O.ids.length cap O.P.length) O.ids O := by
    have := HS.out.drewN nq
    rw [← HLB.out] at this ⊢
    exact this
  have HB := Lib.hid hb
  clear hw hb z1 cf y1 y2 c0 c1 hf HCF
  go_loopw [10, 12, 13, 14, 15, 16] (fun nv av c _ _ _ wr => ∃ (j a mm : Nat) (O' : Ord), j ≤ q ∧ c = .int .i64 j ∧ av = .int .i64 a ∧ a ∈ O'.ids ∧ O'.P.length = mm + 1 ∧ nv = .int .i64 mm ∧ Since w1 wr xb lb g cap (xobj O.lb g O.ids.length cap O.P.length) O.ids O' ∧ mm ≤ 300 + j) (fun _ _ c _ _ _ _ => q - (intOf c).toNat)
  case atStart => exact ⟨0, x0, m, O, Nat.zero_le _, rfl, rfl, HX0.out, HMM.out, rfl, HB.out, by have := HPP.out; omega⟩
  case round =>
    obtain ⟨j, a, mm, O2, hj, rfl, rfl, ha, hmm, rfl, hS2, hbd⟩ := hrel
    obtain ⟨e0, e1, _⟩ := xcells hS2.box
    rw [← HLB.out] at e0
    rw [← HN1.out] at e1
    have hq := HQ.out
    have w3 : IntKind.i64.wrap ((mm : Int) + 1) = (mm : Int) + 1 := IntWalk.i64_in _ (by omega)
    by_cases hjq : j < q
    · obtain ⟨i, hi⟩ := List.mem_iff_getElem?.1 ha
      have hins := insert_at hS2.inv hS2.few hi (by omega)
      dsimp only [lptr] at hins
      rw [hS2.lb, hmm] at hins
      have HINS := Lib.hid hins
      have HS2 := Lib.hid hS2
      have HBD := Lib.hid hbd
      have HMM2 := Lib.hid hmm
      have HJ := Lib.hid hj
      clear hins hS2 hbd hmm ha hi hj
      go_wp2_with fail
      refine (HPM.out _).mono ?_
      rintro _ w7 ⟨rfl, rfl⟩
      go_wp2_with fail
      refine HINS.out.mono ?_
      rintro _ w8 ⟨rfl, O3, hT⟩
      have hS3 := HS2.out.turn (by rw [HMM2.out]; exact hT)
      obtain ⟨k0, k1, _⟩ := xcells hS3.box
      rw [← HN1.out] at k1
      have hself : mm + 1 ∈ O3.ids := by rw [hT.ids, ← HMM2.out]; exact put_self
      have hlen : O3.P.length = mm + 1 + 1 := by rw [hT.made]
      have HS3 := Lib.hid hS3
      have HSF := Lib.hid hself
      have HLN := Lib.hid hlen
      clear hT hS3 hself hlen k0 e0 e1
      go_wp2_with fail
      refine (HP3.out _).mono ?_
      rintro _ w9 ⟨rfl, rfl⟩
      rcases (show r3 = 0 ∨ r3 = 1 ∨ r3 = 2 by have := HR3.out; omega) with rfl | rfl | rfl
      · go_wp2
        go_roundw
        case rel => exact ⟨j + 1, mm + 1, mm + 1, O3, by omega, by go_num, rfl, HSF.out, HLN.out, rfl, HS3.out, by have := HBD.out; omega⟩
        case measure => simp [intOf]; omega
      · go_wp2
        go_roundw
        case rel => exact ⟨j + 1, x0, mm + 1, O3, by omega, by go_num, rfl, HS3.out.sub _ HX0.out, HLN.out, rfl, HS3.out, by have := HBD.out; omega⟩
        case measure => simp [intOf]; omega
      · have w5 : IntKind.i64.wrap ((j : Int) * 7) = (j : Int) * 7 := IntWalk.i64_in _ (by omega)
        have hc7 := HPK.out ((j : Int) * 7) ⟨by omega, by omega⟩ n hpos (by omega)
        have hf7 : pickN ((j : Int) * 7) n < n := pickN_lt hpos
        generalize pickN ((j : Int) * 7) n = f7 at hc7 hf7
        obtain ⟨x7, hx7⟩ : ∃ a, O.ids[f7]? = some a := ⟨_, List.getElem?_eq_getElem (by rw [← HN1.out]; exact hf7)⟩
        have c7 := HS3.out.lies.cell _ _ hx7
        have HX7 := Lib.hid (List.mem_of_getElem? hx7)
        have HC7 := Lib.hid hc7
        have y1 : (f7 : Int) < (n : Int) := by omega
        clear hx7 hc7
        go_wp2_with fail
        refine (HC7.out _).mono ?_
        rintro _ w9 ⟨rfl, rfl⟩
        go_wp2
        go_roundw
        case rel => exact ⟨j + 1, x7, mm + 1, O3, by omega, by go_num, rfl, HS3.out.sub _ HX7.out, HLN.out, rfl, HS3.out, by have := HBD.out; omega⟩
        case measure => simp [intOf]; omega
    · have hmv := moves_pos hS2.inv
      rw [hS2.lb] at hmv
      have hlaw : O2.moves ≤ 60 * mm := by
        obtain ⟨S, p, jj, hf⟩ := hS2.few
        have := hf.law (by omega)
        rw [hmm] at this
        exact this
      have w6 : IntKind.i64.wrap (60 * (mm : Int)) = 60 * (mm : Int) := IntWalk.i64_in _ (by omega)
      have hd : decide ((O2.moves : Int) ≤ 60 * (mm : Int)) = true := decide_eq_true (by omega)
      have HMV := Lib.hid hmv
      have HS2 := Lib.hid hS2
      clear hmv hlaw hS2 hbd hmm ha
      go_wp2_with fail
      refine (HPM.out _).mono ?_
      rintro _ w7 ⟨rfl, rfl⟩
      go_wp2_with fail
      refine HMV.out.mono ?_
      rintro _ w7 ⟨rfl, rfl⟩
      go_wp2
      go_ret
      exact ⟨rfl, HK1.out.trans HS2.out.kept (fun _ _ x => x)⟩
end Go.Proofs.Ytijceljhpbdnnaa
