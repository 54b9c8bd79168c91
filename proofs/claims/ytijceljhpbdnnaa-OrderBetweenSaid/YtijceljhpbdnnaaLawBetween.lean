/-
  OrderBetween, walked. Conditions: the argument lies in memory.
-/
import Derived.Test.YtijceljhpbdnnaaTurns
import Derived.Test.YtijceljhpbdnnaaCloneC
namespace Go.Proofs.Ytijceljhpbdnnaa
open Go.RowKit

theorem between_none {w : World} {O : Ord} (h : Inv w O) {i k a b : Nat} (hi : O.ids[i]? = some a) (hk : O.ids[k]? = some b) (hik : ¬ i < k) :
    Calls Try.prog 28 #[lptr O, .int .i64 a, .int .i64 b] w fun e w' => e = .returned (.tuple #[.int .i64 0, .int .i64 3]) ∧ ∃ m, w' = w.drewN m := by
  obtain ⟨s', hs', hsid', hfs⟩ := find_pos h hi
  obtain ⟨t', ht', htid', hft⟩ := find_pos h hk
  have hl := less_ord h hs' ht'
  rw [decide_eq_false hik] at hl
  exact db_none _ _ _ _ _ w hfs hft hl
theorem between_at {w : World} {O : Ord} (h : Inv w O) (hf : ∃ S p j, Few O S p j) {i k a b : Nat} (hi : O.ids[i]? = some a) (hk : O.ids[k]? = some b) (hik : i < k) :
    Calls Try.prog 28 #[lptr O, .int .i64 a, .int .i64 b] w fun e w' => e = .returned (.tuple #[.int .i64 ((k - i - 1 : Nat) : Int), .int .i64 0]) ∧ ∃ O', Turn w w' O O' (O.ids.take (i + 1) ++ O.ids.drop k) O.P.length := by
  obtain ⟨s, hs, rfl⟩ := stamp_of hi
  obtain ⟨t, ht, rfl⟩ := stamp_of hk
  refine (db_yes h hs ht hik).mono ?_
  rintro _ w' ⟨rfl, O', hB⟩
  obtain ⟨S, p, j, hf⟩ := hf
  refine ⟨rfl, O', hB.inv, ⟨S, p, j, hf.fewer hB.few.len hB.few.moves hB.few.tags hB.few.over⟩, hB.few.lb, ?_, hB.few.len, fun q _ hq => hB.few.own q hq, hB.kept⟩
  show idsOf O'.gs = _
  unfold idsOf
  rw [hB.stamps, List.map_append, List.map_take, List.map_drop, show i + 1 + (k - i - 1) = k by omega]
  rfl
/-- An order, and a clone of what it was, side by side. -/
structure Twin (s3 s4 s5 : Nat) (w wr : World) (xb lb cl : Nat) (o : Obj) (g cap : Nat) (ids0 : List Nat) (O1 C : Ord) : Prop where
  inv1 : Inv wr O1
  inv2 : Inv wr C
  few2 : ∃ S p j, Few C S p j
  lb1 : O1.lb = lb
  lb2 : C.lb = cl
  box : wr.heap[xb]? = some o
  lies : Lies wr g cap ids0
  kept : Kept (fun _ => False) w wr
  own1 : ∀ k, O1.own k → k < s5 ∧ (k < s3 ∨ s4 ≤ k)
  own2 : ∀ k, C.own k → s3 ≤ k ∧ (k < s4 ∨ s5 ≤ k)
  size : s5 ≤ wr.heap.size
  s0 : w.heap.size ≤ s3
  s1 : s3 ≤ s4
  s2 : s4 ≤ s5
  hx : xb < s3
  hg : g < s3
theorem Twin.turn {s3 s4 s5 : Nat} {w wr w' : World} {xb lb cl : Nat} {o : Obj} {g cap : Nat} {ids0 : List Nat} {O1 C C' : Ord} {ids' : List Nat} {m' : Nat} (h : Twin s3 s4 s5 w wr xb lb cl o g cap ids0 O1 C) (hT : Turn wr w' C C' ids' m') : Twin s3 s4 s5 w w' xb lb cl o g cap ids0 O1 C' := by
  have hs0 := h.s0
  have hs1 := h.s1
  have hs2 := h.s2
  have hsz := h.size
  have hxx := h.hx
  have hgg := h.hg
  have hks := hT.kept.size
  refine ⟨h.inv1.frame hT.kept (fun k h1 h2 => ?_), hT.inv, hT.few, h.lb1, hT.lb.trans h.lb2, (hT.kept.block xb (heap_lt h.box) (fun x => ?_)).trans h.box, h.lies.same (hT.kept.block g h.lies.lt (fun x => ?_)), h.kept.trans hT.kept (fun k hk x => ?_), h.own1, ?_, by omega, hs0, hs1, hs2, hxx, hgg⟩
  · have a := h.own1 k h1
    have b := h.own2 k h2
    omega
  · have := h.own2 xb x; omega
  · have := h.own2 g x; omega
  · have := h.own2 k x; have := h.kept.size; omega
  · intro k hk
    rcases Nat.lt_or_ge k wr.heap.size with hlt | hge
    · exact h.own2 k (hT.own k hlt hk)
    · omega
theorem Twin.on {s3 s4 s5 : Nat} {w wr w' : World} {xb lb cl : Nat} {o : Obj} {g cap : Nat} {ids0 : List Nat} {O1 C : Ord} (h : Twin s3 s4 s5 w wr xb lb cl o g cap ids0 O1 C) (hK : Kept (fun _ => False) wr w') : Twin s3 s4 s5 w w' xb lb cl o g cap ids0 O1 C :=
  ⟨h.inv1.frame hK (fun _ _ x => x), h.inv2.frame hK (fun _ _ x => x), h.few2, h.lb1, h.lb2, (hK.block xb (heap_lt h.box) (fun x => x)).trans h.box, h.lies.same (hK.block g h.lies.lt (fun x => x)), h.kept.trans hK (fun _ _ x => x), h.own1, h.own2, by have := h.size; have := hK.size; omega, h.s0, h.s1, h.s2, h.hx, h.hg⟩
/-- Behind the clone and DeleteBetween. -/
theorem twin_start {w w2 w3 w4 w5 : World} {xb g cap g1 cap1 m' : Nat} {O C O1 : Ord} {ids' : List Nat} (hN : Newer w w2 xb O g cap) (hL : Lies w3 g1 cap1 O.ids) (hg1 : w2.heap.size ≤ g1) (hK3 : Kept (fun _ => False) w2 w3) (hC : Cloned w3 w4 O C) (hT : Turn w4 w5 O O1 ids' m') :
    Twin w3.heap.size w4.heap.size w5.heap.size w w5 xb O.lb C.lb (xobj O.lb g O.ids.length cap O.P.length) g1 cap1 O.ids O1 C := by
  have hB3 := hN.both.kept hK3
  have hI3 := hB3.inv
  have hlt2 : ∀ k, O.own k → k < w2.heap.size := fun k hk => hN.both.inv.own_lt hk
  have e2 := hN.kept.size
  have e3 := hK3.size
  have e4 := hC.kept.size
  have e5 := hT.kept.size
  have hx3 := heap_lt hB3.box
  have hg3 := hL.lt
  have hB4 := hB3.kept hC.kept
  have hCo : ∀ k, C.own k → w3.heap.size ≤ k ∧ k < w4.heap.size := fun k hk => ⟨hC.own k hk, hC.inv.own_lt hk⟩
  refine ⟨hT.inv, hC.inv.frame hT.kept (fun k h1 h2 => ?_), hC.few, hT.lb, rfl, (hT.kept.block xb (heap_lt hB4.box) hB4.boxOff).trans hB4.box, (hL.same (hC.kept.block g1 hg3 (fun x => x))).same (hT.kept.block g1 (by omega) (fun x => ?_)), ?_, ?_, ?_, Nat.le_refl _, by omega, e4, e5, hx3, hg3⟩
  · have a := hCo k h1
    have b := hlt2 k h2
    omega
  · have := hlt2 g1 x; omega
  · refine ((hN.kept.trans hK3 (fun _ _ x => x)).trans hC.kept (fun _ _ x => x)).trans hT.kept (fun k hk x => ?_)
    have := hN.own k x; omega
  · intro k hk
    refine ⟨hT.inv.own_lt hk, ?_⟩
    rcases Nat.lt_or_ge k w4.heap.size with hlt | hge
    · have := hlt2 k (hT.own k hlt hk); omega
    · exact .inr hge
  · intro k hk
    have := hCo k hk
    exact ⟨this.1, .inl this.2⟩
theorem cut_ids {ids : List Nat} {i j : Nat} (hij : i + 1 ≤ j) (hj : j < ids.length) : (ids.take (i + 1) ++ ids.drop j)[i + 1]? = ids[j]? ∧ (ids.take (i + 1) ++ ids.drop j).take (i + 1) ++ (ids.take (i + 1) ++ ids.drop j).drop (i + 1 + 1) = ids.take (i + 1) ++ ids.drop (j + 1) := by
  have hl : (ids.take (i + 1)).length = i + 1 := by simp; omega
  refine ⟨?_, ?_⟩
  · rw [List.getElem?_append_right (by omega), hl, Nat.sub_self, List.getElem?_drop, Nat.add_zero]
  · rw [List.take_append_of_le_length (by omega), List.take_of_length_le (by omega), List.drop_append, hl, show i + 1 + 1 - (i + 1) = 1 by omega, List.drop_of_length_le (by omega), List.drop_drop]
    simp
theorem turn_drew {w w' : World} {O O' : Ord} {ids' : List Nat} {m : Nat} (h : Turn w.drew w' O O' ids' m) : Turn w w' O O' ids' m := ⟨h.inv, h.few, h.lb, h.ids, h.made, h.own, ⟨h.kept.os, h.kept.tape, h.kept.output, h.kept.size, h.kept.block⟩⟩
set_option maxRecDepth 100000 in
set_option maxHeartbeats 4000000 in
theorem orderBetween_of {w : World} {v : Value} {nn : Nat} {a b : Int} (h : OpsAt w v nn) (ha : I64 a) (hb : I64 b) : Calls Try.prog 9 #[v, .int .i64 a, .int .i64 b] w fun e w' => e = .returned (.bool true) ∧ Kept (fun _ => False) w w' := by
  have hp := fun (W : World) (hK : Kept (fun _ => False) w W) => played_of (h.on' hK)
  have HP := Lib.hid hp
  have HPA := Lib.hid fun (n : Nat) (hn : 0 < n) (hm : n ≤ 1000000) (W : World) => pick_of a n ha hn hm W
  have HPB := Lib.hid fun (n : Nat) (hn : 0 < n) (hm : n ≤ 1000000) (W : World) => pick_of b n hb hn hm W
  clear h hp ha hb
  go_enter Try.func9, Try.ntmps9
  go_wp2_with fail
  refine (sane_of _).mono ?_
  rintro _ w1 ⟨rfl, hK1⟩
  have HK1 := Lib.hid hK1
  clear hK1
  go_wp2_with fail
  refine (HP.out _ HK1.out).mono ?_
  rintro _ w2 ⟨xb, O, g, cap, rfl, hN, _⟩
  obtain ⟨c0, c1, c2, _, _⟩ := hN.both.cells
  have hs := stamps_lies hN.both.inv
  dsimp only [lptr] at hs
  have HS := Lib.hid hs
  have HN := Lib.hid hN
  clear hN hs
  go_wp2_with fail
  refine HS.out.mono ?_
  rintro _ w3 ⟨g1, cap1, rfl, hL1, hg1, hK3⟩
  have hB3 := HN.out.both.kept hK3
  have hpos := ids_pos0 hB3.inv
  have hle := ids_le hB3.inv
  have hfit := hL1.fit
  obtain ⟨d0, _, _, _, _⟩ := hB3.cells
  obtain ⟨n, hn⟩ : ∃ n, n = O.ids.length := ⟨_, rfl⟩
  rw [← hn] at hpos hle hfit
  have hpa := HPA.out n hpos (by omega)
  have hpb := HPB.out n hpos (by omega)
  have hi : pickN a n < n := pickN_lt hpos
  have hk : pickN b n < n := pickN_lt hpos
  generalize pickN a n = i at hpa hi
  generalize pickN b n = k at hpb hk
  have HPA2 := Lib.hid hpa
  have HPB2 := Lib.hid hpb
  obtain ⟨x, hx⟩ : ∃ a, O.ids[i]? = some a := ⟨_, List.getElem?_eq_getElem (by rw [← hn]; exact hi)⟩
  obtain ⟨y, hy⟩ : ∃ a, O.ids[k]? = some a := ⟨_, List.getElem?_eq_getElem (by rw [← hn]; exact hk)⟩
  have cx := hL1.cell _ _ hx
  have cy := hL1.cell _ _ hy
  have HX := Lib.hid hx
  have HY := Lib.hid hy
  have HL1 := Lib.hid hL1
  have HG1 := Lib.hid hg1
  have HK3 := Lib.hid hK3
  have HB3 := Lib.hid hB3
  obtain ⟨lb, hlb⟩ : ∃ l, l = O.lb := ⟨_, rfl⟩
  rw [← hlb] at d0
  have HLB := Lib.hid hlb
  have HN1 := Lib.hid hn
  simp only [← hn]
  have t1 : (i : Int) < (n : Int) := by omega
  have t2 : (k : Int) < (n : Int) := by omega
  have t3 : (0 : Int) ≤ (i : Int) := by omega
  have t4 : (0 : Int) ≤ (k : Int) := by omega
  clear hL1 hg1 hK3 hB3 hpa hpb hx hy hlb hn HPA HPB HP HS c0 c1 c2
  go_wp2_with fail
  refine (HPA2.out _).mono ?_
  rintro _ w4 ⟨rfl, rfl⟩
  go_wp2_with fail
  refine (HPB2.out _).mono ?_
  rintro _ w4 ⟨rfl, rfl⟩
  by_cases hik : i < k
  · have hcl := clone_of HB3.out.inv HB3.out.few
    rw [← HLB.out] at hcl
    have HCL := Lib.hid hcl
    clear hcl
    go_wp2_with fail
    refine HCL.out.mono ?_
    rintro _ w5 ⟨C, rfl, hC⟩
    obtain ⟨d, hd⟩ : ∃ d, d = k - i - 1 := ⟨_, rfl⟩
    have hbt := fun (W : World) (hK : Kept (fun _ => False) w5 W) => between_at (HB3.out.inv.frame (hC.kept.trans hK (fun _ _ x => x)) (fun _ _ x => x)) HB3.out.few HX.out HY.out hik
    dsimp only [lptr] at hbt
    simp only [← HLB.out, ← hd] at hbt
    have dd0 := cell_kept d0 hC.kept
    have cx2 := cell_kept cx hC.kept
    have cy2 := cell_kept cy hC.kept
    obtain ⟨cl, hclb⟩ : ∃ l, l = C.lb := ⟨_, rfl⟩
    rw [← hclb]
    have HC := Lib.hid hC
    have HBT := Lib.hid hbt
    have HDD := Lib.hid hd
    have HCB := Lib.hid hclb
    clear hC hbt hd hclb d0 cx cy
    go_wp2
    go_region_held3 (fun w' => w'.cell? ⟨xb, 0, none⟩ = some (.pointer (some ⟨lb, 0, none⟩)) ∧ w'.cell? ⟨g1, i, none⟩ = some (.int .i64 x) ∧ w'.cell? ⟨g1, k, none⟩ = some (.int .i64 y))
      (first | exact ⟨dd0, cx2, cy2⟩ | exact ⟨e0, e1, e2⟩ | go_keep)
      (first | (go_at_call 28; refine (HBT.out _ ((Kept.refl _ _).drew)).mono ?_; rintro _ w6 ⟨rfl, O1, hT⟩; obtain ⟨s3, s4, s5, hTw⟩ : ∃ s3 s4 s5, Twin s3 s4 s5 w1 w6 xb O.lb C.lb (xobj O.lb g O.ids.length cap O.P.length) g1 cap1 O.ids O1 C := ⟨_, _, _, twin_start HN.out HL1.out HG1.out HK3.out HC.out (turn_drew hT)⟩; have e0 := (xcells hTw.box).1; rw [← HLB.out] at e0; have e1 := hTw.lies.cell _ _ HX.out; have e2 := hTw.lies.cell _ _ HY.out; have HTW := Lib.hid hTw; have HO1 := Lib.hid hT.ids; clear hTw hT))
    rename_i hHeld
    clear hHeld dd0 cx2 cy2
    have z1 : IntKind.i64.wrap ((i : Int) + 1) = (i : Int) + 1 := IntWalk.i64_in _ (by omega)
    go_wp2
    have HIK := Lib.hid hik
    have HKN := Lib.hid hk
    go_loopw [18] (fun c wr => ∃ (j : Nat) (C' : Ord), i + 1 ≤ j ∧ j ≤ k ∧ c = .int .i64 j ∧ Twin s3 s4 s5 w1 wr xb O.lb C.lb (xobj O.lb g O.ids.length cap O.P.length) g1 cap1 O.ids O1 C' ∧ C'.ids = O.ids.take (i + 1) ++ O.ids.drop j) (fun c _ => k - (intOf c).toNat)
    case atStart => exact ⟨i + 1, C, Nat.le_refl _, HIK.out, by go_num, HTW.out, by rw [HC.out.ids, List.take_append_drop]⟩
    case round =>
      obtain ⟨j, C2, hij, hjk, rfl, hTw2, hids2⟩ := hrel
      by_cases hj : j < k
      · obtain ⟨z, hz⟩ : ∃ a, O.ids[j]? = some a := ⟨_, List.getElem?_eq_getElem (by rw [← HN1.out]; omega)⟩
        have hcut := cut_ids (ids := O.ids) hij (by rw [← HN1.out]; omega)
        have hat : C2.ids[i + 1]? = some z := by rw [hids2, hcut.1]; exact hz
        have hdel := delete_at hTw2.inv2 hTw2.few2 hat (Nat.succ_pos _)
        dsimp only [lptr] at hdel
        rw [hTw2.lb2, ← HCB.out] at hdel
        have cz := hTw2.lies.cell _ _ hz
        have HDEL := Lib.hid hdel
        have HTW2 := Lib.hid hTw2
        have hids3 : ∀ C3 : Ord, C3.ids = C2.ids.take (i + 1) ++ C2.ids.drop (i + 1 + 1) → C3.ids = O.ids.take (i + 1) ++ O.ids.drop (j + 1) := fun C3 h => by rw [h, hids2]; exact hcut.2
        have HI3 := Lib.hid hids3
        have HIJ := Lib.hid hij
        have u1 : (j : Int) < (k : Int) := by omega
        have u2 : (j : Int) < (n : Int) := by omega
        have u3 : (0 : Int) ≤ (j : Int) := by omega
        have u4 : IntKind.i64.wrap ((j : Int) + 1) = ((j + 1 : Nat) : Int) := by rw [Int.natCast_add]; exact IntWalk.i64_in _ (by omega)
        clear hdel hTw2 hids3 hij hcut hat hids2 hz
        go_wp2_with fail
        refine HDEL.out.mono ?_
        rintro _ w7 ⟨rfl, C3, hT⟩
        have hTw3 := HTW2.out.turn hT
        have HTW3 := Lib.hid hTw3
        have HID3 := Lib.hid (HI3.out _ hT.ids)
        clear hT hTw3 cz
        go_wp2
        go_roundw
        case rel => exact ⟨j + 1, C3, by have := HIJ.out; omega, by omega, by first | rfl | go_num, HTW3.out, HID3.out⟩
        case measure => simp [intOf]; omega
      · have hje : j = k := by omega
        subst hje
        have y1 := fun (W : World) (hK : Kept (fun _ => False) wr W) => stamps_lies (hTw2.on hK).inv1
        have y2 := fun (W : World) (hK : Kept (fun _ => False) wr W) => stamps_lies (hTw2.on hK).inv2
        have y3 := fun (W : World) (hK : Kept (fun _ => False) wr W) => len_pos (hTw2.on hK).inv1
        have y4 := fun (W : World) (hK : Kept (fun _ => False) wr W) => len_pos (hTw2.on hK).inv2
        dsimp only [lptr] at y1 y2
        simp only [hTw2.lb1, hTw2.lb2, ← HLB.out, ← HCB.out, HO1.out, hids2] at y1 y2 y3 y4
        have kx := (xcells hTw2.box).1
        rw [← HLB.out] at kx
        obtain ⟨L, hL⟩ : ∃ L, L = O.ids.take (i + 1) ++ O.ids.drop j := ⟨_, rfl⟩
        rw [← hL] at y1 y2 y3 y4
        have Y1 := Lib.hid y1
        have Y2 := Lib.hid y2
        have Y3 := Lib.hid y3
        have Y4 := Lib.hid y4
        have HTW2 := Lib.hid hTw2
        have v1 : ¬ (j : Int) < (j : Int) := by omega
        have v2 : IntKind.i64.wrap ((j : Int) - (i : Int)) = (j : Int) - (i : Int) := IntWalk.i64_in _ (by omega)
        have v3 : IntKind.i64.wrap ((j : Int) - (i : Int) - 1) = (d : Int) := by rw [HDD.out, show ((j - i - 1 : Nat) : Int) = (j : Int) - (i : Int) - 1 by omega]; exact IntWalk.i64_in _ (by omega)
        clear hTw2 y1 y2 y3 y4 hids2 hL
        go_wp2_with fail
        refine (Y1.out _ (Kept.refl _ _)).mono ?_
        rintro _ w7 ⟨g3, cap3, rfl, hL3, _, hK3⟩
        go_wp2_with fail
        refine (Y2.out _ hK3).mono ?_
        rintro _ w8 ⟨g4, cap4, rfl, hL4, _, hK4⟩
        have hRS := ref_same w8 g3 g4 cap3 cap4 L (hL3.same (hK4.block g3 hL3.lt (fun x => x))) hL4
        have HRS := Lib.hid hRS
        have HK5 := Lib.hid (hK3.trans hK4 (fun _ _ x => x))
        clear hRS hL3 hL4 hK3 hK4
        go_wp2_with fail
        refine HRS.out.mono ?_
        rintro _ w9 ⟨rfl, m, rfl⟩
        have kx2 := cell_kept kx (HK5.out.drewN m)
        go_wp2_with fail
        refine (Y3.out _ (HK5.out.drewN m)).mono ?_
        rintro _ w9 ⟨rfl, rfl⟩
        go_wp2_with fail
        refine (Y4.out _ (HK5.out.drewN m)).mono ?_
        rintro _ w9 ⟨rfl, rfl⟩
        go_wp2
        go_ret
        exact ⟨rfl, HK1.out.trans ((HTW2.out.kept).trans (HK5.out.drewN m) (fun _ _ x => x)) (fun _ _ x => x)⟩
  · have hbn := fun (q : Nat) => between_none (HB3.out.inv.drewN q) HX.out HY.out hik
    dsimp only [lptr] at hbn
    simp only [← HLB.out] at hbn
    have HBN := Lib.hid hbn
    clear hbn
    go_wp2
    go_quiet ((go_at_call 28; exact Calls.quiet_of (HBN.out _)))
    go_wp2
    go_ret
    exact ⟨rfl, ((HK1.out.trans HN.out.kept (fun _ _ x => x)).trans HK3.out (fun _ _ x => x)).drewN _⟩
end Go.Proofs.Ytijceljhpbdnnaa
