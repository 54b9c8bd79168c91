/-
  OrderLess, walked. Conditions: the argument lies in memory.
-/
import Derived.Test.YtijceljhpbdnnaaLawBeside
namespace Go.Proofs.Ytijceljhpbdnnaa
open Go.RowKit

/-- The three places that were picked, as far as k. -/
def arrv (k r0 r1 r2 : Nat) : Array Value := #[.int .i64 ((if 0 < k then r0 else 0 : Nat) : Int), .int .i64 ((if 1 < k then r1 else 0 : Nat) : Int), .int .i64 ((if 2 < k then r2 else 0 : Nat) : Int)]
structure ArrAt (W0 : World) (ib r0 r1 r2 k : Nat) (wr : World) : Prop where
  kept : Kept (fun b => b = ib) W0 wr
  obj : wr.heap[ib]? = some (.cells (arrv k r0 r1 r2) 41)
theorem ArrAt.cells {W0 : World} {ib r0 r1 r2 k : Nat} {wr : World} (h : ArrAt W0 ib r0 r1 r2 k wr) :
    wr.cell? ⟨ib, 0, none⟩ = some (.int .i64 ((if 0 < k then r0 else 0 : Nat) : Int)) ∧ wr.cell? ⟨ib, 1, none⟩ = some (.int .i64 ((if 1 < k then r1 else 0 : Nat) : Int)) ∧ wr.cell? ⟨ib, 2, none⟩ = some (.int .i64 ((if 2 < k then r2 else 0 : Nat) : Int)) ∧
    wr.frozen? ⟨ib, 0, none⟩ = false ∧ wr.frozen? ⟨ib, 1, none⟩ = false ∧ wr.frozen? ⟨ib, 2, none⟩ = false := by
  have a := h.obj
  refine ⟨?_, ?_, ?_, ?_, ?_, ?_⟩ <;> (simp only [World.cell?, World.frozen?]; rw [a]; rfl)
set_option maxRecDepth 100000 in
set_option maxHeartbeats 4000000 in
theorem orderLess_of {w : World} {v : Value} {nn : Nat} {s0 s1 s2 : Int} (h : OpsAt w v nn) (i0 : I64 s0) (i1 : I64 s1) (i2 : I64 s2) : Calls Try.prog 5 #[v, .agg #[.int .i64 s0, .int .i64 s1, .int .i64 s2]] w fun e w' => e = .returned (.bool true) ∧ Kept (fun _ => False) w w' := by
  have hp := fun (W : World) (hK : Kept (fun _ => False) w W) => played_of (h.on' hK)
  have HP := Lib.hid hp
  have hpk := fun (c : Int) (hc : I64 c) (n : Nat) (hn : 0 < n) (hm : n ≤ 1000000) (W : World) => pick_of c n hc hn hm W
  have HPK := Lib.hid hpk
  have I0 := Lib.hid i0
  have I1 := Lib.hid i1
  have I2 := Lib.hid i2
  clear h hp hpk i0 i1 i2
  go_enter Try.func5, Try.ntmps5
  go_wp2_with fail
  have hsb : Kept (fun _ => False) w (w.alloc (.cells #[.int .i64 s0, .int .i64 s1, .int .i64 s2] 41)) := (Kept.refl _ _).alloc _
  have hsa : (w.alloc (.cells #[.int .i64 s0, .int .i64 s1, .int .i64 s2] 41)).heap[w.heap.size]? = some (.cells #[.int .i64 s0, .int .i64 s1, .int .i64 s2] 41) := heap_alloc_at _ _
  refine (sane_of _).mono ?_
  rintro _ w1 ⟨rfl, hK1⟩
  have hK01 := hsb.trans hK1 (fun _ _ x => x)
  have hs1 := (hK1.block _ (heap_lt hsa) (fun x => x)).trans hsa
  have HK1 := Lib.hid hK01
  have HS1 := Lib.hid hs1
  clear hK1 hK01 hs1 hsb hsa
  go_wp2_with fail
  refine (HP.out _ HK1.out).mono ?_
  rintro _ w2 ⟨xb, O, g, cap, rfl, hN, _⟩
  obtain ⟨c0, c1, c2, _, _⟩ := hN.both.cells
  have hs := stamps_lies hN.both.inv
  dsimp only [lptr] at hs
  have HS := Lib.hid hs
  have HN := Lib.hid hN
  clear hN hs
  go_wp2_with fail
  refine HS.out.mono ?_
  rintro _ w3 ⟨g1, cap1, rfl, hL1, _, hK3⟩
  have hB3 := HN.out.both.kept hK3
  have hK := (HK1.out.trans HN.out.kept (fun _ _ x => x)).trans hK3 (fun _ _ x => x)
  have hs3 := (hK3.block _ (by have := HN.out.kept.size; have := heap_lt HS1.out; omega) (fun x => x)).trans ((HN.out.kept.block _ (heap_lt HS1.out) (fun x => x)).trans HS1.out)
  have hpos := ids_pos0 hB3.inv
  have hle := ids_le hB3.inv
  have HB3 := Lib.hid hB3
  have HL1 := Lib.hid hL1
  have HKK := Lib.hid hK
  have HS3 := Lib.hid hs3
  obtain ⟨n, hn⟩ : ∃ n, n = O.ids.length := ⟨_, rfl⟩
  rw [← hn] at hpos hle
  have HN1 := Lib.hid hn
  simp only [← hn]
  clear hL1 hK3 hB3 hK hs3 HS HP HN HK1 c0 c1 c2 hn HS1
  go_wp2
  have hn0 : ((n : Int) == 0) = false := by simp; omega
  rw [hn0]
  clear hn0
  have hW0 : Kept (fun _ => False) w3 (w3.alloc (.cells #[.int .i64 0, .int .i64 0, .int .i64 0] 41)) := (Kept.refl _ _).alloc _
  have hA0 : ArrAt (w3.alloc (.cells #[.int .i64 0, .int .i64 0, .int .i64 0] 41)) w3.heap.size (pickN s0 n) (pickN s1 n) (pickN s2 n) 0 (w3.alloc (.cells #[.int .i64 0, .int .i64 0, .int .i64 0] 41)) := ⟨Kept.refl _ _, heap_alloc_at _ _⟩
  have hr : (∀ W, Calls Try.prog 15 #[.int .i64 s0, .int .i64 n] W fun e w' => e = .returned (.int .i64 (pickN s0 n : Nat)) ∧ w' = W) ∧ (∀ W, Calls Try.prog 15 #[.int .i64 s1, .int .i64 n] W fun e w' => e = .returned (.int .i64 (pickN s1 n : Nat)) ∧ w' = W) ∧
      (∀ W, Calls Try.prog 15 #[.int .i64 s2, .int .i64 n] W fun e w' => e = .returned (.int .i64 (pickN s2 n : Nat)) ∧ w' = W) :=
    ⟨HPK.out s0 I0.out n hpos (by omega), HPK.out s1 I1.out n hpos (by omega), HPK.out s2 I2.out n hpos (by omega)⟩
  have hr0 : pickN s0 n < n := pickN_lt hpos
  have hr1 : pickN s1 n < n := pickN_lt hpos
  have hr2 : pickN s2 n < n := pickN_lt hpos
  generalize pickN s0 n = r0 at hA0 hr hr0
  generalize pickN s1 n = r1 at hA0 hr hr1
  generalize pickN s2 n = r2 at hA0 hr hr2
  have hB0 := HB3.out.kept hW0
  have hL0 := lies_alloc HL1.out (.cells #[.int .i64 0, .int .i64 0, .int .i64 0] 41)
  have hS0 := (hW0.block _ (heap_lt HS3.out) (fun x => x)).trans HS3.out
  have hKW := HKK.out.trans hW0 (fun _ _ x => x)
  have hib0 : ¬ O.own w3.heap.size := fun k => by have := HB3.out.inv.own_lt k; omega
  have hib1 : xb < w3.heap.size := heap_lt HB3.out.box
  have hib2 : g1 < w3.heap.size := HL1.out.lt
  have hib3 : w.heap.size < w3.heap.size := heap_lt HS3.out
  generalize w3.heap.size = ib at *
  generalize w3.alloc (.cells #[.int .i64 0, .int .i64 0, .int .i64 0] 41) = W0 at *
  have HR := Lib.hid hr
  have HA0 := Lib.hid hA0
  have HB0 := Lib.hid hB0
  have HL0 := Lib.hid hL0
  have HS0 := Lib.hid hS0
  have HKW := Lib.hid hKW
  have HIB0 := Lib.hid hib0
  clear hr hA0 hB0 hL0 hS0 hKW hib0 hW0 HPK I0 I1 I2 HB3 HL1 HKK HS3
  go_loopw [10] (fun c wr => ∃ k : Nat, k ≤ 3 ∧ c = .int .i64 k ∧ ArrAt W0 ib r0 r1 r2 k wr) (fun c _ => 3 - (intOf c).toNat)
  case atStart => exact ⟨0, by omega, rfl, HA0.out⟩
  case round =>
    obtain ⟨k, hk, rfl, hA⟩ := hrel
    obtain ⟨x0, x1, x2, x3, x4, x5⟩ := hA.cells
    have hs := (hA.kept.block _ (heap_lt HS0.out) (by omega)).trans HS0.out
    have y0 : wr.cell? ⟨w.heap.size, 0, none⟩ = some (.int .i64 s0) := by simp only [World.cell?]; rw [hs]; rfl
    have y1 : wr.cell? ⟨w.heap.size, 1, none⟩ = some (.int .i64 s1) := by simp only [World.cell?]; rw [hs]; rfl
    have y2 : wr.cell? ⟨w.heap.size, 2, none⟩ = some (.int .i64 s2) := by simp only [World.cell?]; rw [hs]; rfl
    have HA := Lib.hid hA
    clear hA hs
    by_cases hk3 : k < 3
    · rcases (show k = 0 ∨ k = 1 ∨ k = 2 by omega) with rfl | rfl | rfl
      · have hset := heap_set_same (o := 0) HA.out.obj (.int .i64 (r0 : Int))
        have hk2 := HA.out.kept.setCell (p := ⟨ib, 0, none⟩) (fun _ => rfl) (.int .i64 (r0 : Int))
        have HA2 := Lib.hid (show ArrAt W0 ib r0 r1 r2 1 (wr.setCell ⟨ib, 0, none⟩ (.int .i64 (r0 : Int))) from ⟨hk2, hset⟩)
        clear hset hk2
        go_wp2_with fail
        refine (HR.out.1 _).mono ?_
        rintro _ w4 ⟨rfl, rfl⟩
        go_wp2
        go_roundw
        case rel => exact ⟨1, by omega, by go_num, HA2.out⟩
        case measure => simp [intOf]
      · have hset := heap_set_same (o := 1) HA.out.obj (.int .i64 (r1 : Int))
        have hk2 := HA.out.kept.setCell (p := ⟨ib, 1, none⟩) (fun _ => rfl) (.int .i64 (r1 : Int))
        have HA2 := Lib.hid (show ArrAt W0 ib r0 r1 r2 2 (wr.setCell ⟨ib, 1, none⟩ (.int .i64 (r1 : Int))) from ⟨hk2, hset⟩)
        clear hset hk2
        go_wp2_with fail
        refine (HR.out.2.1 _).mono ?_
        rintro _ w4 ⟨rfl, rfl⟩
        go_wp2
        go_roundw
        case rel => exact ⟨2, by omega, by go_num, HA2.out⟩
        case measure => simp [intOf]
      · have hset := heap_set_same (o := 2) HA.out.obj (.int .i64 (r2 : Int))
        have hk2 := HA.out.kept.setCell (p := ⟨ib, 2, none⟩) (fun _ => rfl) (.int .i64 (r2 : Int))
        have HA2 := Lib.hid (show ArrAt W0 ib r0 r1 r2 3 (wr.setCell ⟨ib, 2, none⟩ (.int .i64 (r2 : Int))) from ⟨hk2, hset⟩)
        clear hset hk2
        go_wp2_with fail
        refine (HR.out.2.2 _).mono ?_
        rintro _ w4 ⟨rfl, rfl⟩
        go_wp2
        go_roundw
        case rel => exact ⟨3, by omega, by go_num, HA2.out⟩
        case measure => simp [intOf]
    · obtain rfl : k = 3 := by omega
      clear y0 y1 y2 x3 x4 x5
      have hI : Inv wr O := HB0.out.inv.frame HA.out.kept (fun k ho e => HIB0.out (e ▸ ho))
      have hL := HL0.out.same (HA.out.kept.block g1 HL0.out.lt (by omega))
      have hx := (HA.out.kept.block xb (heap_lt HB0.out.box) (by omega)).trans HB0.out.box
      obtain ⟨e0, _, _⟩ := xcells hx
      obtain ⟨a0, h0⟩ : ∃ a, O.ids[r0]? = some a := ⟨_, List.getElem?_eq_getElem (by rw [← HN1.out]; exact hr0)⟩
      obtain ⟨a1, h1⟩ : ∃ a, O.ids[r1]? = some a := ⟨_, List.getElem?_eq_getElem (by rw [← HN1.out]; exact hr1)⟩
      obtain ⟨a2, h2⟩ : ∃ a, O.ids[r2]? = some a := ⟨_, List.getElem?_eq_getElem (by rw [← HN1.out]; exact hr2)⟩
      have g0 := hL.cell _ _ h0
      have g1' := hL.cell _ _ h1
      have g2 := hL.cell _ _ h2
      have l01 := fun q => less_pos (hI.drewN q) h0 h1
      have l10 := fun q => less_pos (hI.drewN q) h1 h0
      have l12 := fun q => less_pos (hI.drewN q) h1 h2
      have l02 := fun q => less_pos (hI.drewN q) h0 h2
      have hfin := HKW.out.trans (HA.out.kept.mono (T := fun b => b = ib) (fun _ _ x => x)) (T := fun b => b = ib) (S := fun _ => False) (fun k hk e => by omega)
      obtain ⟨lb, hlb⟩ : ∃ l, l = O.lb := ⟨_, rfl⟩
      simp only [← hlb] at l01 l10 l12 l02 e0
      have L01 := Lib.hid l01
      have L10 := Lib.hid l10
      have L12 := Lib.hid l12
      have L02 := Lib.hid l02
      have HF := Lib.hid hfin
      simp only [show (0 : Nat) < 3 by omega, show (1 : Nat) < 3 by omega, show (2 : Nat) < 3 by omega, if_true] at x0 x1 x2
      have t0 : (r0 : Int) < (n : Int) := by omega
      have t1 : (r1 : Int) < (n : Int) := by omega
      have t2 : (r2 : Int) < (n : Int) := by omega
      have u0 : (0 : Int) ≤ (r0 : Int) := by omega
      have u1 : (0 : Int) ≤ (r1 : Int) := by omega
      have u2 : (0 : Int) ≤ (r2 : Int) := by omega
      clear l01 l10 l12 l02 hfin hI hL hx h0 h1 h2 hlb
      go_wp2
      go_quiet ((go_at_call 20; exact Calls.quiet_of (L01.out _)))
      go_wp2
      go_quiet ((go_at_call 20; exact quiet_of2 (L10.out _)))
      go_wp2
      go_quiet ((go_at_call 20; exact quiet_of2 (L12.out _)))
      go_wp2
      go_quiet ((go_at_call 20; exact quiet_of2 (L02.out _)))
      clear t0 t1 t2 u0 u1 u2 e0 g0 g1' g2
      by_cases h01 : r0 < r1 <;> by_cases h10 : r1 < r0 <;> by_cases h12 : r1 < r2 <;> by_cases h02 : r0 < r2
      all_goals first
        | (exfalso; omega)
        | (go_wp2
           go_ret
           exact ⟨rfl, HF.out.drewN _⟩)
end Go.Proofs.Ytijceljhpbdnnaa
