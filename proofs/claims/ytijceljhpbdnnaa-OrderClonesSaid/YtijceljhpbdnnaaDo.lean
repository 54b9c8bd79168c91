/-
  do: an operation with both; they agree. Conditions: each theorem's own hypotheses on memory.
-/
import Derived.Test.YtijceljhpbdnnaaBoth
namespace Go.Proofs.Ytijceljhpbdnnaa
open Go.RowKit

theorem xcells {w : World} {xb lb g n cap made : Nat} (a : w.heap[xb]? = some (xobj lb g n cap made)) :
    w.cell? ⟨xb, 0, none⟩ = some (.pointer (some ⟨lb, 0, none⟩)) ∧ w.cell? ⟨xb, 1, none⟩ = some (.slice (some ⟨g, 0, none⟩) n cap) ∧ w.cell? ⟨xb, 2, none⟩ = some (.int .i64 made) := by
  refine ⟨?_, ?_, ?_⟩ <;> (simp only [World.cell?]; rw [a]; rfl)
theorem xfrozen {w : World} {xb lb g n cap made : Nat} (a : w.heap[xb]? = some (xobj lb g n cap made)) : w.frozen? ⟨xb, 1, none⟩ = false ∧ w.frozen? ⟨xb, 2, none⟩ = false := by
  refine ⟨?_, ?_⟩ <;> (simp only [World.frozen?]; rw [a]; rfl)
theorem DoAt.onTurn {w W w2 : World} {xb : Nat} {O O' : Ord} {g cap B : Nat} {kd a b : Int} {md : Bool} {ids' : List Nat} {made' m : Nat} (h : DoAt w xb O g cap B kd a b md W) (_ : Turn (W.drewN m) w2 O O' ids' made') : DoAt w xb O g cap B kd a b md (W.drewN m) :=
  h.on ((Kept.refl _ _).drewN m)
theorem Kept.heap {w w' : World} (h : Kept (fun _ => False) w w') : ∀ k, k < w.heap.size → w'.heap[k]? = w.heap[k]? := fun k hk => h.block k hk (fun x => x)
set_option maxRecDepth 100000 in
set_option maxHeartbeats 4000000 in
theorem do_3 {w : World} {xb : Nat} {O : Ord} {g cap : Nat} {kd a b : Int} {md : Bool} (h : Both w xb O g cap) (hk : I64 kd) (ha : I64 a) (hb : I64 b) (hkd : pickN kd 8 = 3) :
    Calls Try.prog 31 #[.pointer (some ⟨xb, 0, none⟩), opv kd a b md] w fun e w' => e = .returned (.bool true) ∧ ∃ O' g' cap', Did w w' xb O O' g g' cap' := by
  obtain ⟨hm0, hm1⟩ := made_bounds h.inv
  have hst := fun (W : World) => stamps_of kd a b md O.P.length ha hb hm0 (by omega) W
  have hpk : ∀ (W : World), Calls Try.prog 15 #[.int .i64 kd, .int .i64 8] W fun e w' => e = .returned (.int .i64 3) ∧ w' = W := fun W => by
    have := pick_of kd 8 hk (by omega) (by omega) W
    rw [hkd] at this
    exact this
  have hlt : xb < w.heap.size := heap_lt h.box
  have hBx : ¬ w.heap.size = xb := by omega
  have HST := Lib.hid hst
  have HPK := Lib.hid hpk
  have HD := Lib.hid (DoAt.start (kd := kd) (a := a) (b := b) (md := md) h)
  clear hst hpk h hk ha hb hkd hm0 hm1 hlt
  go_enter Try.func31, Try.ntmps31
  go_wp2
  generalize w.alloc (opobj kd a b md) = W0 at *
  obtain ⟨d0, d1, d2, d3⟩ := HD.out.cells
  obtain ⟨c0, c1, c2, _, _⟩ := HD.out.both.cells
  go_region_held3 (fun w' => w'.cell? ⟨w.heap.size, 0, none⟩ = some (.int .i64 kd) ∧ w'.cell? ⟨w.heap.size, 1, none⟩ = some (.int .i64 a) ∧ w'.cell? ⟨w.heap.size, 2, none⟩ = some (.int .i64 b) ∧ w'.cell? ⟨w.heap.size, 3, none⟩ = some (.bool md) ∧ w'.cell? ⟨xb, 2, none⟩ = some (.int .i64 O.P.length))
    (first | exact ⟨d0, d1, d2, d3, c2⟩ | exact ⟨f0, f1, f2, f3, f6⟩ | go_keep)
    (first | (go_at_call 45; refine (HST.out _).mono ?_; rintro _ w1 ⟨⟨x, y, rfl⟩, hK1⟩; have hD1 := HD.out.on (keptDrew hK1); obtain ⟨f0, f1, f2, f3⟩ := hD1.cells; obtain ⟨f4, f5, f6, _, _⟩ := hD1.both.cells; have HD1 := Lib.hid hD1; clear hK1 hD1))
  rename_i hHeld
  clear hHeld d0 d1 d2 d3 c0 c1 c2
  have hL1 := HD1.out.both.lies
  obtain ⟨v, er, hA, hB⟩ := less_both HD1.out.both.inv x y
  have hAm := hA _ HD1.out.both.inv
  dsimp only [lptr] at hAm
  have HA := Lib.hid hAm
  have HB := Lib.hid fun (m : Nat) => hB (w1.drewN m) g cap (hL1.same rfl)
  clear hA hB hAm hL1
  generalize O.ids.length = n at *
  generalize O.P.length = made at *
  generalize O.lb = lb at *
  go_wp2_with fail
  refine (HPK.out _).mono ?_
  rintro _ w' ⟨rfl, rfl⟩
  go_wp2_with fail
  refine HA.out.mono ?_
  rintro _ w' ⟨rfl, m, rfl⟩
  go_wp2_with fail
  refine (HB.out _).mono ?_
  rintro _ w' ⟨rfl, hK2⟩
  have HK2 := Lib.hid hK2
  clear hK2
  go_wp2
  go_ret
  exact ⟨rfl, O, g, cap, HD1.out.did (((Kept.refl _ _).drewN _).trans HK2.out (fun _ _ x => x))⟩
set_option maxRecDepth 100000 in
set_option maxHeartbeats 4000000 in
theorem do_4 {w : World} {xb : Nat} {O : Ord} {g cap : Nat} {kd a b : Int} {md : Bool} (h : Both w xb O g cap) (hk : I64 kd) (ha : I64 a) (hb : I64 b) (hkd : pickN kd 8 = 4) :
    Calls Try.prog 31 #[.pointer (some ⟨xb, 0, none⟩), opv kd a b md] w fun e w' => e = .returned (.bool true) ∧ ∃ O' g' cap', Did w w' xb O O' g g' cap' := by
  obtain ⟨hm0, hm1⟩ := made_bounds h.inv
  have hst := fun (W : World) => stamps_of kd a b md O.P.length ha hb hm0 (by omega) W
  have hpk : ∀ (W : World), Calls Try.prog 15 #[.int .i64 kd, .int .i64 8] W fun e w' => e = .returned (.int .i64 4) ∧ w' = W := fun W => by
    have := pick_of kd 8 hk (by omega) (by omega) W
    rw [hkd] at this
    exact this
  have hlt : xb < w.heap.size := heap_lt h.box
  have hBx : ¬ w.heap.size = xb := by omega
  have HST := Lib.hid hst
  have HPK := Lib.hid hpk
  have HD := Lib.hid (DoAt.start (kd := kd) (a := a) (b := b) (md := md) h)
  clear hst hpk h hk ha hb hkd hm0 hm1 hlt
  go_enter Try.func31, Try.ntmps31
  go_wp2
  generalize w.alloc (opobj kd a b md) = W0 at *
  obtain ⟨d0, d1, d2, d3⟩ := HD.out.cells
  obtain ⟨c0, c1, c2, _, _⟩ := HD.out.both.cells
  go_region_held3 (fun w' => w'.cell? ⟨w.heap.size, 0, none⟩ = some (.int .i64 kd) ∧ w'.cell? ⟨w.heap.size, 1, none⟩ = some (.int .i64 a) ∧ w'.cell? ⟨w.heap.size, 2, none⟩ = some (.int .i64 b) ∧ w'.cell? ⟨w.heap.size, 3, none⟩ = some (.bool md) ∧ w'.cell? ⟨xb, 2, none⟩ = some (.int .i64 O.P.length))
    (first | exact ⟨d0, d1, d2, d3, c2⟩ | exact ⟨f0, f1, f2, f3, f6⟩ | go_keep)
    (first | (go_at_call 45; refine (HST.out _).mono ?_; rintro _ w1 ⟨⟨x, y, rfl⟩, hK1⟩; have hD1 := HD.out.on (keptDrew hK1); obtain ⟨f0, f1, f2, f3⟩ := hD1.cells; obtain ⟨f4, f5, f6, _, _⟩ := hD1.both.cells; have HD1 := Lib.hid hD1; clear hK1 hD1))
  rename_i hHeld
  clear hHeld d0 d1 d2 d3 c0 c1 c2
  have hL1 := HD1.out.both.lies
  obtain ⟨v, er, hA, hB⟩ := next_both HD1.out.both.inv x
  have hAm := hA _ HD1.out.both.inv
  dsimp only [lptr] at hAm
  have HA := Lib.hid hAm
  have HB := Lib.hid fun (m : Nat) => hB (w1.drewN m) g cap (hL1.same rfl)
  clear hA hB hAm hL1
  generalize O.ids.length = n at *
  generalize O.P.length = made at *
  generalize O.lb = lb at *
  go_wp2_with fail
  refine (HPK.out _).mono ?_
  rintro _ w' ⟨rfl, rfl⟩
  go_wp2_with fail
  refine HA.out.mono ?_
  rintro _ w' ⟨rfl, m, rfl⟩
  go_wp2_with fail
  refine (HB.out _).mono ?_
  rintro _ w' ⟨rfl, hK2⟩
  have HK2 := Lib.hid hK2
  clear hK2
  go_wp2
  go_ret
  exact ⟨rfl, O, g, cap, HD1.out.did (((Kept.refl _ _).drewN _).trans HK2.out (fun _ _ x => x))⟩
set_option maxRecDepth 100000 in
set_option maxHeartbeats 4000000 in
theorem do_5 {w : World} {xb : Nat} {O : Ord} {g cap : Nat} {kd a b : Int} {md : Bool} (h : Both w xb O g cap) (hk : I64 kd) (ha : I64 a) (hb : I64 b) (hkd : pickN kd 8 = 5) :
    Calls Try.prog 31 #[.pointer (some ⟨xb, 0, none⟩), opv kd a b md] w fun e w' => e = .returned (.bool true) ∧ ∃ O' g' cap', Did w w' xb O O' g g' cap' := by
  obtain ⟨hm0, hm1⟩ := made_bounds h.inv
  have hst := fun (W : World) => stamps_of kd a b md O.P.length ha hb hm0 (by omega) W
  have hpk : ∀ (W : World), Calls Try.prog 15 #[.int .i64 kd, .int .i64 8] W fun e w' => e = .returned (.int .i64 5) ∧ w' = W := fun W => by
    have := pick_of kd 8 hk (by omega) (by omega) W
    rw [hkd] at this
    exact this
  have hlt : xb < w.heap.size := heap_lt h.box
  have hBx : ¬ w.heap.size = xb := by omega
  have HST := Lib.hid hst
  have HPK := Lib.hid hpk
  have HD := Lib.hid (DoAt.start (kd := kd) (a := a) (b := b) (md := md) h)
  clear hst hpk h hk ha hb hkd hm0 hm1 hlt
  go_enter Try.func31, Try.ntmps31
  go_wp2
  generalize w.alloc (opobj kd a b md) = W0 at *
  obtain ⟨d0, d1, d2, d3⟩ := HD.out.cells
  obtain ⟨c0, c1, c2, _, _⟩ := HD.out.both.cells
  go_region_held3 (fun w' => w'.cell? ⟨w.heap.size, 0, none⟩ = some (.int .i64 kd) ∧ w'.cell? ⟨w.heap.size, 1, none⟩ = some (.int .i64 a) ∧ w'.cell? ⟨w.heap.size, 2, none⟩ = some (.int .i64 b) ∧ w'.cell? ⟨w.heap.size, 3, none⟩ = some (.bool md) ∧ w'.cell? ⟨xb, 2, none⟩ = some (.int .i64 O.P.length))
    (first | exact ⟨d0, d1, d2, d3, c2⟩ | exact ⟨f0, f1, f2, f3, f6⟩ | go_keep)
    (first | (go_at_call 45; refine (HST.out _).mono ?_; rintro _ w1 ⟨⟨x, y, rfl⟩, hK1⟩; have hD1 := HD.out.on (keptDrew hK1); obtain ⟨f0, f1, f2, f3⟩ := hD1.cells; obtain ⟨f4, f5, f6, _, _⟩ := hD1.both.cells; have HD1 := Lib.hid hD1; clear hK1 hD1))
  rename_i hHeld
  clear hHeld d0 d1 d2 d3 c0 c1 c2
  have hL1 := HD1.out.both.lies
  obtain ⟨v, er, hA, hB⟩ := prev_both HD1.out.both.inv x
  have hAm := hA _ HD1.out.both.inv
  dsimp only [lptr] at hAm
  have HA := Lib.hid hAm
  have HB := Lib.hid fun (m : Nat) => hB (w1.drewN m) g cap (hL1.same rfl)
  clear hA hB hAm hL1
  generalize O.ids.length = n at *
  generalize O.P.length = made at *
  generalize O.lb = lb at *
  go_wp2_with fail
  refine (HPK.out _).mono ?_
  rintro _ w' ⟨rfl, rfl⟩
  go_wp2_with fail
  refine HA.out.mono ?_
  rintro _ w' ⟨rfl, m, rfl⟩
  go_wp2_with fail
  refine (HB.out _).mono ?_
  rintro _ w' ⟨rfl, hK2⟩
  have HK2 := Lib.hid hK2
  clear hK2
  go_wp2
  go_ret
  exact ⟨rfl, O, g, cap, HD1.out.did (((Kept.refl _ _).drewN _).trans HK2.out (fun _ _ x => x))⟩
set_option maxRecDepth 100000 in
set_option maxHeartbeats 4000000 in
theorem do_6 {w : World} {xb : Nat} {O : Ord} {g cap : Nat} {kd a b : Int} {md : Bool} (h : Both w xb O g cap) (hk : I64 kd) (ha : I64 a) (hb : I64 b) (hkd : pickN kd 8 = 6) :
    Calls Try.prog 31 #[.pointer (some ⟨xb, 0, none⟩), opv kd a b md] w fun e w' => e = .returned (.bool true) ∧ ∃ O' g' cap', Did w w' xb O O' g g' cap' := by
  obtain ⟨hm0, hm1⟩ := made_bounds h.inv
  have hst := fun (W : World) => stamps_of kd a b md O.P.length ha hb hm0 (by omega) W
  have hpk : ∀ (W : World), Calls Try.prog 15 #[.int .i64 kd, .int .i64 8] W fun e w' => e = .returned (.int .i64 6) ∧ w' = W := fun W => by
    have := pick_of kd 8 hk (by omega) (by omega) W
    rw [hkd] at this
    exact this
  have hlt : xb < w.heap.size := heap_lt h.box
  have hBx : ¬ w.heap.size = xb := by omega
  have HST := Lib.hid hst
  have HPK := Lib.hid hpk
  have HD := Lib.hid (DoAt.start (kd := kd) (a := a) (b := b) (md := md) h)
  clear hst hpk h hk ha hb hkd hm0 hm1 hlt
  go_enter Try.func31, Try.ntmps31
  go_wp2
  generalize w.alloc (opobj kd a b md) = W0 at *
  obtain ⟨d0, d1, d2, d3⟩ := HD.out.cells
  obtain ⟨c0, c1, c2, _, _⟩ := HD.out.both.cells
  go_region_held3 (fun w' => w'.cell? ⟨w.heap.size, 0, none⟩ = some (.int .i64 kd) ∧ w'.cell? ⟨w.heap.size, 1, none⟩ = some (.int .i64 a) ∧ w'.cell? ⟨w.heap.size, 2, none⟩ = some (.int .i64 b) ∧ w'.cell? ⟨w.heap.size, 3, none⟩ = some (.bool md) ∧ w'.cell? ⟨xb, 2, none⟩ = some (.int .i64 O.P.length))
    (first | exact ⟨d0, d1, d2, d3, c2⟩ | exact ⟨f0, f1, f2, f3, f6⟩ | go_keep)
    (first | (go_at_call 45; refine (HST.out _).mono ?_; rintro _ w1 ⟨⟨x, y, rfl⟩, hK1⟩; have hD1 := HD.out.on (keptDrew hK1); obtain ⟨f0, f1, f2, f3⟩ := hD1.cells; obtain ⟨f4, f5, f6, _, _⟩ := hD1.both.cells; have HD1 := Lib.hid hD1; clear hK1 hD1))
  rename_i hHeld
  clear hHeld d0 d1 d2 d3 c0 c1 c2
  have hL1 := HD1.out.both.lies
  obtain ⟨r, hA, hB⟩ := has_both HD1.out.both.inv x
  dsimp only [lptr] at hA
  have HA := Lib.hid fun (W : World) (hK : Kept (fun _ => False) w1 W) => hA W (HD1.out.both.inv.frame hK (fun _ _ k => k))
  have HB := Lib.hid fun (W : World) (hK : Kept (fun _ => False) w1 W) => hB W g cap (hL1.same (hK.block g hL1.lt (fun k => k)))
  clear hA hB hL1
  generalize O.ids.length = n at *
  generalize O.P.length = made at *
  generalize O.lb = lb at *
  go_wp2_with fail
  refine (HPK.out _).mono ?_
  rintro _ w' ⟨rfl, rfl⟩
  go_wp2_with fail
  go_region_held3 (fun w' => w'.cell? ⟨xb, 0, none⟩ = some (.pointer (some ⟨lb, 0, none⟩)) ∧ w'.cell? ⟨xb, 1, none⟩ = some (.slice (some ⟨g, 0, none⟩) n cap) ∧ w'.cell? ⟨xb, 2, none⟩ = some (.int .i64 made))
    (first | exact ⟨f4, f5, f6⟩ | go_keep)
    (first | (go_at_call 25; refine (HA.out _ ((Kept.refl _ _).drew)).mono ?_; rintro _ w2 ⟨rfl, rfl⟩) | (go_at_call 51; refine (HB.out _ ((Kept.refl _ _).drew)).mono ?_; rintro _ w2 ⟨rfl, rfl⟩))
  go_wp2
  go_ret
  exact ⟨rfl, O, g, cap, HD1.out.did (((Kept.refl _ _).alloc _).drew)⟩
set_option maxRecDepth 100000 in
set_option maxHeartbeats 4000000 in
theorem do_1 {w : World} {xb : Nat} {O : Ord} {g cap : Nat} {kd a b : Int} {md : Bool} (h : Both w xb O g cap) (hk : I64 kd) (ha : I64 a) (hb : I64 b) (hkd : pickN kd 8 = 1) :
    Calls Try.prog 31 #[.pointer (some ⟨xb, 0, none⟩), opv kd a b md] w fun e w' => e = .returned (.bool true) ∧ ∃ O' g' cap', Did w w' xb O O' g g' cap' := by
  obtain ⟨hm0, hm1⟩ := made_bounds h.inv
  have hst := fun (W : World) => stamps_of kd a b md O.P.length ha hb hm0 (by omega) W
  have hpk : ∀ (W : World), Calls Try.prog 15 #[.int .i64 kd, .int .i64 8] W fun e w' => e = .returned (.int .i64 1) ∧ w' = W := fun W => by
    have := pick_of kd 8 hk (by omega) (by omega) W
    rw [hkd] at this
    exact this
  have hlt : xb < w.heap.size := heap_lt h.box
  have hBx : ¬ w.heap.size = xb := by omega
  have HST := Lib.hid hst
  have HPK := Lib.hid hpk
  have HD := Lib.hid (DoAt.start (kd := kd) (a := a) (b := b) (md := md) h)
  clear hst hpk h hk ha hb hkd hm0 hm1 hlt
  go_enter Try.func31, Try.ntmps31
  go_wp2
  generalize w.alloc (opobj kd a b md) = W0 at *
  obtain ⟨d0, d1, d2, d3⟩ := HD.out.cells
  obtain ⟨c0, c1, c2, _, _⟩ := HD.out.both.cells
  go_region_held3 (fun w' => w'.cell? ⟨w.heap.size, 0, none⟩ = some (.int .i64 kd) ∧ w'.cell? ⟨w.heap.size, 1, none⟩ = some (.int .i64 a) ∧ w'.cell? ⟨w.heap.size, 2, none⟩ = some (.int .i64 b) ∧ w'.cell? ⟨w.heap.size, 3, none⟩ = some (.bool md) ∧ w'.cell? ⟨xb, 2, none⟩ = some (.int .i64 O.P.length))
    (first | exact ⟨d0, d1, d2, d3, c2⟩ | exact ⟨f0, f1, f2, f3, f6⟩ | go_keep)
    (first | (go_at_call 45; refine (HST.out _).mono ?_; rintro _ w1 ⟨⟨x, y, rfl⟩, hK1⟩; have hD1 := HD.out.on (keptDrew hK1); obtain ⟨f0, f1, f2, f3⟩ := hD1.cells; obtain ⟨f4, f5, f6, _, _⟩ := hD1.both.cells; have HD1 := Lib.hid hD1; clear hK1 hD1))
  rename_i hHeld
  clear hHeld d0 d1 d2 d3 c0 c1 c2
  obtain ⟨er, ids', made', hmade, hA, hB⟩ := delete_both' HD1.out.both.inv HD1.out.both.few x
  have hAm := hA _ HD1.out.both.inv
  dsimp only [lptr] at hAm
  have HA := Lib.hid hAm
  have HB := Lib.hid hB
  have HMD := Lib.hid hmade
  clear hA hB hAm hmade
  obtain ⟨n, hn⟩ : ∃ n, n = O.ids.length := ⟨_, rfl⟩
  obtain ⟨made, hmd⟩ : ∃ m, m = O.P.length := ⟨_, rfl⟩
  obtain ⟨lb, hlb⟩ : ∃ l, l = O.lb := ⟨_, rfl⟩
  rw [← hn] at f5
  rw [← hmd] at f6
  rw [← hlb] at f4
  simp only [← hlb] at HA
  simp only [← hn, ← hmd] at HB
  have HN := Lib.hid hn
  have HMM := Lib.hid hmd
  have HLB := Lib.hid hlb
  clear hn hmd hlb
  go_wp2_with fail
  refine (HPK.out _).mono ?_
  rintro _ w' ⟨rfl, rfl⟩
  go_wp2_with fail
  refine HA.out.mono ?_
  rintro _ w2 ⟨rfl, O', hT⟩
  have hD1 := HD1.out
  have HT := Lib.hid hT
  have hx2 := (hT.kept.block xb (heap_lt hD1.both.box) hD1.both.boxOff).trans hD1.both.box
  rw [← HN.out, ← HMM.out, ← HLB.out] at hx2
  obtain ⟨k0, k1, k2⟩ := xcells hx2
  have hl2 := hD1.both.lies.same (hT.kept.block g hD1.both.lies.lt hD1.both.gOff)
  have HL2 := Lib.hid hl2
  have HX2 := Lib.hid hx2
  have HD2 := Lib.hid hD1
  clear hT hl2 hD1 hx2
  go_wp2_with fail
  refine (HB.out _ _ _ HL2.out).mono ?_
  rintro _ w3 ⟨g', cap', rfl, hL⟩
  have hx3 := (hL.2.2.block xb (heap_lt HX2.out) (fun x => x)).trans HX2.out
  obtain ⟨j0, j1, j2⟩ := xcells hx3
  obtain ⟨j3, j4⟩ := xfrozen hx3
  have HLF := Lib.hid hL
  have hlt3 : xb < w3.heap.size := heap_lt hx3
  clear hL hx3
  go_wp2
  go_ret
  exact ⟨rfl, O', g', cap', HD2.out.fin HT.out HMD.out HLF.out _⟩
set_option maxRecDepth 100000 in
set_option maxHeartbeats 4000000 in
theorem do_2 {w : World} {xb : Nat} {O : Ord} {g cap : Nat} {kd a b : Int} {md : Bool} (h : Both w xb O g cap) (hk : I64 kd) (ha : I64 a) (hb : I64 b) (hkd : pickN kd 8 = 2) :
    Calls Try.prog 31 #[.pointer (some ⟨xb, 0, none⟩), opv kd a b md] w fun e w' => e = .returned (.bool true) ∧ ∃ O' g' cap', Did w w' xb O O' g g' cap' := by
  obtain ⟨hm0, hm1⟩ := made_bounds h.inv
  have hst := fun (W : World) => stamps_of kd a b md O.P.length ha hb hm0 (by omega) W
  have hpk : ∀ (W : World), Calls Try.prog 15 #[.int .i64 kd, .int .i64 8] W fun e w' => e = .returned (.int .i64 2) ∧ w' = W := fun W => by
    have := pick_of kd 8 hk (by omega) (by omega) W
    rw [hkd] at this
    exact this
  have hlt : xb < w.heap.size := heap_lt h.box
  have hBx : ¬ w.heap.size = xb := by omega
  have HST := Lib.hid hst
  have HPK := Lib.hid hpk
  have HD := Lib.hid (DoAt.start (kd := kd) (a := a) (b := b) (md := md) h)
  clear hst hpk h hk ha hb hkd hm0 hm1 hlt
  go_enter Try.func31, Try.ntmps31
  go_wp2
  generalize w.alloc (opobj kd a b md) = W0 at *
  obtain ⟨d0, d1, d2, d3⟩ := HD.out.cells
  obtain ⟨c0, c1, c2, _, _⟩ := HD.out.both.cells
  go_region_held3 (fun w' => w'.cell? ⟨w.heap.size, 0, none⟩ = some (.int .i64 kd) ∧ w'.cell? ⟨w.heap.size, 1, none⟩ = some (.int .i64 a) ∧ w'.cell? ⟨w.heap.size, 2, none⟩ = some (.int .i64 b) ∧ w'.cell? ⟨w.heap.size, 3, none⟩ = some (.bool md) ∧ w'.cell? ⟨xb, 2, none⟩ = some (.int .i64 O.P.length))
    (first | exact ⟨d0, d1, d2, d3, c2⟩ | exact ⟨f0, f1, f2, f3, f6⟩ | go_keep)
    (first | (go_at_call 45; refine (HST.out _).mono ?_; rintro _ w1 ⟨⟨x, y, rfl⟩, hK1⟩; have hD1 := HD.out.on (keptDrew hK1); obtain ⟨f0, f1, f2, f3⟩ := hD1.cells; obtain ⟨f4, f5, f6, _, _⟩ := hD1.both.cells; have HD1 := Lib.hid hD1; clear hK1 hD1))
  rename_i hHeld
  clear hHeld d0 d1 d2 d3 c0 c1 c2
  obtain ⟨s, er, ids', made', hmade, hA, hB⟩ := between_both' HD1.out.both.inv HD1.out.both.few x y
  have hAm := hA _ HD1.out.both.inv
  dsimp only [lptr] at hAm
  have HA := Lib.hid hAm
  have HB := Lib.hid hB
  have HMD := Lib.hid hmade
  clear hA hB hAm hmade
  obtain ⟨n, hn⟩ : ∃ n, n = O.ids.length := ⟨_, rfl⟩
  obtain ⟨made, hmd⟩ : ∃ m, m = O.P.length := ⟨_, rfl⟩
  obtain ⟨lb, hlb⟩ : ∃ l, l = O.lb := ⟨_, rfl⟩
  rw [← hn] at f5
  rw [← hmd] at f6
  rw [← hlb] at f4
  simp only [← hlb] at HA
  simp only [← hn, ← hmd] at HB
  have HN := Lib.hid hn
  have HMM := Lib.hid hmd
  have HLB := Lib.hid hlb
  clear hn hmd hlb
  go_wp2_with fail
  refine (HPK.out _).mono ?_
  rintro _ w' ⟨rfl, rfl⟩
  go_wp2_with fail
  refine HA.out.mono ?_
  rintro _ w2 ⟨rfl, O', hT⟩
  have hD1 := HD1.out
  have HT := Lib.hid hT
  have hx2 := (hT.kept.block xb (heap_lt hD1.both.box) hD1.both.boxOff).trans hD1.both.box
  rw [← HN.out, ← HMM.out, ← HLB.out] at hx2
  obtain ⟨k0, k1, k2⟩ := xcells hx2
  have hl2 := hD1.both.lies.same (hT.kept.block g hD1.both.lies.lt hD1.both.gOff)
  have HL2 := Lib.hid hl2
  have HX2 := Lib.hid hx2
  have HD2 := Lib.hid hD1
  clear hT hl2 hD1 hx2
  go_wp2_with fail
  refine (HB.out _ _ _ HL2.out).mono ?_
  rintro _ w3 ⟨g', cap', rfl, hL⟩
  have hx3 := (hL.2.2.block xb (heap_lt HX2.out) (fun x => x)).trans HX2.out
  obtain ⟨j0, j1, j2⟩ := xcells hx3
  obtain ⟨j3, j4⟩ := xfrozen hx3
  have HLF := Lib.hid hL
  have hlt3 : xb < w3.heap.size := heap_lt hx3
  clear hL hx3
  go_wp2
  go_ret
  exact ⟨rfl, O', g', cap', HD2.out.fin HT.out HMD.out HLF.out _⟩
set_option maxRecDepth 100000 in
set_option maxHeartbeats 4000000 in
theorem do_0 {w : World} {xb : Nat} {O : Ord} {g cap : Nat} {kd a b : Int} {md : Bool} (h : Both w xb O g cap) (hk : I64 kd) (ha : I64 a) (hb : I64 b) (hkd : pickN kd 8 = 0) :
    Calls Try.prog 31 #[.pointer (some ⟨xb, 0, none⟩), opv kd a b md] w fun e w' => e = .returned (.bool true) ∧ ∃ O' g' cap', Did w w' xb O O' g g' cap' := by
  obtain ⟨hm0, hm1⟩ := made_bounds h.inv
  have hst := fun (W : World) => stamps_of kd a b md O.P.length ha hb hm0 (by omega) W
  have hpk : ∀ (W : World), Calls Try.prog 15 #[.int .i64 kd, .int .i64 8] W fun e w' => e = .returned (.int .i64 0) ∧ w' = W := fun W => by
    have := pick_of kd 8 hk (by omega) (by omega) W
    rw [hkd] at this
    exact this
  have hlt : xb < w.heap.size := heap_lt h.box
  have hBx : ¬ w.heap.size = xb := by omega
  have HST := Lib.hid hst
  have HPK := Lib.hid hpk
  have HD := Lib.hid (DoAt.start (kd := kd) (a := a) (b := b) (md := md) h)
  clear hst hpk h hk ha hb hkd hm0 hm1 hlt
  go_enter Try.func31, Try.ntmps31
  go_wp2
  generalize w.alloc (opobj kd a b md) = W0 at *
  obtain ⟨d0, d1, d2, d3⟩ := HD.out.cells
  obtain ⟨c0, c1, c2, _, _⟩ := HD.out.both.cells
  go_region_held3 (fun w' => w'.cell? ⟨w.heap.size, 0, none⟩ = some (.int .i64 kd) ∧ w'.cell? ⟨w.heap.size, 1, none⟩ = some (.int .i64 a) ∧ w'.cell? ⟨w.heap.size, 2, none⟩ = some (.int .i64 b) ∧ w'.cell? ⟨w.heap.size, 3, none⟩ = some (.bool md) ∧ w'.cell? ⟨xb, 2, none⟩ = some (.int .i64 O.P.length))
    (first | exact ⟨d0, d1, d2, d3, c2⟩ | exact ⟨f0, f1, f2, f3, f6⟩ | go_keep)
    (first | (go_at_call 45; refine (HST.out _).mono ?_; rintro _ w1 ⟨⟨x, y, rfl⟩, hK1⟩; have hD1 := HD.out.on (keptDrew hK1); obtain ⟨f0, f1, f2, f3⟩ := hD1.cells; obtain ⟨f4, f5, f6, _, _⟩ := hD1.both.cells; have HD1 := Lib.hid hD1; clear hK1 hD1))
  rename_i hHeld
  clear hHeld d0 d1 d2 d3 c0 c1 c2
  obtain ⟨s, er, ids', made', hmade, hA, hB⟩ := insert_both HD1.out.both.inv HD1.out.both.few x
  have hAm := hA _ HD1.out.both.inv
  dsimp only [lptr] at hAm
  have HA := Lib.hid hAm
  have HB := Lib.hid hB
  have HMD := Lib.hid hmade
  clear hA hB hAm hmade
  obtain ⟨n, hn⟩ : ∃ n, n = O.ids.length := ⟨_, rfl⟩
  obtain ⟨made, hmd⟩ : ∃ m, m = O.P.length := ⟨_, rfl⟩
  obtain ⟨lb, hlb⟩ : ∃ l, l = O.lb := ⟨_, rfl⟩
  rw [← hn] at f5
  rw [← hmd] at f6
  rw [← hlb] at f4
  simp only [← hlb] at HA
  simp only [← hn, ← hmd] at HB
  have HN := Lib.hid hn
  have HMM := Lib.hid hmd
  have HLB := Lib.hid hlb
  clear hn hmd hlb
  go_wp2_with fail
  refine (HPK.out _).mono ?_
  rintro _ w' ⟨rfl, rfl⟩
  go_wp2_with fail
  refine (HPK.out _).mono ?_
  rintro _ w' ⟨rfl, rfl⟩
  go_wp2_with fail
  refine HA.out.mono ?_
  rintro _ w2 ⟨rfl, O', hT⟩
  have hD1 := HD1.out
  have HT := Lib.hid hT
  have hx2 := (hT.kept.block xb (heap_lt hD1.both.box) hD1.both.boxOff).trans hD1.both.box
  rw [← HN.out, ← HMM.out, ← HLB.out] at hx2
  obtain ⟨k0, k1, k2⟩ := xcells hx2
  have hl2 := hD1.both.lies.same (hT.kept.block g hD1.both.lies.lt hD1.both.gOff)
  have HL2 := Lib.hid hl2
  have HX2 := Lib.hid hx2
  have HD2 := Lib.hid hD1
  clear hT hl2 hD1 hx2
  go_wp2_with fail
  refine (HB.out _ _ _ HL2.out).mono ?_
  rintro _ w3 ⟨g', cap', rfl, hL⟩
  have hx3 := (hL.2.2.block xb (heap_lt HX2.out) (fun x => x)).trans HX2.out
  obtain ⟨j0, j1, j2⟩ := xcells hx3
  obtain ⟨j3, j4⟩ := xfrozen hx3
  have HLF := Lib.hid hL
  have hlt3 : xb < w3.heap.size := heap_lt hx3
  clear hL hx3
  go_wp2
  go_ret
  exact ⟨rfl, O', g', cap', HD2.out.fin HT.out HMD.out HLF.out _⟩
set_option maxRecDepth 100000 in
set_option maxHeartbeats 4000000 in
theorem do_7 {w : World} {xb : Nat} {O : Ord} {g cap : Nat} {kd a b : Int} {md : Bool} (h : Both w xb O g cap) (hk : I64 kd) (ha : I64 a) (hb : I64 b) (hkd : pickN kd 8 = 7) :
    Calls Try.prog 31 #[.pointer (some ⟨xb, 0, none⟩), opv kd a b md] w fun e w' => e = .returned (.bool true) ∧ ∃ O' g' cap', Did w w' xb O O' g g' cap' := by
  obtain ⟨hm0, hm1⟩ := made_bounds h.inv
  have hst := fun (W : World) => stamps_of kd a b md O.P.length ha hb hm0 (by omega) W
  have hpk : ∀ (W : World), Calls Try.prog 15 #[.int .i64 kd, .int .i64 8] W fun e w' => e = .returned (.int .i64 7) ∧ w' = W := fun W => by
    have := pick_of kd 8 hk (by omega) (by omega) W
    rw [hkd] at this
    exact this
  have hlt : xb < w.heap.size := heap_lt h.box
  have hBx : ¬ w.heap.size = xb := by omega
  have HST := Lib.hid hst
  have HPK := Lib.hid hpk
  have HD := Lib.hid (DoAt.start (kd := kd) (a := a) (b := b) (md := md) h)
  clear hst hpk h hk ha hb hkd hm0 hm1 hlt
  go_enter Try.func31, Try.ntmps31
  go_wp2
  generalize w.alloc (opobj kd a b md) = W0 at *
  obtain ⟨d0, d1, d2, d3⟩ := HD.out.cells
  obtain ⟨c0, c1, c2, _, _⟩ := HD.out.both.cells
  go_region_held3 (fun w' => w'.cell? ⟨w.heap.size, 0, none⟩ = some (.int .i64 kd) ∧ w'.cell? ⟨w.heap.size, 1, none⟩ = some (.int .i64 a) ∧ w'.cell? ⟨w.heap.size, 2, none⟩ = some (.int .i64 b) ∧ w'.cell? ⟨w.heap.size, 3, none⟩ = some (.bool md) ∧ w'.cell? ⟨xb, 2, none⟩ = some (.int .i64 O.P.length))
    (first | exact ⟨d0, d1, d2, d3, c2⟩ | exact ⟨f0, f1, f2, f3, f6⟩ | go_keep)
    (first | (go_at_call 45; refine (HST.out _).mono ?_; rintro _ w1 ⟨⟨x, y, rfl⟩, hK1⟩; have hD1 := HD.out.on (keptDrew hK1); obtain ⟨f0, f1, f2, f3⟩ := hD1.cells; obtain ⟨f4, f5, f6, _, _⟩ := hD1.both.cells; have HD1 := Lib.hid hD1; clear hK1 hD1))
  rename_i hHeld
  clear hHeld d0 d1 d2 d3 c0 c1 c2
  obtain ⟨z, hz⟩ : ∃ z, O.ids[O.ids.length - 1]? = some z := by
    have := (List.getElem?_eq_some_iff.1 (first_id HD1.out.both.inv.wf)).1
    exact ⟨_, List.getElem?_eq_getElem (by omega)⟩
  have hn0 : 0 < O.ids.length := (List.getElem?_eq_some_iff.1 (first_id HD1.out.both.inv.wf)).1
  have hcz := HD1.out.both.lies.cell _ _ hz
  have hnc := HD1.out.both.lies.fit
  have hn5 := HD1.out.both.lies.len
  clear hz
  obtain ⟨s, er, ids', made', hmade, hA, hB⟩ := insert_both HD1.out.both.inv HD1.out.both.few z
  have hAm := fun (m : Nat) => hA (w1.drewN m) (HD1.out.both.inv.drewN m)
  dsimp only [lptr] at hAm
  have HA := Lib.hid hAm
  have HB := Lib.hid hB
  have HMD := Lib.hid hmade
  clear hA hB hAm hmade
  obtain ⟨n, hn⟩ : ∃ n, n = O.ids.length := ⟨_, rfl⟩
  obtain ⟨made, hmd⟩ : ∃ m, m = O.P.length := ⟨_, rfl⟩
  obtain ⟨lb, hlb⟩ : ∃ l, l = O.lb := ⟨_, rfl⟩
  rw [← hn] at f5
  rw [← hmd] at f6
  rw [← hlb] at f4
  simp only [← hlb] at HA
  simp only [← hn, ← hmd] at HB
  rw [← hn] at hcz hn0 hnc hn5
  have z1 : (0 : Int) ≤ (n : Int) - 1 := by omega
  have z2 : (n : Int) - 1 < (n : Int) := by omega
  have z3 : IntKind.i64.wrap ((n : Int) - 1) = (n : Int) - 1 := IntWalk.i64_in _ (by omega)
  have z4 : ((n : Int) - 1).toNat = n - 1 := by omega
  have z5 : (0 : Int) < (n : Int) := by omega
  have HN := Lib.hid hn
  have HMM := Lib.hid hmd
  have HLB := Lib.hid hlb
  clear hn hmd hlb
  go_wp2_with fail
  refine (HPK.out _).mono ?_
  rintro _ w' ⟨rfl, rfl⟩
  go_wp2_with fail
  refine (HPK.out _).mono ?_
  rintro _ w' ⟨rfl, rfl⟩
  go_wp2_with fail
  go_quiet (fail)
  go_wp2_with fail
  refine (HA.out _).mono ?_
  rintro _ w2 ⟨rfl, O', hT⟩
  have hD1 := HD1.out.onTurn hT
  have HT := Lib.hid hT
  have hx2 := (hT.kept.block xb (heap_lt hD1.both.box) hD1.both.boxOff).trans hD1.both.box
  rw [← HN.out, ← HMM.out, ← HLB.out] at hx2
  obtain ⟨k0, k1, k2⟩ := xcells hx2
  have hl2 := hD1.both.lies.same (hT.kept.block g hD1.both.lies.lt hD1.both.gOff)
  have HL2 := Lib.hid hl2
  have HX2 := Lib.hid hx2
  have HD2 := Lib.hid hD1
  clear hT hl2 hD1 hx2
  go_wp2_with fail
  refine (HB.out _ _ _ HL2.out).mono ?_
  rintro _ w3 ⟨g', cap', rfl, hL⟩
  have hx3 := (hL.2.2.block xb (heap_lt HX2.out) (fun x => x)).trans HX2.out
  obtain ⟨j0, j1, j2⟩ := xcells hx3
  obtain ⟨j3, j4⟩ := xfrozen hx3
  have HLF := Lib.hid hL
  have hlt3 : xb < w3.heap.size := heap_lt hx3
  clear hL hx3
  go_wp2
  go_ret
  exact ⟨rfl, O', g', cap', HD2.out.fin HT.out HMD.out HLF.out _⟩
/-- An operation with both: they agree. -/
theorem do_of {w : World} {xb : Nat} {O : Ord} {g cap : Nat} {kd a b : Int} {md : Bool} (h : Both w xb O g cap) (hk : I64 kd) (ha : I64 a) (hb : I64 b) :
    Calls Try.prog 31 #[.pointer (some ⟨xb, 0, none⟩), opv kd a b md] w fun e w' => e = .returned (.bool true) ∧ ∃ O' g' cap', Did w w' xb O O' g g' cap' := by
  have hlt : pickN kd 8 < 8 := pickN_lt (by omega)
  rcases (show pickN kd 8 = 0 ∨ pickN kd 8 = 1 ∨ pickN kd 8 = 2 ∨ pickN kd 8 = 3 ∨ pickN kd 8 = 4 ∨ pickN kd 8 = 5 ∨ pickN kd 8 = 6 ∨ pickN kd 8 = 7 by omega) with e | e | e | e | e | e | e | e
  · exact do_0 h hk ha hb e
  · exact do_1 h hk ha hb e
  · exact do_2 h hk ha hb e
  · exact do_3 h hk ha hb e
  · exact do_4 h hk ha hb e
  · exact do_5 h hk ha hb e
  · exact do_6 h hk ha hb e
  · exact do_7 h hk ha hb e
end Go.Proofs.Ytijceljhpbdnnaa
