/-
  played: at most 300 operations with both; they agree. Conditions: each theorem's own hypotheses on memory.
-/
import Derived.Test.YtijceljhpbdnnaaDo
namespace Go.Proofs.Ytijceljhpbdnnaa
open Go.RowKit

/-- An operation at a place of a slice of operations. -/
def OpAt (w : World) (a : Addr) (j : Nat) : Prop := ∃ (kd x y : Int) (md : Bool), I64 kd ∧ I64 x ∧ I64 y ∧ w.cell? (a.add (j * 4)) = some (.int .i64 kd) ∧ w.cell? ⟨(a.add (j * 4)).block, (a.add (j * 4)).off + 1, none⟩ = some (.int .i64 x) ∧
  w.cell? ⟨(a.add (j * 4)).block, (a.add (j * 4)).off + 2, none⟩ = some (.int .i64 y) ∧ w.cell? ⟨(a.add (j * 4)).block, (a.add (j * 4)).off + 3, none⟩ = some (.bool md)
/-- A slice of operations lies in w. -/
def OpsAt (w : World) (v : Value) (n : Nat) : Prop :=
  (v = .slice none 0 0 ∧ n = 0) ∨ ∃ (a : Addr) (cap : Nat), v = .slice (some a) n cap ∧ n ≤ cap ∧ cap ≤ maxLen ∧ ∀ j, j < n → OpAt w a j
theorem OpAt.lt {w : World} {a : Addr} {j : Nat} (h : OpAt w a j) : a.block < w.heap.size := by
  have e : (a.add (j * 4)).block = a.block := by unfold Addr.add; split <;> rfl
  obtain ⟨kd, x, y, md, h1, h2, h3, c0, _⟩ := h
  rcases Nat.lt_or_ge a.block w.heap.size with hlt | hge
  · exact hlt
  · simp only [World.cell?] at c0
    rw [e, Array.getElem?_eq_none hge] at c0
    cases c0
theorem OpAt.on {w w' : World} {a : Addr} {j : Nat} (h : OpAt w a j) (ha : a.block < w.heap.size) (hK : Kept (fun _ => False) w w') : OpAt w' a j := by
  have e : (a.add (j * 4)).block = a.block := by unfold Addr.add; split <;> rfl
  have hb : ∀ A : Addr, A.block = a.block → w'.cell? A = w.cell? A := fun A hA => World.cell?_of_block (by rw [hA]; exact hK.block _ ha (fun x => x))
  obtain ⟨kd, x, y, md, h1, h2, h3, c0, c1, c2, c3⟩ := h
  exact ⟨kd, x, y, md, h1, h2, h3, (hb _ e).trans c0, (hb ⟨(a.add (j * 4)).block, _, none⟩ e).trans c1, (hb ⟨(a.add (j * 4)).block, _, none⟩ e).trans c2, (hb ⟨(a.add (j * 4)).block, _, none⟩ e).trans c3⟩
/-- Both lie in memory that is newer than w. -/
structure Newer (w wr : World) (xb : Nat) (O : Ord) (g cap : Nat) : Prop where
  both : Both wr xb O g cap
  kept : Kept (fun _ => False) w wr
  own : ∀ k, O.own k → w.heap.size ≤ k
  box : w.heap.size ≤ xb
  row : w.heap.size ≤ g
theorem Newer.did {w wr w' : World} {xb : Nat} {O O' : Ord} {g cap g' cap' : Nat} (h : Newer w wr xb O g cap) (hd : Did wr w' xb O O' g g' cap') : Newer w w' xb O' g' cap' := by
  have hsz := h.kept.size
  refine ⟨hd.both, h.kept.trans hd.kept ?_, ?_, h.box, ?_⟩
  · rintro k hk (ho | rfl)
    · have := h.own k ho; omega
    · have := h.box; omega
  · intro k hk
    rcases Nat.lt_or_ge k wr.heap.size with hlt | hge
    · exact h.own k (hd.own k hlt hk)
    · omega
  · rcases hd.old with rfl | ho
    · exact h.row
    · omega
theorem Newer.on {w wr w' : World} {xb : Nat} {O : Ord} {g cap : Nat} (h : Newer w wr xb O g cap) (hK : Kept (fun _ => False) wr w') : Newer w w' xb O g cap :=
  ⟨h.both.kept hK, h.kept.trans hK (fun _ _ x => x), h.own, h.box, h.row⟩
theorem newer_start {w w1 w2 : World} {g : Nat} (h1 : Inv w1 (Ord.fresh w.heap.size)) (hK1 : Kept (fun _ => False) w w1) (h2 : Lies w2 g 1 [0]) (hg : w1.heap.size ≤ g) (hK2 : Kept (fun _ => False) w1 w2) :
    Newer w (w2.alloc (xobj w.heap.size g 1 1 1)) w2.heap.size (Ord.fresh w.heap.size) g 1 := by
  have s1 := hK1.size
  have s2 := hK2.size
  have hI : Inv w2 (Ord.fresh w.heap.size) := h1.frame hK2 (fun _ _ x => x)
  have hK3 : Kept (fun _ => False) w2 (w2.alloc (xobj w.heap.size g 1 1 1)) := (Kept.refl _ _).alloc _
  refine ⟨⟨hI.frame hK3 (fun _ _ x => x), ⟨0, 0, 0, few_fresh _⟩, heap_alloc_at _ _, lies_alloc h2 _, fun k => ?_, fun k => ?_, ?_⟩, (hK1.trans hK2 (fun _ _ x => x)).trans hK3 (fun _ _ x => x), ?_, by omega, by omega⟩
  · have := hI.own_lt k; omega
  · have := h1.own_lt k; omega
  · have := h2.lt; omega
  · rintro k (rfl | hk | hk)
    · exact Nat.le_refl _
    · simp [Ord.fresh, Value.ownBlock] at hk; omega
    · simp [Ord.fresh, Grp.foot] at hk; omega
theorem OpsAt.form {w : World} {v : Value} {n : Nat} (h : OpsAt w v n) : ∃ (ao : Option Addr) (cap : Nat), v = .slice ao n cap ∧ n ≤ cap ∧ cap ≤ maxLen ∧ ∀ j, j < n → ∃ a, ao = some a ∧ a.block < w.heap.size ∧ OpAt w a j := by
  rcases h with ⟨rfl, rfl⟩ | ⟨a, cap, rfl, hn, hm, hops⟩
  · exact ⟨none, 0, rfl, Nat.le_refl _, Nat.zero_le _, fun j hj => absurd hj (by omega)⟩
  · exact ⟨some a, cap, rfl, hn, hm, fun j hj => ⟨a, rfl, (hops j hj).lt, hops j hj⟩⟩
set_option maxRecDepth 100000 in
set_option maxHeartbeats 2000000 in
theorem played_of {w : World} {v : Value} {n : Nat} (h : OpsAt w v n) : Calls Try.prog 13 #[v] w fun e w' => ∃ xb O g cap, e = .returned (.tuple #[.pointer (some ⟨xb, 0, none⟩), .bool true]) ∧ Newer w w' xb O g cap ∧ O.P.length ≤ 301 := by
  have hdo := fun (W : World) (xb : Nat) (O : Ord) (g cap : Nat) (kd a b : Int) (md : Bool) (hB : Both W xb O g cap) (hk : I64 kd) (ha : I64 a) (hb : I64 b) => do_of (md := md) hB hk ha hb
  have HDO := Lib.hid hdo
  clear hdo
  obtain ⟨ao, cap0, rfl, hn, hm, hops⟩ := h.form
  have HOPS := Lib.hid hops
  unfold maxLen at hm
  clear hops h
  go_enter Try.func13, Try.ntmps13
  go_wp2_with fail
  refine (new_of _).mono ?_
  rintro _ w1 ⟨rfl, h1, hK1⟩
  have H1 := Lib.hid h1
  have HK1 := Lib.hid hK1
  clear h1 hK1
  go_wp2_with fail
  refine (ref_new _).mono ?_
  rintro _ w2 ⟨g, rfl, h2, hg, hK2⟩
  have hN := newer_start H1.out HK1.out h2 hg hK2
  have HN := Lib.hid hN
  clear h2 hg hK2 hN
  go_wp2
  generalize w2.heap.size = xb at *
  generalize w2.alloc (Obj.cells #[Value.pointer (some { block := w.heap.size, off := 0 }), Value.slice (some { block := g, off := 0 }) 1 1, Value.int IntKind.i64 1] 32) = W0 at *
  go_loopw [5, 6] (fun c _ wr => ∃ (j : Nat) (O : Ord) (g cap : Nat), j ≤ n ∧ j ≤ 300 ∧ c = .int .i64 j ∧ Newer w wr xb O g cap ∧ O.P.length ≤ j + 1) (fun c _ _ => 300 - (intOf c).toNat)
  case atStart => exact ⟨0, _, _, _, Nat.zero_le _, Nat.zero_le _, rfl, HN.out, Nat.le_refl _⟩
  case round =>
    obtain ⟨j, O, g', cap', hj, hj3, rfl, hN, hP⟩ := hrel
    have HNR := Lib.hid hN
    clear hN
    by_cases hjn : j < n
    · by_cases hj30 : j < 300
      · obtain ⟨a, rfl, ha, hop⟩ := HOPS.out j hjn
        obtain ⟨kd, x, y, md, h1, h2, h3, c0, c1, c2, c3⟩ := hop.on ha HNR.out.kept
        have D2 : decide ((j : Int) < 300) = true := decide_eq_true (by omega)
        have HJ3 := Lib.hid hj30
        have I1 := Lib.hid h1
        have I2 := Lib.hid h2
        have I3 := Lib.hid h3
        have HP := Lib.hid hP
        have HM := Lib.hid hm
        have HNC := Lib.hid hn
        clear hop hj hj3 hj30 h1 h2 h3 hP hm hn
        go_wp2_with fail
        refine (HDO.out _ _ _ _ _ _ _ _ _ HNR.out.both I1.out I2.out I3.out).mono ?_
        rintro _ w4 ⟨rfl, O', g2, cap2, hD⟩
        have HD := Lib.hid hD
        clear hD c0 c1 c2 c3
        have e1 : IntKind.i64.wrap ((j : Int) + 1) = (j : Int) + 1 := IntWalk.i64_in _ (by have := HJ3.out; omega)
        go_wp2
        go_roundw
        case rel => exact ⟨j + 1, O', g2, cap2, by omega, by have := HJ3.out; omega, by go_num, HNR.out.did HD.out, by have := HD.out.made; have := HP.out; omega⟩
        case measure => have := HJ3.out; simp [intOf]; omega
      · have D2 : decide ((j : Int) < 300) = false := decide_eq_false (by omega)
        have HP := Lib.hid (show O.P.length ≤ 301 by omega)
        clear hj hj3 hj30 hP hm hn
        go_wp2
        go_ret2
        exact ⟨xb, O, g', cap', rfl, HNR.out, HP.out⟩
    · have HP := Lib.hid (show O.P.length ≤ 301 by omega)
      clear hj hj3 hP hm hn
      go_wp2
      go_ret2
      exact ⟨xb, O, g', cap', rfl, HNR.out, HP.out⟩
end Go.Proofs.Ytijceljhpbdnnaa
