/-
  DERIVED. A slice of events as an argument, opened; the example. No condition.
-/
import Derived.Test.YtbhiaeciiphelaaGreatDoorEvO
import Derived.Test.YtbhiaeciiphelaaGreatDoorSane
import Derived.Test.YtbhiaeciiphelaaGreatDoorLaid
import Derived.Lib.SmallJoins
import Derived.Deep.Slices
namespace Go.Proofs.YtbhiaeciiphelaaGreatDoor
open Go.ChangeShapes Go.WideShapes Go.ChangeAt Go.RowKit Go.Deep
theorem sane_of {w : World} {b : Nat} {o : Nat} (h : w.heap[1]? = some (.cells #[.iface 343 (.pointer (some ⟨b, o, none⟩))] 307 (0, 0))) :
    Calls Tryz.prog 9 #[] w fun e w' => e = .returned (.bool true) ∧ Keeps w w' :=
  (Ex.sane_calls h).mono (fun _ _ h => ⟨h.1, h.2.1, h.2.2.1, h.2.2.2.1, h.2.2.2.2.1, fun k hk _ => h.2.2.2.2.2 k hk⟩)
theorem trod_struct5 {H : Type} {enc : TypeId × Value → H} {P : Program} {w : World} {base : Nat} {spare : Nat → Bool} {held : Bool} {t : TypeId} {f0 f1 f2 f3 f4 : Field} {fuel : Nat} {cs : List Value} {x : DataW H × List MemPlace} (ht : P.underlying t = some (.struct #[f0, f1, f2, f3, f4])) (h : DataW.trod enc P w base spare held fuel t cs = some x) :
    ∃ y0 y1 y2 y3 y4 n, cs.length = P.cellsOf t ∧ DataW.trod enc P w base spare held n f0.type ((cs.drop f0.offset).take (P.cellsOf f0.type)) = some y0 ∧
      DataW.trod enc P w base spare held n f1.type ((cs.drop f1.offset).take (P.cellsOf f1.type)) = some y1 ∧ DataW.trod enc P w base spare held n f2.type ((cs.drop f2.offset).take (P.cellsOf f2.type)) = some y2 ∧
      DataW.trod enc P w base spare held n f3.type ((cs.drop f3.offset).take (P.cellsOf f3.type)) = some y3 ∧ DataW.trod enc P w base spare held n f4.type ((cs.drop f4.offset).take (P.cellsOf f4.type)) = some y4 := by
  obtain ⟨xs, n, _, rfl, hl, hlen, hf⟩ := DataW.trod_struct ht h
  match xs, hlen with
  | [y0, y1, y2, y3, y4], _ => exact ⟨y0, y1, y2, y3, y4, n, hl, by simpa using hf 0 f0 rfl, by simpa using hf 1 f1 rfl, by simpa using hf 2 f2 rfl, by simpa using hf 3 f3 rfl, by simpa using hf 4 f4 rfl⟩
theorem cells98 : Tryz.prog.cellsOf 98 = 8 := by kernel_rfl
theorem cells96 : Tryz.prog.cellsOf 96 = 4 := by kernel_rfl
theorem cells48 : Tryz.prog.cellsOf 48 = 1 := by kernel_rfl
theorem cells3 : Tryz.prog.cellsOf 3 = 1 := by kernel_rfl
theorem cells9 : Tryz.prog.cellsOf 9 = 1 := by kernel_rfl
theorem laidOut : laidOutB Tryz.prog = true := by kernel_rfl
instance : Inhabited Ev := ⟨⟨0, 0, 0, none, 0, 0, 0, 0, ⟨#[]⟩, none, 0, 0⟩⟩
section
variable {H : Type} {enc : TypeId × Value → H} {W : World}
set_option maxRecDepth 100000 in
theorem event_open {fuel : Nat} {cs : List Value} {x : DataW H × List MemPlace} (h : DataW.trod enc Tryz.prog W 0 (fun _ => true) true fuel 98 cs = some x) : ∃ e : Ev, cs = e.cells := by
  obtain ⟨y0, y1, y2, y3, y4, m, hl, hy0, hy1, hy2, hy3, hy4⟩ := trod_struct5 Tryz.underlying98 h
  rw [cells98] at hl
  simp only [cells3, cells48, cells96] at hy0 hy1 hy2 hy3 hy4
  match cs, hl with
  | [v0, v1, v2, v3, v4, v5, v6, v7], _ =>
    simp only [List.drop_succ_cons, List.drop_zero, List.take_succ_cons, List.take_zero] at hy0 hy1 hy2 hy3 hy4
    obtain ⟨k, e0, _, _⟩ := DataW.trod_int Tryz.underlying3 hy0
    obtain ⟨s, e1, _, _⟩ := DataW.trod_int Tryz.underlying3 hy1
    obtain ⟨ad, e2, _, _⟩ := DataW.trod_int Tryz.underlying3 hy2
    obtain ⟨pa, ln, cp, e3⟩ := Joins.slice_form Tryz.underlying48 hy3
    obtain ⟨z0, z1, z2, z3, m', _, _, hz0, hz1, hz2, hz3⟩ := Joins.trod_struct4 Tryz.underlying96 hy4
    simp only [cells3, cells9, cells48, List.drop_succ_cons, List.drop_zero, List.take_succ_cons, List.take_zero] at hz0 hz1 hz2 hz3
    obtain ⟨vk, e4, _, _⟩ := DataW.trod_int Tryz.underlying3 hz0
    obtain ⟨vn, e5, _, _⟩ := DataW.trod_int Tryz.underlying3 hz1
    obtain ⟨vs, e6, _⟩ := DataW.trod_string Tryz.underlying9 hz2
    obtain ⟨va, vl, vc, e7⟩ := Joins.slice_form Tryz.underlying48 hz3
    injection e0 with e0 _
    injection e1 with e1 _
    injection e2 with e2 _
    injection e3 with e3 _
    injection e4 with e4 _
    injection e5 with e5 _
    injection e6 with e6 _
    injection e7 with e7 _
    exact ⟨⟨k, s, ad, pa, ln, cp, vk, vn, vs, va, vl, vc⟩, by rw [e0, e1, e2, e3, e4, e5, e6, e7]; rfl⟩
set_option maxRecDepth 100000 in
theorem events_open {b0 : Nat} {v : Value} {d : DataW H} {p : List MemPlace} (hv : Value.okWide Tryz.prog W .any b0 22 v) (h : DataW.Trod enc Tryz.prog W 0 (fun _ => true) true 22 v d p) :
    ∃ a n c evs, v = .slice a n c ∧ EvsAt W a evs ∧ n = evs.length := by
  obtain ⟨ao, len, cap, rfl⟩ := okWide_slice Tryz.underlying22 hv
  obtain ⟨fuel, hf⟩ := h
  rcases open_slice Tryz.underlying22 hf with ⟨hc, _⟩ | ⟨a, len', cap', m, n, D, Pl, hc, _, hl, hm, hmm, _, hall⟩
  · simp only [Value.cells, List.cons.injEq, and_true] at hc
    injection hc with h1 h2 h3
    exact ⟨none, 0, 0, [], by rw [h1, h2, h3], ⟨fun i e he => by simp at he⟩, rfl⟩
  · simp only [Value.cells, List.cons.injEq, and_true] at hc
    injection hc with h1 h2 h3
    subst h1 h2 h3
    have hex : ∀ i, i < len → ∃ e : Ev, ∀ (j : Nat) (v : Value), e.cells[j]? = some v → W.cell? ((a.add (i * 8)).add j) = some v := by
      intro i hi
      obtain ⟨cs, h1, h2⟩ := hall i (by simp only [if_true] at hmm; omega)
      rw [cells98] at h1
      obtain ⟨_, hlen, hcell⟩ := World.cells?_some h1
      obtain ⟨e, he⟩ := event_open h2
      refine ⟨e, fun j v hj => ?_⟩
      rw [← he] at hj
      have hjl := (List.getElem?_eq_some_iff.1 hj).1
      rw [hcell j (by omega)]
      exact hj
    obtain ⟨f, hf⟩ := choose_lt (α := Ev) (p := fun i e => ∀ (j : Nat) (v : Value), e.cells[j]? = some v → W.cell? ((a.add (i * 8)).add j) = some v) hex
    refine ⟨some a, len, cap, (List.range len).map f, rfl, ⟨fun i e he => ?_⟩, by simp⟩
    rw [List.getElem?_map] at he
    cases hr : (List.range len)[i]? with
    | none => rw [hr] at he; cases he
    | some i' =>
      rw [hr] at he
      obtain ⟨hil, hi2⟩ := List.getElem?_eq_some_iff.1 hr
      simp at hil hi2
      subst hi2
      injection he with he
      subst he
      have h00 := hf 0 (by omega) 0 _ rfl
      have e00 : (a.add (0 * 8)).add 0 = a := by simp [Addr.add]
      rw [e00] at h00
      have hsp := World.cell?_spot h00
      have hbl := World.block_lt_of_cell? W _ h00
      obtain ⟨b, o, sp⟩ := a
      simp only at hsp hbl
      subst hsp
      refine ⟨b, o, rfl, hbl, fun j v hj => ?_⟩
      have := hf i hil j v hj
      have key : ((⟨b, o, none⟩ : Addr).add (i * 8)).add j = ⟨b, o + i * 8 + j, none⟩ := by
        unfold Addr.add
        split <;> split <;> simp_all
      rw [key] at this
      exact this
end
end Go.Proofs.YtbhiaeciiphelaaGreatDoor
