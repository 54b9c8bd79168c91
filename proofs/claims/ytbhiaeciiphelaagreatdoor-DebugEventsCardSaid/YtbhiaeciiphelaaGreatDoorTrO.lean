/-
  DERIVED. A slice of events as an argument, opened with all its values. No condition.
-/
import Derived.Test.YtbhiaeciiphelaaGreatDoorTrP
import Derived.Test.YtbhiaeciiphelaaGreatDoorLaid
import Derived.Lib.SmallJoins
import Derived.Deep.Slices
import Derived.SizedLaws
namespace Go.Proofs.YtbhiaeciiphelaaGreatDoor
open Go.ChangeShapes Go.WideShapes Go.ChangeAt Go.RowKit Go.Deep
theorem cells96 : Tryz.prog.cellsOf 96 = 4 := by kernel_rfl
theorem laidOut : laidOutB Tryz.prog = true := by kernel_rfl
theorem bytes96 : Tryz.prog.bytesOf 96 = 56 := by kernel_rfl
section
variable {H : Type} {enc : TypeId × Value → H} {W : World}
def Fits (t : TypeId) (d : DataW H) : Prop := ∀ n ∈ d.weights Tryz.prog t, n ≤ reachBytes
theorem weights_mem_all {e : TypeId} {n : Nat} : ∀ {l : List (DataW H)} {d : DataW H}, d ∈ l → n ∈ d.weights Tryz.prog e → n ∈ DataW.weightsAll Tryz.prog e l
  | x :: l, d, hd, hn => by
    rw [DataW.weightsAll, List.mem_append]
    rcases List.mem_cons.1 hd with rfl | hd
    · exact .inl hn
    · exact .inr (weights_mem_all hd hn)
theorem Fits.field {t t' : TypeId} {fs : Array Field} {parts : List (DataW H)} {d : DataW H} {j : Nat} (h : Fits t (.agg parts)) (ht : Tryz.prog.underlying t = some (.struct fs)) (hj : (fs.toList.map (·.type))[j]? = some t') (hd : parts[j]? = some d) : Fits t' d := fun n hn =>
  h n (by rw [DataW.weights, ht]; exact DataW.weights_mem_each hj hd n hn)
theorem Fits.elem {t e : TypeId} {elems spare : List (DataW H)} {d : DataW H} (h : Fits t (.slice elems spare)) (ht : Tryz.prog.underlying t = some (.slice e)) (hd : d ∈ elems) : Fits e d := fun n hn =>
  h n (by rw [DataW.weights, ht]; exact List.mem_cons_of_mem _ (List.mem_append_left _ (weights_mem_all hd hn)))
theorem Fits.len {t e : TypeId} {elems spare : List (DataW H)} (h : Fits t (.slice elems spare)) (ht : Tryz.prog.underlying t = some (.slice e)) : elems.length * Tryz.prog.bytesOf e ≤ reachBytes := by
  have h1 := h ((elems.length + spare.length) * Tryz.prog.bytesOf e) (by rw [DataW.weights, ht]; exact List.mem_cons_self)
  exact Nat.le_trans (Nat.mul_le_mul_right _ (Nat.le_add_right _ _)) h1
theorem add_two (a : Addr) (hs : a.spot = none) (i j : Nat) : (a.add i).add j = ⟨a.block, a.off + i + j, none⟩ := by
  obtain ⟨b, o, sp⟩ := a
  simp only at hs
  subst hs
  unfold Addr.add
  split <;> split <;> simp_all
theorem RunsAt.le {A : Nat → Prop} {d d' : Nat} {v : Value} {ts : List RV} (h : RunsAt W A d v ts) (hd : d ≤ d') : RunsAt W A d' v ts := by
  obtain ⟨p, c, rfl, hl, h1⟩ := h
  refine ⟨p, c, rfl, hl, fun j t hj => ?_⟩
  obtain ⟨g, o, cs, rfl, hA, hc, ht⟩ := h1 j t hj
  exact ⟨g, o, cs, rfl, hA, hc, ht.le hd⟩
instance : Inhabited RV := ⟨.mk 0 0 ⟨#[]⟩ []⟩
theorem runs_open {n : Nat} (ih : ∀ m, m < n → ∀ (cs : List Value) (x : DataW H × List MemPlace), DataW.trod enc Tryz.prog W 0 (fun _ => true) true m 96 cs = some x → Fits 96 x.1 → ∃ t, RunAt W (fun _ => False) m t cs)
    {v : Value} {x : DataW H × List MemPlace} (h : DataW.trod enc Tryz.prog W 0 (fun _ => true) true n 48 [v] = some x) (hw : Fits 48 x.1) : ∃ ts, RunsAt W (fun _ => False) n v ts := by
  rcases DataW.trod_slice Tryz.underlying48 h with ⟨hc, _⟩ | ⟨a, len, cap, elems, rest, m, rfl, hc, rfl, _, hl, hm, hlen, hall, _⟩
  · simp only [List.cons.injEq, and_true] at hc
    exact ⟨[], by rw [hc]; exact ⟨none, 0, rfl, by simp, fun j t hj => by simp at hj⟩⟩
  · simp only [List.cons.injEq, and_true] at hc
    subst hc
    have hex : ∀ i, i < len → ∃ t : RV, ∃ cs, (∀ (j : Nat) (u : Value), cs[j]? = some u → W.cell? ((a.add (i * 4)).add j) = some u) ∧ RunAt W (fun _ => False) m t cs := by
      intro i hi
      have h1 := hall i hi
      rw [cells96] at h1
      obtain ⟨y, hy⟩ : ∃ y, elems[i]? = some y := ⟨_, List.getElem?_eq_getElem (by omega)⟩
      rw [hy] at h1
      obtain ⟨cs, h2, h3⟩ := Option.bind_eq_some_iff.1 h1
      obtain ⟨_, hcl, hcell⟩ := World.cells?_some h2
      have hyf : Fits 96 y.1 := hw.elem Tryz.underlying48 (List.mem_map.2 ⟨y, List.mem_of_getElem? hy, rfl⟩)
      obtain ⟨t, ht⟩ := ih m (by omega) cs y h3 hyf
      refine ⟨t, cs, fun j u hj => ?_, ht⟩
      rw [hcell j (by have := (List.getElem?_eq_some_iff.1 hj).1; omega)]
      exact hj
    obtain ⟨f, hf⟩ := choose_lt (α := RV) (p := fun i t => ∃ cs, (∀ (j : Nat) (u : Value), cs[j]? = some u → W.cell? ((a.add (i * 4)).add j) = some u) ∧ RunAt W (fun _ => False) m t cs) hex
    refine ⟨(List.range len).map f, some a, cap, by simp, ?_, fun j t hj => ?_⟩
    · have h1 := hw.len Tryz.underlying48
      rw [bytes96, List.length_map, hlen] at h1
      simp only [List.length_map, List.length_range]
      unfold reachBytes at h1
      omega
    · rw [List.getElem?_map] at hj
      cases hr : (List.range len)[j]? with
      | none => rw [hr] at hj; cases hj
      | some j' =>
        rw [hr] at hj
        obtain ⟨hjl, hj2⟩ := List.getElem?_eq_some_iff.1 hr
        simp at hjl hj2
        subst hj2
        injection hj with hj
        subst hj
        obtain ⟨cs0, h00, ht0⟩ := hf 0 (by omega)
        obtain ⟨cs, h1, ht⟩ := hf j hjl
        have hsp : a.spot = none := by
          have h4 := ht0.len
          have := World.cell?_spot (h00 0 (cs0[0]'(by omega)) (List.getElem?_eq_getElem _))
          simpa [Addr.add] using this
        refine ⟨a.block, a.off, cs, by obtain ⟨b, o, sp⟩ := a; simp only at hsp; subst hsp; rfl, fun h => h, fun i u hi => ?_, ht.le (Nat.le_succ _)⟩
        rw [← add_two a hsp]
        exact h1 i u hi
set_option maxRecDepth 100000 in
theorem run_open : ∀ (fuel : Nat) (cs : List Value) (x : DataW H × List MemPlace), DataW.trod enc Tryz.prog W 0 (fun _ => true) true fuel 96 cs = some x → Fits 96 x.1 → ∃ t, RunAt W (fun _ => False) fuel t cs := by
  intro fuel
  induction fuel using Nat.strongRecOn with
  | _ fuel ih =>
    intro cs x h hw
    obtain ⟨xs, n, rfl, rfl, hl, hlen, hf⟩ := DataW.trod_struct Tryz.underlying96 h
    rw [cells96] at hl
    match xs, hlen, cs, hl with
    | [y0, y1, y2, y3], _, [v0, v1, v2, v3], _ =>
      have f0 := hf 0 _ rfl
      have f1 := hf 1 _ rfl
      have f2 := hf 2 _ rfl
      have f3 := hf 3 _ rfl
      simp only [List.getElem?_cons_zero, List.getElem?_cons_succ] at f0 f1 f2 f3
      obtain ⟨k, e0, _, _⟩ := DataW.trod_int Tryz.underlying3 f0
      obtain ⟨m, e1, _, _⟩ := DataW.trod_int Tryz.underlying3 f1
      obtain ⟨s, e2, _⟩ := DataW.trod_string Tryz.underlying9 f2
      injection e0 with e0 _
      injection e1 with e1 _
      injection e2 with e2 _
      obtain ⟨ts, p, c, rfl, hl2, h1⟩ := runs_open (n := n) (fun m hm => ih m (by omega)) f3 (hw.field (j := 3) Tryz.underlying96 rfl rfl)
      exact ⟨.mk k m s ts, p, c, by rw [e0, e1, e2], hl2, h1⟩
instance : Inhabited ET := ⟨⟨⟨0, 0, 0, none, 0, 0, 0, 0, ⟨#[]⟩, none, 0, 0⟩, [], .mk 0 0 ⟨#[]⟩ []⟩⟩
end
end Go.Proofs.YtbhiaeciiphelaaGreatDoor
