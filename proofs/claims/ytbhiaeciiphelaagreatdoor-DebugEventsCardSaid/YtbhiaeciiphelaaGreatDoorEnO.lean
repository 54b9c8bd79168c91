/-
  DERIVED. A state as an argument, opened. No condition.
-/
import Derived.Test.YtbhiaeciiphelaaGreatDoorTrO
import Derived.Test.YtbhiaeciiphelaaGreatDoorEnA
namespace Go.Proofs.YtbhiaeciiphelaaGreatDoor
open Go.ChangeShapes Go.WideShapes Go.ChangeAt Go.RowKit Go.Deep
theorem cells114 : Tryz.prog.cellsOf 114 = 13 := by kernel_rfl
theorem cells51 : Tryz.prog.cellsOf 51 = 5 := by kernel_rfl
section
variable {H : Type} {enc : TypeId × Value → H} {W : World}
instance : Inhabited NP := ⟨.mk false ⟨0, 0, none, 0, 0, 0, 0, ⟨#[]⟩, none, 0, 0, 0, 0, ⟨#[]⟩, none, 0, 0, [], .mk 0 0 ⟨#[]⟩ [], .mk 0 0 ⟨#[]⟩ []⟩ []⟩
def NodeCell (W : World) (e d : Nat) (cs : List Value) (x : NP) : Prop := match x with
  | .mk mod r kids => ∃ vk, cs = r.cells mod vk ∧ RunsAt W (fun _ => False) e (.slice r.pa r.na r.ca) r.args ∧ RunAt W (fun _ => False) e r.seen [.int .i64 r.sk, .int .i64 r.sm, .string r.ss, .slice r.sp r.sn r.sc] ∧ RunAt W (fun _ => False) e r.wrote [.int .i64 r.wk, .int .i64 r.wm, .string r.ws, .slice r.wp r.wn r.wc] ∧ NPAt W (fun _ => False) e d kids vk
theorem NPAt.le_ed {e e' : Nat} (he : e ≤ e') : ∀ {d d' : Nat} {l : List NP} {v : Value}, d ≤ d' → NPAt W (fun _ => False) e d l v → NPAt W (fun _ => False) e' d' l v
  | 0, 0, _, _, _, h => h
  | 0, d' + 1, l, v, _, h => by
    obtain ⟨rfl, p, c, rfl⟩ := h
    exact ⟨p, c, rfl, fun j _ _ _ hj => by simp at hj⟩
  | d + 1, 0, _, _, hd, _ => absurd hd (by omega)
  | d + 1, d' + 1, l, v, hd, h => by
    obtain ⟨p, c, rfl, h1⟩ := h
    refine ⟨p, c, rfl, fun j mod r kids hj => ?_⟩
    obtain ⟨g, o, vk, h2, h3, h4, h5, h6, h7, h8⟩ := h1 j mod r kids hj
    exact ⟨g, o, vk, h2, h3, h4, h5.le he, h6.le he, h7.le he, NPAt.le_ed he (by omega) h8⟩
set_option maxRecDepth 100000 in
theorem nodes_open : ∀ (n : Nat) (v : Value) (x : DataW H × List MemPlace), DataW.trod enc Tryz.prog W 0 (fun _ => true) true n 40 [v] = some x → Fits 40 x.1 → ∃ l, NPAt W (fun _ => False) n n l v := by
  intro n
  induction n using Nat.strongRecOn with
  | _ n ih =>
    intro v x h hw
    rcases DataW.trod_slice Tryz.underlying40 h with ⟨hc, _⟩ | ⟨a, len, cap, elems, rest, m, rfl, hc, rfl, _, hl, hm, hlen, hall, _⟩
    · simp only [List.cons.injEq, and_true] at hc
      refine ⟨[], ?_⟩
      rw [hc]
      cases n with
      | zero => exact ⟨rfl, none, 0, rfl⟩
      | succ n => exact ⟨none, 0, rfl, fun j _ _ _ hj => by simp at hj⟩
    · simp only [List.cons.injEq, and_true] at hc
      subst hc
      have hex : ∀ i, i < len → ∃ y : NP, ∃ cs, (∀ (j : Nat) (u : Value), cs[j]? = some u → W.cell? ((a.add (i * 13)).add j) = some u) ∧ NodeCell W m m cs y := by
        intro i hi
        have h1 := hall i hi
        rw [cells114] at h1
        obtain ⟨y, hy⟩ : ∃ y, elems[i]? = some y := ⟨_, List.getElem?_eq_getElem (by omega)⟩
        rw [hy] at h1
        obtain ⟨cs, h2, h3⟩ := Option.bind_eq_some_iff.1 h1
        obtain ⟨_, hcl, hcell⟩ := World.cells?_some h2
        have hyf : Fits 114 y.1 := hw.elem Tryz.underlying40 (List.mem_map.2 ⟨y, List.mem_of_getElem? hy, rfl⟩)
        obtain ⟨xs, k, rfl, hxe, hcl2, hxl, hf⟩ := DataW.trod_struct Tryz.underlying114 h3
        obtain ⟨y1, y2⟩ := y
        injection hxe with hxe1 hxe2
        simp only at hyf
        rw [hxe1] at hyf
        clear hxe1 hxe2
        rw [cells114] at hcl2
        match xs, hxl, cs, hcl2 with
        | [x0, x1, x2, x3, x4, x5, x6], _, [c0, c1, c2, c3, c4, c5, c6, c7, c8, c9, c10, c11, c12], _ =>
          have f0 : _ = some x0 := hf 0 _ rfl
          have f1 : _ = some x1 := hf 1 _ rfl
          have f2 : _ = some x2 := hf 2 _ rfl
          have f3 : _ = some x3 := hf 3 _ rfl
          have f4 : _ = some x4 := hf 4 _ rfl
          have f5 : _ = some x5 := hf 5 _ rfl
          have f6 : _ = some x6 := hf 6 _ rfl
          obtain ⟨b, e0, _⟩ := DataW.trod_bool Tryz.underlying4 f0
          obtain ⟨si, e1, _, _⟩ := DataW.trod_int Tryz.underlying3 f1
          obtain ⟨ad, e2, _, _⟩ := DataW.trod_int Tryz.underlying3 f2
          injection e0 with e0 _
          injection e1 with e1 _
          injection e2 with e2 _
          obtain ⟨ts, hts⟩ := runs_open (n := k) (fun m _ => run_open m) f3 (hyf.field (j := 3) Tryz.underlying114 rfl rfl)
          obtain ⟨se, hse⟩ := run_open k _ _ f4 (hyf.field (j := 4) Tryz.underlying114 rfl rfl)
          obtain ⟨wo, hwo⟩ := run_open k _ _ f5 (hyf.field (j := 5) Tryz.underlying114 rfl rfl)
          obtain ⟨kids, hkids⟩ := ih k (by omega) _ _ f6 (hyf.field (j := 6) Tryz.underlying114 rfl rfl)
          obtain ⟨sk, sm, ss, sp, sn, sc, he4⟩ := hse.four
          obtain ⟨wk, wm, ws, wp, wn, wc, he5⟩ := hwo.four
          injection he4 with g0 he4
          injection he4 with g1 he4
          injection he4 with g2 he4
          injection he4 with g3 he4
          injection he5 with i0 he5
          injection he5 with i1 he5
          injection he5 with i2 he5
          injection he5 with i3 he5
          replace hse : RunAt W (fun _ => False) k se [c4, c5, c6, c7] := hse
          replace hwo : RunAt W (fun _ => False) k wo [c8, c9, c10, c11] := hwo
          rw [g0, g1, g2, g3] at hse
          rw [i0, i1, i2, i3] at hwo
          have hts2 := hts
          obtain ⟨pa, ca, rfl, _⟩ := hts2
          refine ⟨.mk b ⟨si, ad, pa, ts.length, ca, sk, sm, ss, sp, sn, sc, wk, wm, ws, wp, wn, wc, ts, se, wo⟩ kids, [c0, c1, c2, .slice pa ts.length ca, c4, c5, c6, c7, c8, c9, c10, c11, c12], fun j u hj => ?_, c12, by rw [e0, e1, e2, g0, g1, g2, g3, i0, i1, i2, i3]; rfl, hts.le (Nat.le_succ _), hse.le (Nat.le_succ _), hwo.le (Nat.le_succ _), hkids.le_ed (Nat.le_succ _) (Nat.le_succ _)⟩
          rw [hcell j (by have := (List.getElem?_eq_some_iff.1 hj).1; simpa using this)]
          exact hj
      obtain ⟨f, hf⟩ := choose_lt (α := NP) (p := fun i y => ∃ cs, (∀ (j : Nat) (u : Value), cs[j]? = some u → W.cell? ((a.add (i * 13)).add j) = some u) ∧ NodeCell W m m cs y) hex
      refine ⟨(List.range len).map f, some a, cap, by simp, fun j mod r kids hj => ?_⟩
      rw [List.getElem?_map] at hj
      cases hr : (List.range len)[j]? with
      | none => rw [hr] at hj; cases hj
      | some j' =>
        rw [hr] at hj
        obtain ⟨hjl, hj2⟩ := List.getElem?_eq_some_iff.1 hr
        simp at hjl hj2
        subst hj2
        injection hj with hj
        obtain ⟨cs, h1, h2⟩ := hf j hjl
        rw [hj] at h2
        obtain ⟨vk, rfl, q1, q2, q3, q4⟩ := h2
        have hsp : a.spot = none := by
          obtain ⟨cs0, h00, hn0⟩ := hf 0 (by omega)
          cases hfe : f 0 with
          | mk m0 r0 k0 =>
            rw [hfe] at hn0
            obtain ⟨vk0, rfl, _⟩ := hn0
            have := World.cell?_spot (h00 0 _ rfl)
            simpa [Addr.add] using this
        refine ⟨a.block, a.off, vk, by obtain ⟨b, o, sp⟩ := a; simp only at hsp; subst hsp; rfl, fun h => h, fun i u hi => ?_, q1.le (Nat.le_succ _), q2.le (Nat.le_succ _), q3.le (Nat.le_succ _), q4.le_ed (Nat.le_succ _) (Nat.le_refl _)⟩
        rw [← add_two a hsp]
        exact h1 i u hi
set_option maxRecDepth 100000 in
theorem state_open {b0 : Nat} {v : Value} {dd : DataW H} {p : List MemPlace} (hv : Value.okWide Tryz.prog W .any b0 51 v) (h : DataW.Trod enc Tryz.prog W 0 (fun _ => true) true 51 v dd p) (hw : Fits 51 dd) :
    ∃ (e d : Nat) (s : SR) (l : List NP), v = .agg s.cells ∧ NPAt W (fun _ => False) (e + 1) d l (.slice s.pr s.nr s.cr) := by
  unfold Value.okWide at hv
  rw [Tryz.underlying51] at hv
  obtain ⟨cs, rfl, hsz, _⟩ := hv
  obtain ⟨fuel, hf0⟩ := h
  obtain ⟨xs, k, rfl, hxe, hcl2, hxl, hf⟩ := DataW.trod_struct Tryz.underlying51 hf0
  injection hxe with hxe1 hxe2
  subst hxe1
  obtain ⟨cs⟩ := cs
  simp only [Value.cells] at hcl2 hf
  rw [cells51] at hcl2
  match xs, hxl, cs, hcl2 with
  | [x0, x1, x2, x3, x4], _, [c0, c1, c2, c3, c4], _ =>
    have f0 : _ = some x0 := hf 0 _ rfl
    have f1 : _ = some x1 := hf 1 _ rfl
    have f2 : _ = some x2 := hf 2 _ rfl
    have f3 : _ = some x3 := hf 3 _ rfl
    have f4 : _ = some x4 := hf 4 _ rfl
    obtain ⟨p0, n0, q0, e0⟩ := Joins.slice_form Tryz.underlying48 f0
    obtain ⟨p1, n1, q1, e1⟩ := Joins.slice_form Tryz.underlying49 f1
    obtain ⟨p2, n2, q2, e2⟩ := Joins.slice_form Tryz.underlying35 f2
    obtain ⟨l, hl⟩ := nodes_open k _ _ f3 (hw.field (j := 3) Tryz.underlying51 rfl rfl)
    obtain ⟨p3, q3, rfl⟩ := hl.form
    obtain ⟨st, e4, _, _⟩ := DataW.trod_int Tryz.underlying3 f4
    injection e0 with e0 _
    injection e1 with e1 _
    injection e2 with e2 _
    injection e4 with e4 _
    exact ⟨k, k, ⟨p0, n0, q0, p1, n1, q1, p2, n2, q2, p3, l.length, q3, st⟩, l, by rw [e0, e1, e2, e4]; rfl, hl.le_ed (Nat.le_succ _) (Nat.le_refl _)⟩
end
end Go.Proofs.YtbhiaeciiphelaaGreatDoor
