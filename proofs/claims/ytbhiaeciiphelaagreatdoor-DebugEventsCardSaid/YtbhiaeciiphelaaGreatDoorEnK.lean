/-
  DERIVED. The reference's SameEvents. Condition: the events lie in memory.
-/
import Derived.Test.YtbhiaeciiphelaaGreatDoorEnH
namespace Go.Proofs.YtbhiaeciiphelaaGreatDoor
open Go.RowKit
set_option maxHeartbeats 16000000 in
set_option maxRecDepth 100000 in
theorem sameEvents_of (e : Nat) (w : World) (A A' : Nat → Prop) (v v' : Value) (ets : List ET) (h : EtsRow w A e v ets) (h' : EtsRow w A' e v' ets) (hn6 : ets.length ≤ 60000) : Calls Tryz.prog 29 #[v, v'] w fun x w' => x = .returned (.bool true) ∧ Keeps w w' := by
  obtain ⟨p, c, rfl, h1⟩ := h
  obtain ⟨p', c', rfl, h1'⟩ := h'
  have H1 := Lib.hid h1
  have H2 := Lib.hid h1'
  obtain ⟨n, hn⟩ : ∃ n, n = ets.length := ⟨_, rfl⟩
  rw [← hn] at hn6 ⊢
  have HN := Lib.hid hn
  clear h1 h1' hn
  go_enter Tryz.func29, Tryz.ntmps29
  go_wp2_with fail
  go_loopw [5] (fun q W => ∃ i : Nat, i ≤ n ∧ q = .int .i64 i ∧ Keeps w W) (fun q _ => n - (intOf q).toNat)
  case atStart => exact ⟨0, Nat.zero_le _, rfl, Keeps.refl _⟩
  case round =>
    obtain ⟨i, hi, rfl, hk⟩ := hrel
    have HK := Lib.hid hk
    by_cases hil : i < n
    · obtain ⟨u, hu⟩ : ∃ u, ets[i]? = some u := ⟨_, List.getElem?_eq_getElem (by rw [← HN.out]; exact hil)⟩
      obtain ⟨g, o, va, v0, v1, v2, v3, rfl, _, hc, ha, hv⟩ := H1.out i u hu
      obtain ⟨g', o', va', v0', v1', v2', v3', rfl, _, hc', ha', hv'⟩ := H2.out i u hu
      obtain ⟨vk, vn, vs, vp, vl, vc, he⟩ := hv.four
      obtain ⟨vk', vn', vs', vp', vl', vc', he'⟩ := hv'.four
      simp only [List.cons.injEq, and_true] at he he'
      obtain ⟨rfl, rfl, rfl, rfl⟩ := he
      obtain ⟨rfl, rfl, rfl, rfl⟩ := he'
      obtain ⟨pa, ca, rfl⟩ : ∃ p c, va = .slice p u.args.length c := by obtain ⟨p, c, h, _⟩ := ha; exact ⟨p, c, h⟩
      obtain ⟨pa', ca', rfl⟩ : ∃ p c, va' = .slice p u.args.length c := by obtain ⟨p, c, h, _⟩ := ha'; exact ⟨p, c, h⟩
      have x0 : wr.drew.cell? _ = _ := cell_keeps hk (hc 0 _ rfl)
      have y0 : wr.drew.cell? _ = _ := cell_keeps hk (hc' 0 _ rfl)
      have x1 : wr.drew.cell? _ = _ := cell_keeps hk (hc 1 _ rfl)
      have y1 : wr.drew.cell? _ = _ := cell_keeps hk (hc' 1 _ rfl)
      have x2 : wr.drew.cell? _ = _ := cell_keeps hk (hc 2 _ rfl)
      have y2 : wr.drew.cell? _ = _ := cell_keeps hk (hc' 2 _ rfl)
      have x3 : wr.drew.cell? _ = _ := cell_keeps hk (hc 3 _ rfl)
      have y3 : wr.drew.cell? _ = _ := cell_keeps hk (hc' 3 _ rfl)
      have x4 : wr.drew.cell? _ = _ := cell_keeps hk (hc 4 _ rfl)
      have y4 : wr.drew.cell? _ = _ := cell_keeps hk (hc' 4 _ rfl)
      have x5 : wr.drew.cell? _ = _ := cell_keeps hk (hc 5 _ rfl)
      have y5 : wr.drew.cell? _ = _ := cell_keeps hk (hc' 5 _ rfl)
      have x6 : wr.drew.cell? _ = _ := cell_keeps hk (hc 6 _ rfl)
      have y6 : wr.drew.cell? _ = _ := cell_keeps hk (hc' 6 _ rfl)
      have x7 : wr.drew.cell? _ = _ := cell_keeps hk (hc 7 _ rfl)
      have y7 : wr.drew.cell? _ = _ := cell_keeps hk (hc' 7 _ rfl)
      have k6 : (i : Int) < n := by omega
      have k7 : (0 : Int) ≤ i := by omega
      have H58 := Lib.hid (fun (W : World) (hW : Keeps wr W) => alikeRuns_of e W A A' u.args _ _ (ha.keep (keeps_hk (Keeps.trans hk hW))) (ha'.keep (keeps_hk (Keeps.trans hk hW))))
      have H59 := Lib.hid (fun (W : World) (hW : Keeps wr W) => alikeRun_of e W A A' u.val _ _ (hv.keep (keeps_hk (Keeps.trans hk hW))) (hv'.keep (keeps_hk (Keeps.trans hk hW))))
      clear hc hc' ha ha' hv hv' hk hu
      simp only [Nat.add_zero] at x0 y0
      go_wp2_with fail
      simp only [List.append_eq, List.cons_append, List.nil_append]
      go_region_held3 (fun W' => W'.cell? ⟨g, o + i * 8, none⟩ = some (.int .i64 u.ev.kind) ∧ W'.cell? ⟨g, o + i * 8 + 1, none⟩ = some (.int .i64 u.ev.site) ∧ W'.cell? ⟨g, o + i * 8 + 2, none⟩ = some (.int .i64 u.ev.addr) ∧ W'.cell? ⟨g, o + i * 8 + 3, none⟩ = some (.slice pa u.args.length ca) ∧ W'.cell? ⟨g, o + i * 8 + 4, none⟩ = some (.int .i64 vk) ∧ W'.cell? ⟨g, o + i * 8 + 5, none⟩ = some (.int .i64 vn) ∧ W'.cell? ⟨g, o + i * 8 + 6, none⟩ = some (.string vs) ∧ W'.cell? ⟨g, o + i * 8 + 7, none⟩ = some (.slice vp vl vc) ∧ W'.cell? ⟨g', o' + i * 8, none⟩ = some (.int .i64 u.ev.kind) ∧ W'.cell? ⟨g', o' + i * 8 + 1, none⟩ = some (.int .i64 u.ev.site) ∧ W'.cell? ⟨g', o' + i * 8 + 2, none⟩ = some (.int .i64 u.ev.addr) ∧ W'.cell? ⟨g', o' + i * 8 + 3, none⟩ = some (.slice pa' u.args.length ca') ∧ W'.cell? ⟨g', o' + i * 8 + 4, none⟩ = some (.int .i64 vk') ∧ W'.cell? ⟨g', o' + i * 8 + 5, none⟩ = some (.int .i64 vn') ∧ W'.cell? ⟨g', o' + i * 8 + 6, none⟩ = some (.string vs') ∧ W'.cell? ⟨g', o' + i * 8 + 7, none⟩ = some (.slice vp' vl' vc'))
        (first | with_reducible exact ⟨x0, x1, x2, x3, x4, x5, x6, x7, y0, y1, y2, y3, y4, y5, y6, y7⟩ | with_reducible exact ⟨cell_keeps hk3 x0, cell_keeps hk3 x1, cell_keeps hk3 x2, cell_keeps hk3 x3, cell_keeps hk3 x4, cell_keeps hk3 x5, cell_keeps hk3 x6, cell_keeps hk3 x7, cell_keeps hk3 y0, cell_keeps hk3 y1, cell_keeps hk3 y2, cell_keeps hk3 y3, cell_keeps hk3 y4, cell_keeps hk3 y5, cell_keeps hk3 y6, cell_keeps hk3 y7⟩ | with_reducible exact ⟨cell_keeps hk2 x0, cell_keeps hk2 x1, cell_keeps hk2 x2, cell_keeps hk2 x3, cell_keeps hk2 x4, cell_keeps hk2 x5, cell_keeps hk2 x6, cell_keeps hk2 x7, cell_keeps hk2 y0, cell_keeps hk2 y1, cell_keeps hk2 y2, cell_keeps hk2 y3, cell_keeps hk2 y4, cell_keeps hk2 y5, cell_keeps hk2 y6, cell_keeps hk2 y7⟩ | exact ⟨x0, x1, x2, x3, x4, x5, x6, x7, y0, y1, y2, y3, y4, y5, y6, y7⟩)
        (first
          | (go_at_call 58; refine (H58.out _ (Keeps.drew _)).mono ?_; rintro _ w2 ⟨rfl, hk2⟩)
          | (go_at_call 59; refine (H59.out _ (Keeps.trans (Keeps.drew _) hk2)).mono ?_; rintro _ w3 ⟨rfl, hk3'⟩; have hk3 := Keeps.trans hk2 hk3'))
      all_goals
        clear x0 x1 x2 x3 x4 x5 x6 x7 y0 y1 y2 y3 y4 y5 y6 y7
        go_wp2_with fail
        go_roundw
        case rel => exact ⟨i + 1, by omega, by go_num, Keeps.trans (Kept.drew HK.out) hk3⟩
        case measure => simp [intOf] <;> omega
    · obtain rfl : i = n := by omega
      have k6 : ¬ (i : Int) < i := by omega
      clear hk
      go_wp2_with fail
      go_ret
      exact ⟨rfl, HK.out⟩
end Go.Proofs.YtbhiaeciiphelaaGreatDoor
namespace Go.Proofs.YtbhiaeciiphelaaGreatDoor
open Go.RowKit
theorem EtsRow.keep {w w' : World} {A A' : Nat → Prop} {e : Nat} {v : Value} {ets : List ET} (hk : ∀ (g : Nat) (o : Obj), w.heap[g]? = some o → ¬ A g → w'.heap[g]? = some o ∧ ¬ A' g) (h : EtsRow w A e v ets) : EtsRow w' A' e v ets := by
  obtain ⟨p, c, rfl, h1⟩ := h
  refine ⟨p, c, rfl, fun j t hj => ?_⟩
  obtain ⟨g, o, va, v0, v1, v2, v3, rfl, hA, hc, ha, hv⟩ := h1 j t hj
  have hg := World.block_lt_of_cell? _ _ (hc 0 _ rfl)
  obtain ⟨h5, h6⟩ := hk g _ (Array.getElem?_eq_getElem hg) hA
  refine ⟨g, o, va, v0, v1, v2, v3, rfl, h6, fun i u hi => ?_, ha.keep hk, hv.keep hk⟩
  rw [World.cell?_of_block (w := w) (a := ⟨g, o + j * 8 + i, none⟩) (by rw [h5, Array.getElem?_eq_getElem hg])]
  exact hc i u hi
theorem EtsRow.nil (w : World) (A : Nat → Prop) (e : Nat) : EtsRow w A e (.slice none 0 0) [] := ⟨none, 0, rfl, fun j t hj => by simp at hj⟩
theorem row_etsRow {W : World} {base e : Nat} {v : Value} {evs : List ET} (h : W.ownsRow base 98 8 v evs.length (evCells evs)) (hv : ∀ t ∈ evs, RunsAt W (fun _ => False) e (.slice t.ev.args t.ev.argn t.ev.argc) t.args ∧ RunAt W (fun _ => False) e t.val [.int .i64 t.ev.vk, .int .i64 t.ev.vn, .string t.ev.vs, .slice t.ev.va t.ev.van t.ev.vac]) : EtsRow W (fun _ => False) e v evs := by
  rcases h.2 with ⟨hvv, h0⟩ | ⟨g, cap, cur, hvv, hb, hg, hc, hm, hs, ht⟩
  · have hn := List.eq_nil_of_length_eq_zero h0
    subst hn
    rw [hvv]
    exact EtsRow.nil _ _ _
  · subst hvv
    refine ⟨_, cap, rfl, fun j t hj => ?_⟩
    obtain ⟨q1, q2⟩ := hv t (List.mem_of_getElem? hj)
    refine ⟨g, 0, _, _, _, _, _, rfl, fun x => x, fun i u hi => ?_, q1, q2⟩
    have hil := (List.getElem?_eq_some_iff.1 hi).1
    simp only [List.length_cons, List.length_nil] at hil
    have hjl := (List.getElem?_eq_some_iff.1 hj).1
    rw [Nat.zero_add, h.cellAt _ (by omega), evCells_get hj i (by omega)]
    exact hi
set_option maxHeartbeats 8000000 in
set_option maxRecDepth 100000 in
theorem eventsLaw_of (e d : Nat) {w : World} (hs : ∀ W, Keeps w W → Calls Tryz.prog 9 #[] W fun e w' => e = .returned (.bool true) ∧ Keeps W w') (A : Nat → Prop) (s : SR) (l : List NP) (h : NPAt w A (e + 1) d l (.slice s.pr s.nr s.cr)) :
    Calls Tryz.prog 5 #[.agg s.cells] w fun x w' => x = .returned (.bool true) ∧ Keeps w w' := by
  have HS := Lib.hid hs
  have H26 := Lib.hid (fun (W : World) (hW : Keeps w W) => little_of (e + 1) d W A s l (h.keep (keeps_hk hW)))
  have H27 := Lib.hid (fun (W : World) (hW : Keeps w W) (hc : cnt l ≤ 600) => events_of e d W A s l (h.keep (keeps_hk hW)) hc)
  have H28 := Lib.hid (fun (W : World) (hW : Keeps w W) (hc : cnt l ≤ 600) => refEvents_of (e + 1) d W A s l (h.keep (keeps_hk hW)) hc)
  have HV := Lib.hid (fun t ht => flat_vals h t ht)
  have hfl := flat_len l
  obtain ⟨ps, ns, cs, pl, nl, cl, pi, ni, ci, pr, nr, cr, steps⟩ := s
  simp only [SR.cells] at *
  obtain ⟨W0, hW0⟩ : ∃ W0, W0 = w.alloc (.cells #[.slice ps ns cs, .slice pl nl cl, .slice pi ni ci, .slice pr nr cr, .int .i64 steps] 51) := ⟨_, rfl⟩
  have HK0 := Lib.hid (show Keeps w W0 by rw [hW0]; exact Keeps.alloc _ _)
  have HB0 := Lib.hid (show W0.heap[w.heap.size]? = some (.cells #[.slice ps ns cs, .slice pl nl cl, .slice pi ni ci, .slice pr nr cr, .int .i64 steps] 51 (0, 0)) by rw [hW0]; exact heap_alloc_at _ _)
  have HW0 := Lib.hid hW0
  clear hs h hW0
  go_enter Tryz.func5, Tryz.ntmps5
  go_wp2_with (go_at_call 9; refine holdT ?_)
  refine Lib.hid ?_
  rw [← HW0.out]
  refine (HS.out _ HK0.out).mono ?_
  rintro _ w1 ⟨rfl, hk⟩
  have HK1 := Lib.hid (Keeps.trans HK0.out hk)
  have HB1 := Lib.hid (hk.at HB0.out (fun x => x))
  have x0 := cell_of_block HB1.out 0
  have x1 := cell_of_block HB1.out 1
  have x2 := cell_of_block HB1.out 2
  have x3 := cell_of_block HB1.out 3
  have x4 := cell_of_block HB1.out 4
  simp at x0 x1 x2 x3 x4
  clear hk
  go_wp2_with (go_at_call 26; refine holdT ?_)
  refine Lib.hid ?_
  refine (H26.out _ HK1.out).mono ?_
  rintro _ w2 ⟨b, rfl, hk, hb⟩
  have HK2 := Lib.hid (Keeps.trans HK1.out hk)
  have HB2 := Lib.hid (hk.at HB1.out (fun x => x))
  clear x0 x1 x2 x3 x4
  have x0 := cell_of_block HB2.out 0
  have x1 := cell_of_block HB2.out 1
  have x2 := cell_of_block HB2.out 2
  have x3 := cell_of_block HB2.out 3
  have x4 := cell_of_block HB2.out 4
  simp at x0 x1 x2 x3 x4
  clear hk
  cases b with
  | false =>
    clear hb
    go_wp2_with fail
    go_ret
    exact ⟨rfl, HK2.out⟩
  | true =>
    have hc := (hb rfl).2
    have HC := Lib.hid hc
    have hfl6 : (flat l).length ≤ 60000 := by omega
    clear hb hc
    go_wp2_with (go_at_call 27; refine holdT ?_)
    refine Lib.hid ?_
    refine (H27.out _ HK2.out HC.out).mono ?_
    rintro _ w3 ⟨hk, hp⟩
    have HK3 := Lib.hid (Keeps.trans HK2.out hk)
    have HB3 := Lib.hid (hk.at HB2.out (fun x => x))
    clear x0 x1 x2 x3 x4
    have x0 := cell_of_block HB3.out 0
    have x1 := cell_of_block HB3.out 1
    have x2 := cell_of_block HB3.out 2
    have x3 := cell_of_block HB3.out 3
    have x4 := cell_of_block HB3.out 4
    simp at x0 x1 x2 x3 x4
    clear hk
    cases ho : readOf ((flat l).map ET.ev) with
    | none =>
      have HO := Lib.hid ho
      clear ho
      rw [HO.out] at hp
      subst hp
      go_wp2_with (go_at_call 28; refine holdT ?_)
      refine Lib.hid ?_
      refine (H28.out _ HK3.out HC.out).mono ?_
      rintro _ w4 ⟨hk, hp⟩
      rw [HO.out] at hp
      subst hp
      have HK4 := Lib.hid (Keeps.trans HK3.out hk)
      clear hk x0 x1 x2 x3 x4
      go_wp2_with (go_at_call 29; refine (sameEvents_of (e + 1) _ (fun _ => False) (fun _ => False) _ _ [] (EtsRow.nil _ _ _) (EtsRow.nil _ _ _) (Nat.zero_le _)).mono ?_; rintro _ w5 ⟨rfl, hk⟩; have HK5 := Lib.hid (Keeps.trans (Keeps.trans HK4.out (Keeps.alloc _ _)) hk); clear hk)
      go_ret
      exact ⟨rfl, HK5.out⟩
    | some st =>
      have HO := Lib.hid ho
      clear ho
      rw [HO.out] at hp
      obtain ⟨v, rfl, hv⟩ := hp
      obtain ⟨pv, cv, rfl⟩ : ∃ p c, v = .slice p (flat l).length c := by obtain ⟨p, c, h, _⟩ := hv; exact ⟨p, c, h⟩
      have HV3 := Lib.hid hv
      clear hv
      go_wp2_with (go_at_call 28; refine holdT ?_)
      refine Lib.hid ?_
      refine (H28.out _ HK3.out HC.out).mono ?_
      rintro _ w4 ⟨hk, hp⟩
      rw [HO.out] at hp
      obtain ⟨v', rfl, hrow⟩ := hp
      have hr := row_etsRow (e := e + 1) hrow (fun t ht => by
        obtain ⟨q1, q2⟩ := HV.out t ht
        have hkk : ∀ (g : Nat) (o : Obj), w.heap[g]? = some o → ¬ A g → w4.heap[g]? = some o ∧ ¬ False := fun g o hg _ => ⟨(Keeps.trans HK3.out hk).at hg (fun x => x), fun x => x⟩
        exact ⟨q1.keep hkk, q2.keep hkk⟩)
      obtain ⟨pv', cv', rfl⟩ : ∃ p c, v' = .slice p (flat l).length c := by obtain ⟨p, c, h, _⟩ := hr; exact ⟨p, c, h⟩
      have HR := Lib.hid hr
      have HK4 := Lib.hid (Keeps.trans HK3.out hk)
      have HK34 := Lib.hid hk
      clear hk hrow hr x0 x1 x2 x3 x4
      go_wp2_with (go_at_call 29; refine (sameEvents_of (e + 1) _ (fun _ => False) (fun _ => False) _ _ (flat l) (HV3.out.keep (keeps_hk (Keeps.trans HK34.out (Keeps.alloc _ _)))) (HR.out.keep (keeps_hk (Keeps.alloc _ _))) hfl6).mono ?_; rintro _ w5 ⟨rfl, hk⟩; have HK5 := Lib.hid (Keeps.trans (Keeps.trans HK4.out (Keeps.alloc _ _)) hk); clear hk)
      go_ret
      exact ⟨rfl, HK5.out⟩
end Go.Proofs.YtbhiaeciiphelaaGreatDoor
