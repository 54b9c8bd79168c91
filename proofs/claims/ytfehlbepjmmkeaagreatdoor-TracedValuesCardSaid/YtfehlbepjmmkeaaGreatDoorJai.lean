/-
  DERIVED. traced.isRun counts a value and tells whether it is valid. Condition: the value lies in memory; the variables of the library are laid.
-/
import Derived.Test.YtfehlbepjmmkeaaGreatDoorJaf
import Derived.Test.YtfehlbepjmmkeaaGreatDoorJah
import Derived.Deep.RegionHeld3
namespace Go.Proofs.YtfehlbepjmmkeaaGreatDoor
open Go.RowKit
theorem box_set {w : World} {b : Nat} {v u : Value} {t : TypeId} (h : w.heap[b]? = some (.cells #[v] t (0, 0))) : (w.setCell ⟨b, 0, none⟩ u).heap[b]? = some (.cells #[u] t (0, 0)) := by rw [heap_set_same h]; rfl
theorem cell_kept {S : Nat → Prop} {w w' : World} (hk : Kept S w w') {a : Addr} {v : Value} (h : w.cell? a = some v) (hS : ¬ S a.block) : w'.cell? a = some v := by
  rw [World.cell?_of_block (w' := w') (w := w) (hk.block a.block (World.block_lt_of_cell? w _ h) hS)]
  exact h
theorem kept_hk {S : Nat → Prop} {w w' : World} (hk : Kept S w w') : ∀ (g : Nat) (o : Obj), w.heap[g]? = some o → ¬ S g → w'.heap[g]? = some o ∧ ¬ S g := fun _ _ h hA => ⟨hk.at h hA, hA⟩
theorem size_nil {k m : Int} {s : ByteArray} {args : List RV} (h : args.length = 0) : (RV.mk k m s args).size = 1 := by
  obtain rfl := List.length_eq_zero_iff.1 h
  rfl
theorem formed0 {k m : Int} {s : ByteArray} {args : List RV} (hk : k = 0) : (RV.mk k m s args).formed = true ↔ s.size = 0 ∧ args.length = 0 := by
  subst hk
  rw [RV.formed, if_pos rfl]
  simp only [Bool.and_eq_true, decide_eq_true_eq]
  refine ⟨fun h => h.2, fun h => ⟨?_, h⟩⟩
  obtain rfl := List.length_eq_zero_iff.1 h.2
  rfl
theorem formed2 {k m : Int} {s : ByteArray} {args : List RV} (hk : k = 2) : (RV.mk k m s args).formed = true ↔ (s.size = 0 ∧ args.length = 0) ∧ 0 ≤ m := by
  subst hk
  rw [RV.formed, if_neg (by decide), if_pos rfl]
  simp only [Bool.and_eq_true, decide_eq_true_eq]
  refine ⟨fun h => h.2, fun h => ⟨?_, h⟩⟩
  obtain rfl := List.length_eq_zero_iff.1 h.1.2
  rfl
theorem formed1 {k m : Int} {s : ByteArray} {args : List RV} (h0 : k ≠ 0) (h2 : k ≠ 2) : (RV.mk k m s args).formed = true ↔ formedL args = true ∧ ((k = 1 ∧ m = 0) ∧ args.length ≤ 16) ∧ conB s = true := by
  rw [RV.formed, if_neg h0, if_neg h2]
  simp only [Bool.and_eq_true, decide_eq_true_eq]
/-- What isRun says. -/
def IsSays (c : Nat) (t : RV) (cb : Nat) (w : World) (e : Ending) (w' : World) : Prop := ∃ (r : Bool) (c' : Nat), e = .returned (.bool r) ∧ w'.heap[cb]? = some (.cells #[.int .i64 c'] 3 (0, 0)) ∧ Kept (fun b => b = cb) w w' ∧
      (r = true ↔ t.formed = true ∧ c + t.size ≤ 4000) ∧ (r = true → c' = c + t.size)
set_option maxHeartbeats 16000000 in
set_option maxRecDepth 100000 in
theorem isRun_of : ∀ (d : Nat) (w : World) (cb : Nat) (t : RV) (cs : List Value) (g o : Nat) (c : Nat), Vars w → RunAt w (fun b => b = cb) d t cs → g ≠ cb → 8 ≤ cb →
    (∀ (i : Nat) (v : Value), cs[i]? = some v → w.cell? ⟨g, o + i, none⟩ = some v) → w.heap[cb]? = some (.cells #[.int .i64 c] 3 (0, 0)) → c ≤ 4000 →
    Calls Tryz.prog 27 #[.pointer (some ⟨g, o, none⟩), .pointer (some ⟨cb, 0, none⟩)] w fun e w' => IsSays c t cb w e w'
  | 0, _, _, _, _, _, _, _, _, h, _, _, _, _, _ => h.elim
  | d + 1, w, cb, .mk k m s args, cs, g, o, c, hv, h, hg, hcb, hc, hb, hc4 => by
    obtain ⟨p, cp, rfl, hl, h1⟩ := h
    have IH := Lib.hid (isRun_of d)
    have H1 := Lib.hid h1
    have HV := Lib.hid hv
    have hcell := cell_of_block hb 0
    have hfree := free_of_block hb 0
    simp at hcell
    obtain ⟨W1, hW1⟩ : ∃ W1, W1 = w.setCell ⟨cb, 0, none⟩ (.int .i64 ((c : Int) + 1)) := ⟨_, rfl⟩
    have hk1 : Kept (fun b => b = cb) w W1 := by rw [hW1]; exact Kept.setCell (S := fun b => b = cb) (Kept.refl _ _) (p := ⟨cb, 0, none⟩) (fun _ => rfl) _
    have hb1 : W1.heap[cb]? = some (.cells #[.int .i64 ((c + 1 : Nat) : Int)] 3 (0, 0)) := by
      rw [hW1, show ((c + 1 : Nat) : Int) = (c : Int) + 1 by omega]; exact box_set hb
    have y0 := cell_kept hk1 (hc 0 _ rfl) hg
    have y1 := cell_kept hk1 (hc 1 _ rfl) hg
    have y2 := cell_kept hk1 (hc 2 _ rfl) hg
    have y3 := cell_kept hk1 (hc 3 _ rfl) hg
    simp only [Nat.add_zero] at y0
    have HY := Lib.hid (And.intro y0 (And.intro y1 (And.intro y2 y3)))
    rw [hW1] at y0 y1 y2 y3
    have HX := Lib.hid (hc 3 _ rfl)
    have HK1 := Lib.hid hk1
    have HB1 := Lib.hid hb1
    have HG := Lib.hid hg
    have HW1 := Lib.hid hW1
    have hc4' : (c : Int) ≤ 4000 := by omega
    have hc0 : (0 : Int) ≤ c := by omega
    clear h1 hv hc hb hk1 hb1 hW1 hg
    by_cases h4 : c + 1 ≤ 4000
    · have h4' : ¬ (4000 : Int) < (c : Int) + 1 := by omega
      by_cases hk0 : k = 0
      · have hkb : (k == 0) = true := by simp [hk0]
        have hsz : (RV.mk k m s args).formed = true ↔ s.size = 0 ∧ args.length = 0 := formed0 hk0
        have HS := Lib.hid hsz
        have hres : ∀ r : Bool, (r = true ↔ s.size = 0 ∧ args.length = 0) → IsSays c (.mk k m s args) cb w (.returned (.bool r)) W1 := fun r hr =>
          ⟨r, c + 1, rfl, HB1.out, HK1.out, by rw [hr, HS.out]; exact ⟨fun h => ⟨h, by rw [size_nil h.2]; omega⟩, fun h => h.1⟩, fun h => by rw [size_nil (hr.1 h).2]⟩
        have HR := Lib.hid hres
        clear hsz hres hk0
        go_enter Tryz.func27, Tryz.ntmps27
        go_wp2_with fail
        all_goals
          go_ret
          rw [← HW1.out]
          refine HR.out _ ?_
          clear IH H1 HV HY HK1 HB1 HG HW1 HS HR y0 y1 y2 y3
          first
            | (simp_all [toList_nil]; done)
            | (simp_all [toList_nil]; omega)
      · by_cases hk2 : k = 2
        · have hkb : (k == 0) = false := by simp [hk0]
          have hkb2 : (k == 2) = true := by simp [hk2]
          have HS := Lib.hid (formed2 (m := m) (s := s) (args := args) hk2)
          have hres : ∀ r : Bool, (r = true ↔ (s.size = 0 ∧ args.length = 0) ∧ 0 ≤ m) → IsSays c (.mk k m s args) cb w (.returned (.bool r)) W1 := fun r hr =>
            ⟨r, c + 1, rfl, HB1.out, HK1.out, by rw [hr, HS.out]; exact ⟨fun h => ⟨h, by rw [size_nil h.1.2]; omega⟩, fun h => h.1⟩, fun h => by rw [size_nil (hr.1 h).1.2]⟩
          have HR := Lib.hid hres
          clear hres hk0 hk2
          go_enter Tryz.func27, Tryz.ntmps27
          go_wp2_with fail
          all_goals
            go_ret
            rw [← HW1.out]
            first
              | refine HR.out _ ?_
              | (rename_i hnil; subst hnil; refine HR.out _ ?_)
            clear IH H1 HV HY HK1 HB1 HG HW1 HS HR y0 y1 y2 y3
            first
              | (simp_all [toList_nil]; done)
              | (simp_all [toList_nil]; omega)
        · have hkb : (k == 0) = false := by simp [hk0]
          have hkb2 : (k == 2) = false := by simp [hk2]
          have HS := Lib.hid (formed1 (m := m) (s := s) (args := args) hk0 hk2)
          have hres : ∀ W, Keeps W1 W → ¬ (((k = 1 ∧ m = 0) ∧ args.length ≤ 16) ∧ conB s = true) → IsSays c (.mk k m s args) cb w (.returned (.bool false)) W := fun W hW hr =>
            ⟨false, c + 1, rfl, hW.at HB1.out (fun x => x), Kept.trans HK1.out hW (fun _ _ x => x.elim), by rw [HS.out]; exact ⟨fun h => absurd h (by decide), fun h => absurd h.1.2 hr⟩, fun h => absurd h (by decide)⟩
          have HR := Lib.hid hres
          clear hres hk0 hk2
          by_cases hk1 : k = 1
          · by_cases hm0 : m = 0
            · by_cases hl16 : args.length ≤ 16
              · subst hk1 hm0
                have hl16' : ¬ (16 : Int) < args.length := by omega
                have HL16 := Lib.hid hl16
                clear hl16 hkb hkb2
                go_enter Tryz.func27, Tryz.ntmps27
                go_wp2_with (go_at_call 77; refine holdL ?_)
                refine Lib.hid ?_
                rw [← HW1.out]
                refine (lexIsCon_of s W1 (HV.out.kept HK1.out (fun x hx e => by omega))).mono ?_
                rintro _ w2 ⟨rfl, hk2⟩
                obtain ⟨x0, x1, x2, x3⟩ := HY.out
                replace x0 := cell_keeps hk2 x0
                replace x1 := cell_keeps hk2 x1
                replace x2 := cell_keeps hk2 x2
                replace x3 := cell_keeps hk2 x3
                have HK2 := Lib.hid hk2
                clear hk2 y0 y1 y2 y3
                cases hcb2 : conB s with
                | false =>
                  have HCB := Lib.hid hcb2
                  clear hcb2
                  go_wp2_with fail
                  go_ret
                  exact HR.out _ HK2.out (fun h => by rw [HCB.out] at h; exact absurd h.2 (by decide))
                | true =>
                  have HCB := Lib.hid hcb2
                  clear hcb2
                  have hkw := Kept.trans HK1.out HK2.out (fun _ _ x => x.elim)
                  have HKW := Lib.hid hkw
                  have HB2 := Lib.hid (HK2.out.at HB1.out (fun x => x))
                  clear hkw
                  go_wp2_with fail
                  go_loopw [95] (fun q W => ∃ i : Nat, i ≤ args.length ∧ formedL (args.take i) = true ∧ c + 1 + sizes (args.take i) ≤ 4000 ∧ q = .int .i64 i ∧ W.heap[cb]? = some (.cells #[.int .i64 ((c + 1 + sizes (args.take i) : Nat) : Int)] 3 (0, 0)) ∧ Kept (fun b => b = cb) w W) (fun q _ => args.length - (intOf q).toNat)
                  case atStart => exact ⟨0, Nat.zero_le _, rfl, by simp [sizes]; omega, rfl, by simpa [sizes] using HB2.out, HKW.out⟩
                  case round =>
                    obtain ⟨i, hi, hf, hs4, rfl, hbx, hkx⟩ := hrel
                    have e3 := cell_kept hkx HX.out HG.out
                    have HBX := Lib.hid hbx
                    have HKX := Lib.hid hkx
                    have HF := Lib.hid hf
                    have HS4 := Lib.hid hs4
                    by_cases hil : i < args.length
                    · have k6 : (i : Int) < args.length := by omega
                      have k7 : (0 : Int) ≤ i := by omega
                      obtain ⟨u, hu⟩ : ∃ u, args[i]? = some u := ⟨_, List.getElem?_eq_getElem hil⟩
                      obtain ⟨g', o', c1, rfl, hA, hc1, ht1⟩ := H1.out i u hu
                      have hcall := IH.out wr cb u c1 g' (o' + i * 4) (c + 1 + sizes (args.take i)) (HV.out.kept hkx (fun x hx e => by omega)) (ht1.keep (kept_hk hkx)) hA hcb (fun i v hi => cell_kept hkx (hc1 i v hi) hA) hbx hs4
                      have HI := Lib.hid hcall
                      have HU := Lib.hid hu
                      clear hcall hc1 ht1 hA hu hbx hkx hf hs4 x0 x1 x2 x3
                      go_wp2_with (go_at_call 27; refine holdL ?_)
                      refine Lib.hid ?_
                      refine HI.out.mono ?_
                      rintro _ w3 ⟨r, c', rfl, hb3, hk3, hr1, hr2⟩
                      have HK3 := Lib.hid (Kept.trans HKX.out hk3 (fun _ _ x => x))
                      have HB3 := Lib.hid hb3
                      have HR1 := Lib.hid hr1
                      have HR2 := Lib.hid hr2
                      clear hb3 hk3 hr1 hr2
                      cases r with
                      | true =>
                        have hst := sizes_take HU.out
                        have h8 := HR1.out.1 rfl
                        have h9 := HR2.out rfl
                        have HE : Hid (c' = c + 1 + sizes (args.take (i + 1))) := Lib.hid (by omega)
                        have HL : Hid (c + 1 + sizes (args.take (i + 1)) ≤ 4000) := Lib.hid (by omega)
                        have HFF : Hid (formedL (args.take (i + 1)) = true) := Lib.hid (by rw [formedL_take HU.out, HF.out, h8.1]; rfl)
                        clear hst h8 h9
                        go_wp2_with fail
                        go_roundw
                        case rel => exact ⟨i + 1, by omega, HFF.out, HL.out, by go_num, by rw [← HE.out]; exact HB3.out, HK3.out⟩
                        case measure => simp [intOf] <;> omega
                      | false =>
                        have hno : ¬ ((RV.mk 1 0 s args).formed = true ∧ c + (RV.mk 1 0 s args).size ≤ 4000) := fun h => by
                          have h5 : u.formed = true := formedL_mem HU.out (HS.out.1 h.1).1
                          have h6 := sizes_take HU.out
                          have h7 := sizes_take_le args (i + 1)
                          have h8 := h.2
                          rw [RV.size] at h8
                          have := HR1.out.2 ⟨h5, by omega⟩
                          cases this
                        have HN := Lib.hid hno
                        clear hno
                        go_wp2_with fail
                        go_ret
                        exact ⟨false, c', rfl, HB3.out, HK3.out, ⟨fun h => absurd h (by decide), fun h => absurd h HN.out⟩, fun h => absurd h (by decide)⟩
                    · obtain rfl : i = args.length := by omega
                      have k6 : ¬ (args.length : Int) < args.length := by omega
                      have h1 := HF.out
                      have h2 := HS4.out
                      have h3 := HBX.out
                      rw [List.take_length] at h1 h2 h3
                      have hyes : (RV.mk 1 0 s args).formed = true := HS.out.2 ⟨h1, ⟨⟨by trivial, by trivial⟩, HL16.out⟩, HCB.out⟩
                      have hsz : c + (RV.mk 1 0 s args).size = c + 1 + sizes args := by rw [RV.size]; omega
                      have HY1 := Lib.hid hyes
                      have HY2 := Lib.hid hsz
                      have H1' := Lib.hid h1
                      have H2' := Lib.hid h2
                      have H3' := Lib.hid h3
                      clear h1 h2 h3 hyes hsz hbx hkx hf hs4
                      go_wp2_with fail
                      go_ret
                      exact ⟨true, c + 1 + sizes args, rfl, H3'.out, HKX.out, ⟨fun _ => ⟨HY1.out, by rw [HY2.out]; exact H2'.out⟩, fun _ => rfl⟩, fun _ => HY2.out.symm⟩
              · have hl16' : (16 : Int) < args.length := by omega
                have hkb1 : (k != 1) = false := by simp [hk1]
                have hmb : (m != 0) = false := by simp [hm0]
                have HN := Lib.hid (show ¬ (((k = 1 ∧ m = 0) ∧ args.length ≤ 16) ∧ conB s = true) from fun h => hl16 h.1.2)
                clear hk1 hm0 hl16
                go_enter Tryz.func27, Tryz.ntmps27
                go_wp2_with fail
                go_ret
                rw [← HW1.out]
                exact HR.out _ (Keeps.refl _) HN.out
            · have hkb1 : (k != 1) = false := by simp [hk1]
              have hmb : (m != 0) = true := by simpa using hm0
              have HN := Lib.hid (show ¬ (((k = 1 ∧ m = 0) ∧ args.length ≤ 16) ∧ conB s = true) from fun h => hm0 h.1.1.2)
              clear hk1 hm0
              go_enter Tryz.func27, Tryz.ntmps27
              go_wp2_with fail
              go_ret
              rw [← HW1.out]
              exact HR.out _ (Keeps.refl _) HN.out
          · have hkb1 : (k != 1) = true := by simpa using hk1
            have HN := Lib.hid (show ¬ (((k = 1 ∧ m = 0) ∧ args.length ≤ 16) ∧ conB s = true) from fun h => hk1 h.1.1.1)
            clear hk1
            go_enter Tryz.func27, Tryz.ntmps27
            go_wp2_with fail
            go_ret
            rw [← HW1.out]
            exact HR.out _ (Keeps.refl _) HN.out
    · have h4' : (4000 : Int) < (c : Int) + 1 := by omega
      go_enter Tryz.func27, Tryz.ntmps27
      go_wp2_with fail
      go_ret
      rw [← HW1.out]
      exact ⟨false, c + 1, rfl, HB1.out, HK1.out, ⟨fun h => absurd h (by decide), fun h => by have h9 := h.2; rw [RV.size] at h9; omega⟩, fun h => absurd h (by decide)⟩
end Go.Proofs.YtfehlbepjmmkeaaGreatDoor
namespace Go.Proofs.YtfehlbepjmmkeaaGreatDoor
open Go.RowKit
/-- isRun at the head of a call. -/
theorem isRun_first (d : Nat) (w : World) (A : Nat → Prop) (t : RV) (k m : Int) (s : ByteArray) (p : Option Addr) (n c : Nat) (hv : Vars w) (h : RunAt w A d t [.int .i64 k, .int .i64 m, .string s, .slice p n c]) :
    Calls Tryz.prog 27 #[.pointer (some ⟨w.heap.size, 0, none⟩), .pointer (some ⟨w.heap.size + 1, 0, none⟩)] ((w.alloc (.cells #[.int .i64 k, .int .i64 m, .string s, .slice p n c] 24)).alloc (.cells #[.int .i64 0] 3)) fun e w' =>
      e = .returned (.bool (okR t)) ∧ (okR t = true → w'.cell? ⟨w.heap.size + 1, 0, none⟩ = some (.int .i64 t.size)) ∧ Keeps w w' := by
  obtain ⟨W0, hW0⟩ : ∃ W0, W0 = (w.alloc (.cells #[.int .i64 k, .int .i64 m, .string s, .slice p n c] 24)).alloc (.cells #[.int .i64 0] 3) := ⟨_, rfl⟩
  have hk0 : Keeps w W0 := by rw [hW0]; exact Kept.alloc (Keeps.alloc _ _) _
  have hb1 : W0.heap[w.heap.size]? = some (.cells #[.int .i64 k, .int .i64 m, .string s, .slice p n c] 24 (0, 0)) := by rw [hW0]; exact heap_alloc_old _ (heap_alloc_at _ _)
  have hb2 : W0.heap[w.heap.size + 1]? = some (.cells #[.int .i64 ((0 : Nat) : Int)] 3 (0, 0)) := by
    rw [hW0]
    have h9 := heap_alloc_at (w.alloc (.cells #[.int .i64 k, .int .i64 m, .string s, .slice p n c] 24)) (.cells #[.int .i64 0] 3)
    rw [World.size_alloc] at h9
    exact h9
  rw [← hW0]
  have hbig := hv.blk
  have ht : RunAt W0 (fun b => b = w.heap.size + 1) d t [.int .i64 k, .int .i64 m, .string s, .slice p n c] := h.keep fun g o hg hA => ⟨hk0.at hg (fun x => x), by have := heap_lt hg; omega⟩
  refine (isRun_of d W0 (w.heap.size + 1) t _ w.heap.size 0 0 (hv.keep hk0) ht (by omega) (by omega) (fun i v hi => ?_) hb2 (by omega)).mono ?_
  · rw [Nat.zero_add, cell_of_block hb1]
    rw [List.getElem?_toArray]
    exact hi
  · rintro e w' ⟨r, c', rfl, hc, hk, hr, hr2⟩
    have hro : r = okR t := by
      rw [Bool.eq_iff_iff, hr]
      simp only [okR, Bool.and_eq_true, decide_eq_true_eq]
      constructor
      · intro h1; exact ⟨by omega, h1.1⟩
      · intro h1; exact ⟨h1.2, by omega⟩
    refine ⟨by rw [hro], fun h1 => ?_, ?_⟩
    · have h2 := hr2 (hro.trans h1)
      rw [cell_of_block hc, h2, Nat.zero_add]
      rfl
    · exact Kept.trans hk0 hk (fun x hx e => by omega)
set_option maxHeartbeats 4000000 in
theorem check_of (d : Nat) (w : World) (A : Nat → Prop) (t : RV) (cs : List Value) (hv : Vars w) (h : RunAt w A d t cs) :
    Calls Tryz.prog 6 #[.agg cs.toArray] w fun e w' => e = .returned (.int .i64 (ckR t)) ∧ Keeps w w' := by
  obtain ⟨k, m, s, p, n, c, rfl⟩ := h.four
  have HI := Lib.hid (isRun_first d w A t k m s p n c hv h)
  clear hv h
  go_enter Tryz.func6, Tryz.ntmps6
  go_wp2_with (go_at_call 27; refine holdL ?_)
  refine Lib.hid ?_
  refine HI.out.mono ?_
  rintro _ w2 ⟨rfl, _, hk2⟩
  have HK := Lib.hid hk2
  clear hk2
  cases hok : okR t
  · have hck := ckR_f hok
    go_wp2_with fail
    go_ret
    exact ⟨by first | rfl | (rw [hck]; rfl), HK.out⟩
  · have hck := ckR_t hok
    go_wp2_with fail
    go_ret
    exact ⟨by first | rfl | (rw [hck]; rfl), HK.out⟩
set_option maxHeartbeats 4000000 in
theorem size_of (d : Nat) (w : World) (A : Nat → Prop) (t : RV) (cs : List Value) (hv : Vars w) (h : RunAt w A d t cs) :
    Calls Tryz.prog 8 #[.agg cs.toArray] w fun e w' => e = .returned (.int .i64 (szR t)) ∧ Keeps w w' := by
  obtain ⟨k, m, s, p, n, c, rfl⟩ := h.four
  have HI := Lib.hid (isRun_first d w A t k m s p n c hv h)
  clear hv h
  go_enter Tryz.func8, Tryz.ntmps8
  go_wp2_with (go_at_call 27; refine holdL ?_)
  refine Lib.hid ?_
  refine HI.out.mono ?_
  rintro _ w2 ⟨rfl, hsz, hk2⟩
  have HK := Lib.hid hk2
  clear hk2
  cases hok : okR t
  · have hck := szR_f hok
    clear hsz
    go_wp2_with fail
    go_ret
    exact ⟨by first | rfl | (rw [hck]; rfl), HK.out⟩
  · have hck := szR_t hok
    have hcell := hsz hok
    have HCK := Lib.hid hck
    clear hsz hck
    go_wp2_with fail
    go_ret
    exact ⟨by first | rfl | (rw [HCK.out]; rfl), HK.out⟩
end Go.Proofs.YtfehlbepjmmkeaaGreatDoor
namespace Go.Proofs.YtfehlbepjmmkeaaGreatDoor
open Go.RowKit
set_option maxHeartbeats 8000000 in
set_option maxRecDepth 100000 in
theorem equalFunc_of (d : Nat) (IH : ∀ (w : World) (A A' : Nat → Prop) (t t' : RV) (cs cs' : List Value), RunAt w A d t cs → RunAt w A' d t' cs' →
      Calls Tryz.prog 30 #[.agg cs.toArray, .agg cs'.toArray] w fun e w' => e = .returned (.bool (t.alike t')) ∧ Keeps w w')
    (w : World) (A A' : Nat → Prop) (args args' : List RV) (v v' : Value) (h : RunsAt w A d v args) (h' : RunsAt w A' d v' args') :
    Calls Tryz.prog 79 #[v, v', .func (.func 30) #[] #[]] w fun e w' => e = .returned (.bool (alikes args args')) ∧ Keeps w w' := by
  obtain ⟨p, c, rfl, hl, h1⟩ := h
  obtain ⟨p', c', rfl, _, h1'⟩ := h'
  have HIH := Lib.hid IH
  have H1 := Lib.hid h1
  have H2 := Lib.hid h1'
  clear IH h1 h1'
  by_cases hll : args.length = args'.length
  · have hll' : ((args'.length : Nat) : Int) = args.length := by omega
    have HLL := Lib.hid hll
    clear hll
    go_enter Tryz.func79, Tryz.ntmps79
    go_wp2_with fail
    go_loopw [17] (fun q W => ∃ i : Nat, i ≤ args.length ∧ alikes (args.take i) (args'.take i) = true ∧ q = .int .i64 i ∧ Keeps w W) (fun q _ => args.length - (intOf q).toNat)
    case atStart => exact ⟨0, Nat.zero_le _, by simp [alikes], rfl, Keeps.refl _⟩
    case round =>
      obtain ⟨i, hi, hal, rfl, hk⟩ := hrel
      have HK := Lib.hid hk
      have HAL := Lib.hid hal
      clear hk hal
      by_cases hil : i < args.length
      · obtain ⟨u, hu⟩ : ∃ u, args[i]? = some u := ⟨_, List.getElem?_eq_getElem hil⟩
        obtain ⟨u', hu'⟩ : ∃ u, args'[i]? = some u := ⟨_, List.getElem?_eq_getElem (by have := HLL.out; omega)⟩
        obtain ⟨g, o, c1, rfl, hA, hc1, ht1⟩ := H1.out i u hu
        obtain ⟨g', o', c2, rfl, hA', hc2, ht2⟩ := H2.out i u' hu'
        obtain ⟨k1, m1, s1, p1, n1, d1, rfl⟩ := ht1.four
        obtain ⟨k2, m2, s2, p2, n2, d2, rfl⟩ := ht2.four
        have hkw := HK.out
        have x0 := cell_keeps hkw (hc1 0 _ rfl)
        have x1 := cell_keeps hkw (hc1 1 _ rfl)
        have x2 := cell_keeps hkw (hc1 2 _ rfl)
        have x3 := cell_keeps hkw (hc1 3 _ rfl)
        have y0 := cell_keeps hkw (hc2 0 _ rfl)
        have y1 := cell_keeps hkw (hc2 1 _ rfl)
        have y2 := cell_keeps hkw (hc2 2 _ rfl)
        have y3 := cell_keeps hkw (hc2 3 _ rfl)
        have HU := Lib.hid hu
        have HU' := Lib.hid hu'
        have k6 : (i : Int) < args.length := by omega
        have k7 : (0 : Int) ≤ i := by omega
        have k8 : (i : Int) < args'.length := by omega
        have HI := Lib.hid (fun (W : World) (hW : Keeps wr W) => HIH.out W A A' u u' _ _ (ht1.keep (keeps_hk (Keeps.trans hkw hW))) (ht2.keep (keeps_hk (Keeps.trans hkw hW))))
        clear hc1 hc2 hA hA' ht1 ht2 hkw hu hu'
        simp only [Nat.add_zero] at x0 y0
        have z0 := cell_keeps (Keeps.alloc wr (Obj.cells #[.int .i64 k1, .int .i64 m1, .string s1, .slice p1 n1 d1] 24)) y0
        have z1 := cell_keeps (Keeps.alloc wr (Obj.cells #[.int .i64 k1, .int .i64 m1, .string s1, .slice p1 n1 d1] 24)) y1
        have z2 := cell_keeps (Keeps.alloc wr (Obj.cells #[.int .i64 k1, .int .i64 m1, .string s1, .slice p1 n1 d1] 24)) y2
        have z3 := cell_keeps (Keeps.alloc wr (Obj.cells #[.int .i64 k1, .int .i64 m1, .string s1, .slice p1 n1 d1] 24)) y3
        go_wp2_with (go_at_call 30; refine holdT ?_)
        refine Lib.hid ?_
        refine (HI.out _ (Kept.alloc (Keeps.alloc _ _) _)).mono ?_
        rintro _ w2 ⟨rfl, hk2⟩
        have HK2 := Lib.hid (Keeps.trans HK.out (Keeps.trans (Kept.alloc (Keeps.alloc _ _) _) hk2))
        clear x0 x1 x2 x3 y0 y1 y2 y3 z0 z1 z2 z3 hk2
        cases huu : u.alike u' with
        | true =>
          have HUU := Lib.hid huu
          clear huu
          go_wp2_with fail
          go_roundw
          case rel => exact ⟨i + 1, by omega, by rw [alikes_take HU.out HU'.out, HAL.out, HUU.out]; rfl, by go_num, HK2.out⟩
          case measure => simp [intOf] <;> omega
        | false =>
          have hres := Lib.hid (alikes_false HU.out HU'.out huu)
          clear huu
          go_wp2_with fail
          go_ret
          exact ⟨by first | (rw [hres.out]; rfl) | (rw [hres.out]), HK2.out⟩
      · obtain rfl : i = args.length := by omega
        have k6 : ¬ (args.length : Int) < args.length := by omega
        have hres : alikes args args' = true := by
          have h9 := HAL.out
          rw [List.take_length, List.take_of_length_le (by have := HLL.out; omega)] at h9
          exact h9
        have HR := Lib.hid hres
        clear hres
        go_wp2_with fail
        go_ret
        exact ⟨by first | (rw [HR.out]; rfl) | (rw [HR.out]), HK.out⟩
  · have hln : (((args.length : Nat) : Int) != args'.length) = true := by simp; omega
    have HR := Lib.hid (alikes_len hll)
    clear hll
    go_enter Tryz.func79, Tryz.ntmps79
    go_wp2_with fail
    go_ret
    exact ⟨by first | (rw [HR.out]; rfl) | (rw [HR.out]), Keeps.refl _⟩
end Go.Proofs.YtfehlbepjmmkeaaGreatDoor
namespace Go.Proofs.YtfehlbepjmmkeaaGreatDoor
open Go.RowKit
set_option maxHeartbeats 8000000 in
set_option maxRecDepth 100000 in
theorem equal_of : ∀ (d : Nat) (w : World) (A A' : Nat → Prop) (t t' : RV) (cs cs' : List Value), RunAt w A d t cs → RunAt w A' d t' cs' →
    Calls Tryz.prog 30 #[.agg cs.toArray, .agg cs'.toArray] w fun e w' => e = .returned (.bool (t.alike t')) ∧ Keeps w w'
  | 0, _, _, _, _, _, _, _, h, _ => h.elim
  | d + 1, w, A, A', .mk k m s args, .mk k' m' s' args', cs, cs', h, h' => by
    obtain ⟨p, c, rfl, hl, h1⟩ := h
    obtain ⟨p', c', rfl, hl', h1'⟩ := h'
    have hE : ∀ W, Keeps w W → Calls Tryz.prog 79 #[.slice p args.length c, .slice p' args'.length c', .func (.func 30) #[] #[]] W fun e w' => e = .returned (.bool (alikes args args')) ∧ Keeps W w' := fun W hW =>
      equalFunc_of d (equal_of d) W A A' args args' _ _ ((show RunsAt w A d (.slice p args.length c) args from ⟨p, c, rfl, hl, h1⟩).keep (keeps_hk hW)) ((show RunsAt w A' d (.slice p' args'.length c') args' from ⟨p', c', rfl, hl', h1'⟩).keep (keeps_hk hW))
    have HE := Lib.hid hE
    clear hE h1 h1'
    have hk0 : Keeps w ((w.alloc (.cells #[.int .i64 k, .int .i64 m, .string s, .slice p args.length c] 24)).alloc (.cells #[.int .i64 k', .int .i64 m', .string s', .slice p' args'.length c'] 24)) := Kept.alloc (Keeps.alloc _ _) _
    have HK0 := Lib.hid hk0
    clear hk0
    by_cases hkk : k = k'
    · by_cases hmm : m = m'
      · by_cases hss : s = s'
        · subst hkk hmm hss
          have hres : (RV.mk k m s args).alike (RV.mk k m s args') = alikes args args' := by rw [RV.alike]; simp
          have HR := Lib.hid hres
          clear hres
          go_enter Tryz.func30, Tryz.ntmps30
          go_wp2_with (go_at_call 79; refine holdT ?_)
          refine Lib.hid ?_
          refine (HE.out _ HK0.out).mono ?_
          rintro _ w2 ⟨rfl, hk2⟩
          have HK2 := Lib.hid (Keeps.trans HK0.out hk2)
          clear hk2
          go_wp2_with fail
          go_ret
          exact ⟨by first | (rw [HR.out]; rfl) | (rw [HR.out]), HK2.out⟩
        · have hsn : (s.toList == s'.toList) = false := by simpa using fun h => hss (toList_eq h)
          have hres : (RV.mk k m s args).alike (RV.mk k' m' s' args') = false := by rw [RV.alike]; simp [hss]
          have HR := Lib.hid hres
          clear hres hss
          subst hkk hmm
          go_enter Tryz.func30, Tryz.ntmps30
          go_wp2_with fail
          go_ret
          exact ⟨by first | (rw [HR.out]; rfl) | (rw [HR.out]), HK0.out⟩
      · have hmn : (m == m') = false := by simpa using hmm
        have hres : (RV.mk k m s args).alike (RV.mk k' m' s' args') = false := by rw [RV.alike]; simp [hmm]
        have HR := Lib.hid hres
        clear hres hmm
        subst hkk
        go_enter Tryz.func30, Tryz.ntmps30
        go_wp2_with fail
        go_ret
        exact ⟨by first | (rw [HR.out]; rfl) | (rw [HR.out]), HK0.out⟩
    · have hkn : (k == k') = false := by simpa using hkk
      have hres : (RV.mk k m s args).alike (RV.mk k' m' s' args') = false := by rw [RV.alike]; simp [hkk]
      have HR := Lib.hid hres
      clear hres hkk
      go_enter Tryz.func30, Tryz.ntmps30
      go_wp2_with fail
      go_ret
      exact ⟨by first | (rw [HR.out]; rfl) | (rw [HR.out]), HK0.out⟩
set_option maxHeartbeats 8000000 in
theorem equalRun_of (d : Nat) (w : World) (A A' : Nat → Prop) (t t' : RV) (cs cs' : List Value) (hv : Vars w) (h : RunAt w A d t cs) (h' : RunAt w A' d t' cs') :
    Calls Tryz.prog 10 #[.agg cs.toArray, .agg cs'.toArray] w fun e w' => e = .returned (.bool (okR t && (okR t' && t.alike t'))) ∧ Keeps w w' := by
  obtain ⟨k, m, s, p, n, c, rfl⟩ := h.four
  obtain ⟨k', m', s', p', n', c', rfl⟩ := h'.four
  have HV := Lib.hid (fun W (hW : Keeps w W) => check_of d W A t _ (hv.keep hW) (h.keep (keeps_hk hW)))
  have HV' := Lib.hid (fun W (hW : Keeps w W) => check_of d W A' t' _ (hv.keep hW) (h'.keep (keeps_hk hW)))
  have HE := Lib.hid (fun W (hW : Keeps w W) => equal_of d W A A' t t' _ _ (h.keep (keeps_hk hW)) (h'.keep (keeps_hk hW)))
  clear h h' hv
  obtain ⟨W0, hW0⟩ : ∃ W0, W0 = (w.alloc (.cells #[.int .i64 k, .int .i64 m, .string s, .slice p n c] 24)).alloc (.cells #[.int .i64 k', .int .i64 m', .string s', .slice p' n' c'] 24) := ⟨_, rfl⟩
  have hk0 : Keeps w W0 := by rw [hW0]; exact Kept.alloc (Keeps.alloc _ _) _
  have hb1 : W0.heap[w.heap.size]? = some (.cells #[.int .i64 k, .int .i64 m, .string s, .slice p n c] 24 (0, 0)) := by rw [hW0]; exact heap_alloc_old _ (heap_alloc_at _ _)
  have hb2 : W0.heap[w.heap.size + 1]? = some (.cells #[.int .i64 k', .int .i64 m', .string s', .slice p' n' c'] 24 (0, 0)) := by
    rw [hW0]
    have h9 := heap_alloc_at (w.alloc (.cells #[.int .i64 k, .int .i64 m, .string s, .slice p n c] 24)) (.cells #[.int .i64 k', .int .i64 m', .string s', .slice p' n' c'] 24)
    rw [World.size_alloc] at h9
    exact h9
  have HK0 := Lib.hid hk0
  have HB1 := Lib.hid hb1
  have HB2 := Lib.hid hb2
  clear hk0 hb1 hb2
  go_enter Tryz.func10, Tryz.ntmps10
  go_wp2_with (go_at_call 6; refine holdT ?_)
  refine Lib.hid ?_
  rw [← hW0]
  clear hW0
  refine (HV.out _ HK0.out).mono ?_
  rintro _ w2 ⟨rfl, hk2⟩
  have a0 := cell_of_block (hk2.at HB1.out (fun x => x)) 0
  have a1 := cell_of_block (hk2.at HB1.out (fun x => x)) 1
  have a2 := cell_of_block (hk2.at HB1.out (fun x => x)) 2
  have a3 := cell_of_block (hk2.at HB1.out (fun x => x)) 3
  have b0 := cell_of_block (hk2.at HB2.out (fun x => x)) 0
  have b1 := cell_of_block (hk2.at HB2.out (fun x => x)) 1
  have b2 := cell_of_block (hk2.at HB2.out (fun x => x)) 2
  have b3 := cell_of_block (hk2.at HB2.out (fun x => x)) 3
  simp at a0 a1 a2 a3 b0 b1 b2 b3
  have HK := Lib.hid (Keeps.trans HK0.out hk2)
  clear hk2
  cases hok : okR t
  · rw [ckR_f hok]
    go_wp2_with fail
    go_ret
    exact ⟨by simp [hok], HK.out⟩
  · rw [ckR_t hok]
    have HO := Lib.hid hok
    go_wp2_with (go_at_call 6; refine holdT ?_)
    refine Lib.hid ?_
    refine (HV'.out _ HK.out).mono ?_
    rintro _ w3 ⟨rfl, hk3⟩
    have e0 := cell_keeps hk3 a0
    have e1 := cell_keeps hk3 a1
    have e2 := cell_keeps hk3 a2
    have e3 := cell_keeps hk3 a3
    have f0 := cell_keeps hk3 b0
    have f1 := cell_keeps hk3 b1
    have f2 := cell_keeps hk3 b2
    have f3 := cell_keeps hk3 b3
    have HK3 := Lib.hid (Keeps.trans HK.out hk3)
    clear hk3
    cases hok' : okR t'
    · rw [ckR_f hok']
      go_wp2_with fail
      go_ret
      exact ⟨by simp [hok'], HK3.out⟩
    · rw [ckR_t hok']
      go_wp2_with (go_at_call 30; refine holdT ?_)
      refine Lib.hid ?_
      refine (HE.out _ HK3.out).mono ?_
      rintro _ w4 ⟨rfl, hk4⟩
      have HK4 := Lib.hid (Keeps.trans HK3.out hk4)
      clear hk4
      go_wp2_with fail
      go_ret
      exact ⟨by simp [hok, hok'], HK4.out⟩
end Go.Proofs.YtfehlbepjmmkeaaGreatDoor
namespace Go.Proofs.YtfehlbepjmmkeaaGreatDoor
open Go.RowKit
set_option maxHeartbeats 16000000 in
set_option maxRecDepth 100000 in
theorem tracedLaw_of {w : World} (hs : ∀ W, Keeps w W → Calls Tryz.prog 5 #[] W fun e w' => e = .returned (.bool true) ∧ Keeps W w') (hv : Vars w) (d : Nat) (A A' : Nat → Prop) (t t' : RV) (cs cs' : List Value) (h : RunAt w A d t cs) (h' : RunAt w A' d t' cs') :
    Calls Tryz.prog 3 #[.agg cs.toArray, .agg cs'.toArray] w fun e w' => e = .returned (.bool true) ∧ Keeps w w' := by
  obtain ⟨k, m, s, p, n, c, rfl⟩ := h.four
  obtain ⟨k', m', s', p', n', c', rfl⟩ := h'.four
  have F1 := Lib.hid (fun W (hW : Keeps w W) => check_of d W A t _ (hv.keep hW) (h.keep (keeps_hk hW)))
  have F2 := Lib.hid (fun W (hW : Keeps w W) => refCheck_of d W A t _ (h.keep (keeps_hk hW)))
  have F3 := Lib.hid (fun W (hW : Keeps w W) => size_of d W A t _ (hv.keep hW) (h.keep (keeps_hk hW)))
  have F4 := Lib.hid (fun W (hW : Keeps w W) => refSize_of d W A t _ (h.keep (keeps_hk hW)))
  have F5 := Lib.hid (fun W (hW : Keeps w W) => equalRun_of d W A A' t t' _ _ (hv.keep hW) (h.keep (keeps_hk hW)) (h'.keep (keeps_hk hW)))
  have F6 := Lib.hid (fun W (hW : Keeps w W) => refEqual_of d W A A' t t' _ _ (h.keep (keeps_hk hW)) (h'.keep (keeps_hk hW)))
  obtain ⟨ck, hck⟩ : ∃ ck, ck = ckR t := ⟨_, rfl⟩
  obtain ⟨sz, hsz⟩ : ∃ sz, sz = szR t := ⟨_, rfl⟩
  obtain ⟨eq, heq⟩ : ∃ eq, eq = (okR t && (okR t' && t.alike t')) := ⟨_, rfl⟩
  rw [← hck] at F1 F2
  rw [← hsz] at F3 F4
  rw [← heq] at F5 F6
  have HS := Lib.hid hs
  clear hck hsz heq h h' hv hs
  obtain ⟨W0, hW0⟩ : ∃ W0, W0 = (w.alloc (.cells #[.int .i64 k, .int .i64 m, .string s, .slice p n c] 24)).alloc (.cells #[.int .i64 k', .int .i64 m', .string s', .slice p' n' c'] 24) := ⟨_, rfl⟩
  have hk0 : Keeps w W0 := by rw [hW0]; exact Kept.alloc (Keeps.alloc _ _) _
  have hb1 : W0.heap[w.heap.size]? = some (.cells #[.int .i64 k, .int .i64 m, .string s, .slice p n c] 24 (0, 0)) := by rw [hW0]; exact heap_alloc_old _ (heap_alloc_at _ _)
  have hb2 : W0.heap[w.heap.size + 1]? = some (.cells #[.int .i64 k', .int .i64 m', .string s', .slice p' n' c'] 24 (0, 0)) := by
    rw [hW0]
    have h9 := heap_alloc_at (w.alloc (.cells #[.int .i64 k, .int .i64 m, .string s, .slice p n c] 24)) (.cells #[.int .i64 k', .int .i64 m', .string s', .slice p' n' c'] 24)
    rw [World.size_alloc] at h9
    exact h9
  have HK0 := Lib.hid hk0
  have HB1 := Lib.hid hb1
  have HB2 := Lib.hid hb2
  clear hk0 hb1 hb2
  go_enter Tryz.func3, Tryz.ntmps3
  go_wp2_with (go_at_call 5; refine holdT ?_)
  refine Lib.hid ?_
  rw [← hW0]
  clear hW0
  refine (HS.out _ HK0.out).mono ?_
  rintro _ w1 ⟨rfl, hk1⟩
  have a0 := cell_of_block (hk1.at HB1.out (fun x => x)) 0
  have a1 := cell_of_block (hk1.at HB1.out (fun x => x)) 1
  have a2 := cell_of_block (hk1.at HB1.out (fun x => x)) 2
  have a3 := cell_of_block (hk1.at HB1.out (fun x => x)) 3
  have b0 := cell_of_block (hk1.at HB2.out (fun x => x)) 0
  have b1 := cell_of_block (hk1.at HB2.out (fun x => x)) 1
  have b2 := cell_of_block (hk1.at HB2.out (fun x => x)) 2
  have b3 := cell_of_block (hk1.at HB2.out (fun x => x)) 3
  simp at a0 a1 a2 a3 b0 b1 b2 b3
  have hkw := Keeps.trans HK0.out hk1
  have HKW := Lib.hid hkw
  clear hk1 HKW
  go_wp2_with fail
  go_region_held3 (fun W' => Keeps w W' ∧ W'.cell? ⟨w.heap.size, 0, none⟩ = some (.int .i64 k) ∧ W'.cell? ⟨w.heap.size, 1, none⟩ = some (.int .i64 m) ∧ W'.cell? ⟨w.heap.size, 2, none⟩ = some (.string s) ∧ W'.cell? ⟨w.heap.size, 3, none⟩ = some (.slice p n c) ∧
      W'.cell? ⟨w.heap.size + 1, 0, none⟩ = some (.int .i64 k') ∧ W'.cell? ⟨w.heap.size + 1, 1, none⟩ = some (.int .i64 m') ∧ W'.cell? ⟨w.heap.size + 1, 2, none⟩ = some (.string s') ∧ W'.cell? ⟨w.heap.size + 1, 3, none⟩ = some (.slice p' n' c'))
    (first | exact ⟨hkw, a0, a1, a2, a3, b0, b1, b2, b3⟩ | exact ⟨Kept.drew hkw, a0, a1, a2, a3, b0, b1, b2, b3⟩)
    (first
      | (go_at_call 6; refine (F1.out _ (by first | exact hkw | exact Kept.drew hkw)).mono ?_; rintro _ w2 ⟨rfl, hk2⟩; replace a0 := cell_keeps hk2 a0; replace a1 := cell_keeps hk2 a1; replace a2 := cell_keeps hk2 a2; replace a3 := cell_keeps hk2 a3; replace b0 := cell_keeps hk2 b0; replace b1 := cell_keeps hk2 b1; replace b2 := cell_keeps hk2 b2; replace b3 := cell_keeps hk2 b3; replace hkw := Keeps.trans (by first | exact hkw | exact Kept.drew hkw) hk2; clear hk2)
      | (go_at_call 7; refine (F2.out _ (by first | exact hkw | exact Kept.drew hkw)).mono ?_; rintro _ w2 ⟨rfl, hk2⟩; replace a0 := cell_keeps hk2 a0; replace a1 := cell_keeps hk2 a1; replace a2 := cell_keeps hk2 a2; replace a3 := cell_keeps hk2 a3; replace b0 := cell_keeps hk2 b0; replace b1 := cell_keeps hk2 b1; replace b2 := cell_keeps hk2 b2; replace b3 := cell_keeps hk2 b3; replace hkw := Keeps.trans (by first | exact hkw | exact Kept.drew hkw) hk2; clear hk2)
      | (go_at_call 8; refine (F3.out _ (by first | exact hkw | exact Kept.drew hkw)).mono ?_; rintro _ w2 ⟨rfl, hk2⟩; replace a0 := cell_keeps hk2 a0; replace a1 := cell_keeps hk2 a1; replace a2 := cell_keeps hk2 a2; replace a3 := cell_keeps hk2 a3; replace b0 := cell_keeps hk2 b0; replace b1 := cell_keeps hk2 b1; replace b2 := cell_keeps hk2 b2; replace b3 := cell_keeps hk2 b3; replace hkw := Keeps.trans (by first | exact hkw | exact Kept.drew hkw) hk2; clear hk2)
      | (go_at_call 9; refine (F4.out _ (by first | exact hkw | exact Kept.drew hkw)).mono ?_; rintro _ w2 ⟨rfl, hk2⟩; replace a0 := cell_keeps hk2 a0; replace a1 := cell_keeps hk2 a1; replace a2 := cell_keeps hk2 a2; replace a3 := cell_keeps hk2 a3; replace b0 := cell_keeps hk2 b0; replace b1 := cell_keeps hk2 b1; replace b2 := cell_keeps hk2 b2; replace b3 := cell_keeps hk2 b3; replace hkw := Keeps.trans (by first | exact hkw | exact Kept.drew hkw) hk2; clear hk2)
      | (go_at_call 10; refine (F5.out _ (by first | exact hkw | exact Kept.drew hkw)).mono ?_; rintro _ w2 ⟨rfl, hk2⟩; replace a0 := cell_keeps hk2 a0; replace a1 := cell_keeps hk2 a1; replace a2 := cell_keeps hk2 a2; replace a3 := cell_keeps hk2 a3; replace b0 := cell_keeps hk2 b0; replace b1 := cell_keeps hk2 b1; replace b2 := cell_keeps hk2 b2; replace b3 := cell_keeps hk2 b3; replace hkw := Keeps.trans (by first | exact hkw | exact Kept.drew hkw) hk2; clear hk2)
      | (go_at_call 11; refine (F6.out _ (by first | exact hkw | exact Kept.drew hkw)).mono ?_; rintro _ w2 ⟨rfl, hk2⟩; replace a0 := cell_keeps hk2 a0; replace a1 := cell_keeps hk2 a1; replace a2 := cell_keeps hk2 a2; replace a3 := cell_keeps hk2 a3; replace b0 := cell_keeps hk2 b0; replace b1 := cell_keeps hk2 b1; replace b2 := cell_keeps hk2 b2; replace b3 := cell_keeps hk2 b3; replace hkw := Keeps.trans (by first | exact hkw | exact Kept.drew hkw) hk2; clear hk2))
  all_goals
    go_wp2_with fail
    go_ret
    exact ⟨by first | rfl | simp, hkw⟩
end Go.Proofs.YtfehlbepjmmkeaaGreatDoor
