/-
  DERIVED. The reference says whether a text is one constructor name. No condition.
-/
import Derived.Test.YtfehlbepjmmkeaaGreatDoorJae
import Derived.Test.YtfehlbepjmmkeaaGreatDoorJaa
import Derived.Test.YtfehlbepjmmkeaaGreatDoorJab
import Derived.Shelf.Small.Strs
import Derived.Ground.Names2Prog
import Derived.Ground.SlgnProg
import Derived.Test.YtfehlbepjmmkeaaGreatDoorProg
namespace Go.Proofs.YtfehlbepjmmkeaaGreatDoor
open Go.RowKit
theorem read_of (s : ByteArray) (w : World) (h0 : 0 < s.size) (hs : s.size ≤ 100) : Calls Tryz.prog 234 #[.string s, .int .i64 0] w fun e w' => ReadSays s e ∧ Keeps w w' := by
  have hby := byteC_nat h0
  cases hg : greatC ((s[0]'h0).toNat : Int) with
  | true => exact read_great s w h0 hs (by rw [hby]; exact hg)
  | false =>
    cases h1 : (((s[0]'h0).toNat : Int) == 126) with
    | true => exact read_num s w h0 hs (.inl h1) hg
    | false =>
      cases h2 : digitC ((s[0]'h0).toNat : Int) with
      | true => exact read_num s w h0 hs (.inr h2) hg
      | false =>
        cases h3 : (((s[0]'h0).toNat : Int) == 39) with
        | true => exact read_plain s w h0 hs h1 h2 h3 hg
        | false =>
          cases h4 : smallC ((s[0]'h0).toNat : Int) with
          | true => exact read_small s w h0 hs h1 h2 h3 h4 hg
          | false => exact read_sign s w h0 hs h1 h2 h3 h4 hg
set_option maxHeartbeats 8000000 in
set_option maxRecDepth 100000 in
theorem refKind_of (s : ByteArray) (w : World) : Calls Tryz.prog 191 #[.string s] w fun e w' => (∃ k : Int, e = .returned (.int .i64 k) ∧ (k = 3 ↔ conB s = true)) ∧ Keeps w w' := by
  by_cases h0 : 0 < s.size
  · by_cases hs : s.size ≤ 100
    · have hs0 : (0 : Int) < s.size := by omega
      have hs1 : ¬ (100 : Int) < s.size := by omega
      have hsz : ((s.size : Int) == 0) = false := by rw [beq_eq_false_iff_ne]; omega
      have hby := byteC_nat h0
      have HR := Lib.hid (fun W => read_of s W h0 hs)
      cases hsp : spaceC ((s[0]'h0).toNat : Int) with
      | true =>
        have hcf : ¬ conB s = true := fun h => by
          have := (conB_good.1 h).2.1
          rw [hby] at this
          simp [spaceC] at hsp
          simp [greatC] at this
          omega
        have HCF := Lib.hid hcf
        clear hcf hby
        go_enter Tryz.func191, Tryz.ntmps191
        go_wp2_with (go_at_call 233; refine (refSpace_of _ _).mono ?_; rintro _ _ ⟨rfl, rfl⟩)
        go_ret
        exact ⟨⟨0, rfl, fun h => absurd h (by decide), fun h => absurd h HCF.out⟩, Keeps.refl _⟩
      | false =>
        have h45 : (s.extract 0 2).toList = [40, 42] → conB s = true → False := fun h hc => by
          rw [show (s.extract 0 2).toList = (s.extract 0 2).data.toList by simp [ByteArray.toList_eq]] at h
          have h3 := congrArg (fun b : List UInt8 => b[0]?) h
          have h4 := (conB_good.1 hc).2.1
          rw [hby] at h4
          have h5 : s[0]'h0 = 40 := by
            simp [ByteArray.data_extract] at h3
            have h6 : s.data[0]? = some (s[0]'h0) := Array.getElem?_eq_getElem h0
            rw [h6] at h3
            simpa using h3
          rw [h5] at h4
          simp [greatC] at h4
        have H45 := Lib.hid h45
        clear hby
        go_enter Tryz.func191, Tryz.ntmps191
        by_cases h1 : 1 < s.size
        · have h1' : (1 : Int) < s.size := by omega
          go_wp2_with (first
            | (go_at_call 233; refine (refSpace_of _ _).mono ?_; rintro _ _ ⟨rfl, rfl⟩)
            | (go_at_call 234; refine holdL ?_))
          · go_ret
            exact ⟨⟨0, rfl, fun h => absurd h (by decide), fun h => (H45.out (by first | assumption | (apply eq_of_beq; assumption)) h).elim⟩, Keeps.refl _⟩
          · refine Lib.hid ?_
            refine (HR.out _).mono ?_
            rintro _ w2 ⟨⟨k, n, tx, a, ec, rfl, hgr, hng⟩, hk2⟩
            have hA : conB s = true → ec = 0 ∧ k = 3 ∧ tx.size = s.size := fun h => by
              obtain ⟨h1, h2, h3⟩ := conB_good.1 h
              rcases hgr h2 with ⟨_, h5, h6, h7⟩ | ⟨h4, _⟩
              · refine ⟨h5, h6, ?_⟩
                rw [h7, ByteArray.size_extract]; omega
              · omega
            have hB : ec = 0 → k = 3 → tx.size = s.size → conB s = true := fun h1 h2 h3 => by
              cases hg : greatC (byteC s (0 : Nat)) with
              | false => rcases hng hg with h | h <;> contradiction
              | true =>
                rcases hgr hg with ⟨h4, _, _, h7⟩ | ⟨_, h5⟩
                · have h8 := nameLen_le s 0 (by omega)
                  rw [h7, ByteArray.size_extract] at h3
                  exact conB_good.2 ⟨by omega, hg, by omega⟩
                · contradiction
            have HA := Lib.hid hA
            have HB := Lib.hid hB
            have HK := Lib.hid hk2
            clear hgr hng hA hB hk2
            by_cases hec : ec = 0
            · subst hec
              by_cases htx : tx.size = s.size
              · have hsb : ((tx.size : Int) != s.size) = false := by simp [htx]
                have HT := Lib.hid htx
                clear htx
                go_wp2_with fail
                go_ret
                exact ⟨⟨k, rfl, fun h => HB.out (by first | rfl | trivial) h HT.out, fun h => (HA.out h).2.1⟩, Kept.alloc HK.out _⟩
              · have hsb : ((tx.size : Int) != s.size) = true := by simp; omega
                have HT := Lib.hid htx
                clear htx
                go_wp2_with fail
                go_ret
                exact ⟨⟨0, rfl, fun h => absurd h (by decide), fun h => absurd (HA.out h).2.2 HT.out⟩, Kept.alloc HK.out _⟩
            · have heb : (ec != 0) = true := by simpa using hec
              have HE := Lib.hid hec
              clear hec
              go_wp2_with fail
              go_ret
              exact ⟨⟨0, rfl, fun h => absurd h (by decide), fun h => absurd (HA.out h).1 HE.out⟩, Kept.alloc HK.out _⟩
        · have h1' : ¬ (1 : Int) < s.size := by omega
          go_wp2_with (first
            | (go_at_call 233; refine (refSpace_of _ _).mono ?_; rintro _ _ ⟨rfl, rfl⟩)
            | (go_at_call 234; refine holdL ?_))
          · refine Lib.hid ?_
            refine (HR.out _).mono ?_
            rintro _ w2 ⟨⟨k, n, tx, a, ec, rfl, hgr, hng⟩, hk2⟩
            have hA : conB s = true → ec = 0 ∧ k = 3 ∧ tx.size = s.size := fun h => by
              obtain ⟨h1, h2, h3⟩ := conB_good.1 h
              rcases hgr h2 with ⟨_, h5, h6, h7⟩ | ⟨h4, _⟩
              · refine ⟨h5, h6, ?_⟩
                rw [h7, ByteArray.size_extract]; omega
              · omega
            have hB : ec = 0 → k = 3 → tx.size = s.size → conB s = true := fun h1 h2 h3 => by
              cases hg : greatC (byteC s (0 : Nat)) with
              | false => rcases hng hg with h | h <;> contradiction
              | true =>
                rcases hgr hg with ⟨h4, _, _, h7⟩ | ⟨_, h5⟩
                · have h8 := nameLen_le s 0 (by omega)
                  rw [h7, ByteArray.size_extract] at h3
                  exact conB_good.2 ⟨by omega, hg, by omega⟩
                · contradiction
            have HA := Lib.hid hA
            have HB := Lib.hid hB
            have HK := Lib.hid hk2
            clear hgr hng hA hB hk2
            by_cases hec : ec = 0
            · subst hec
              by_cases htx : tx.size = s.size
              · have hsb : ((tx.size : Int) != s.size) = false := by simp [htx]
                have HT := Lib.hid htx
                clear htx
                go_wp2_with fail
                go_ret
                exact ⟨⟨k, rfl, fun h => HB.out (by first | rfl | trivial) h HT.out, fun h => (HA.out h).2.1⟩, Kept.alloc HK.out _⟩
              · have hsb : ((tx.size : Int) != s.size) = true := by simp; omega
                have HT := Lib.hid htx
                clear htx
                go_wp2_with fail
                go_ret
                exact ⟨⟨0, rfl, fun h => absurd h (by decide), fun h => absurd (HA.out h).2.2 HT.out⟩, Kept.alloc HK.out _⟩
            · have heb : (ec != 0) = true := by simpa using hec
              have HE := Lib.hid hec
              clear hec
              go_wp2_with fail
              go_ret
              exact ⟨⟨0, rfl, fun h => absurd h (by decide), fun h => absurd (HA.out h).1 HE.out⟩, Kept.alloc HK.out _⟩
    · have hs1 : (100 : Int) < s.size := by omega
      have hsz : ((s.size : Int) == 0) = false := by rw [beq_eq_false_iff_ne]; omega
      have hcf : ¬ conB s = true := fun h => by have := (conB_good.1 h).1; omega
      go_enter Tryz.func191, Tryz.ntmps191
      go_wp2_with fail
      go_ret
      exact ⟨⟨0, rfl, fun h => absurd h (by decide), fun h => absurd h hcf⟩, Keeps.refl _⟩
  · have hsz : ((s.size : Int) == 0) = true := by rw [beq_iff_eq]; omega
    have hcf : ¬ conB s = true := fun h => h0 (greatC_pos (conB_good.1 h).2.1)
    go_enter Tryz.func191, Tryz.ntmps191
    go_wp2_with fail
    go_ret
    exact ⟨⟨0, rfl, fun h => absurd h (by decide), fun h => absurd h hcf⟩, Keeps.refl _⟩
end Go.Proofs.YtfehlbepjmmkeaaGreatDoor
namespace Go.Proofs.YtfehlbepjmmkeaaGreatDoor
open Go.RowKit
theorem refIsCon_of (s : ByteArray) (w : World) : Calls Tryz.prog 138 #[.string s] w fun e w' => e = .returned (.bool (conB s)) ∧ Keeps w w' := by
  go_enter Tryz.func138, Tryz.ntmps138
  go_wp2_with (go_at_call 191; refine holdL ?_)
  refine Lib.hid ?_
  refine (refKind_of s w).mono ?_
  rintro _ w2 ⟨⟨k, rfl, hk⟩, hk2⟩
  have hkb : (k == 3) = conB s := by
    rw [Bool.eq_iff_iff]
    simpa using hk
  go_wp2_with fail
  go_ret
  exact ⟨rfl, hk2⟩
end Go.Proofs.YtfehlbepjmmkeaaGreatDoor
namespace Go.Proofs.YtfehlbepjmmkeaaGreatDoor
open Go.RowKit
theorem toList_nil (s : ByteArray) : s.toList = [] ↔ s.size = 0 := by
  rw [show s.toList = s.data.toList by simp [ByteArray.toList_eq]]
  rw [← List.length_eq_zero_iff, Array.length_toList]
  exact Iff.rfl
set_option maxHeartbeats 8000000 in
set_option maxRecDepth 100000 in
theorem runFormed_of : ∀ (d : Nat) (w : World) (A : Nat → Prop) (t : RV) (cs : List Value), RunAt w A d t cs →
    Calls Tryz.prog 78 #[.agg cs.toArray] w fun e w' => e = .returned (.bool t.formed) ∧ Keeps w w'
  | 0, _, _, _, _, h => h.elim
  | d + 1, w, A, .mk k m s args, cs, h => by
    obtain ⟨p, c, rfl, hl, h1⟩ := h
    have IH := Lib.hid (runFormed_of d)
    have H1 := Lib.hid h1
    obtain ⟨W0, hW0⟩ : ∃ W0, W0 = w.alloc (.cells #[.int .i64 k, .int .i64 m, .string s, .slice p args.length c] 24) := ⟨_, rfl⟩
    have hk0 : Keeps w W0 := by rw [hW0]; exact Keeps.alloc _ _
    have hb1 : W0.heap[w.heap.size]? = some (.cells #[.int .i64 k, .int .i64 m, .string s, .slice p args.length c] 24 (0, 0)) := by rw [hW0]; exact heap_alloc_at _ _
    have HK0 := Lib.hid hk0
    have HB1 := Lib.hid hb1
    clear h1 hk0 hb1
    obtain ⟨fb, hfb⟩ : ∃ fb, fb = (RV.mk k m s args).formed := ⟨_, rfl⟩
    rw [← hfb]
    rw [RV.formed] at hfb
    have HF := Lib.hid hfb
    clear hfb
    go_enter Tryz.func78, Tryz.ntmps78
    go_wp2_with fail
    rw [← hW0]
    clear hW0
    go_loopw [3] (fun q W => ∃ i : Nat, i ≤ args.length ∧ formedL (args.take i) = true ∧ q = .int .i64 i ∧ Keeps W0 W) (fun q _ => args.length - (intOf q).toNat)
    case atStart => exact ⟨0, Nat.zero_le _, rfl, rfl, Keeps.refl _⟩
    case round =>
      obtain ⟨i, hi, hf, rfl, hk⟩ := hrel
      have HK := Lib.hid hk
      have HFT := Lib.hid hf
      have a0 := cell_of_block (hk.at HB1.out (fun x => x)) 0
      have a1 := cell_of_block (hk.at HB1.out (fun x => x)) 1
      have a2 := cell_of_block (hk.at HB1.out (fun x => x)) 2
      have a3 := cell_of_block (hk.at HB1.out (fun x => x)) 3
      simp at a0 a1 a2 a3
      clear hk hf
      by_cases hil : i < args.length
      · have k6 : (i : Int) < args.length := by omega
        have k7 : (0 : Int) ≤ i := by omega
        obtain ⟨u, hu⟩ : ∃ u, args[i]? = some u := ⟨_, List.getElem?_eq_getElem hil⟩
        obtain ⟨g, o, c1, rfl, hA, hc1, ht1⟩ := H1.out i u hu
        obtain ⟨k1, m1, s1, p1, n1, d1, rfl⟩ := ht1.four
        have hkw := Keeps.trans HK0.out HK.out
        have x0 := cell_keeps hkw (hc1 0 _ rfl)
        have x1 := cell_keeps hkw (hc1 1 _ rfl)
        have x2 := cell_keeps hkw (hc1 2 _ rfl)
        have x3 := cell_keeps hkw (hc1 3 _ rfl)
        have HI := Lib.hid (IH.out wr A u _ (ht1.keep (keeps_hk hkw)))
        have HU := Lib.hid hu
        clear hc1 hA ht1 hkw hu
        simp only [Nat.add_zero] at x0
        go_wp2_with (go_at_call 78; refine holdT ?_)
        refine Lib.hid ?_
        refine HI.out.mono ?_
        rintro _ w2 ⟨rfl, hk2⟩
        have HK2 := Lib.hid (Keeps.trans HK.out hk2)
        clear hk2
        cases hfu : u.formed with
        | true =>
          go_wp2_with fail
          go_roundw
          case rel => exact ⟨i + 1, by omega, by rw [formedL_take HU.out, HFT.out, hfu]; rfl, by go_num, HK2.out⟩
          case measure => simp [intOf] <;> omega
        | false =>
          have hff : fb = false := by
            rw [HF.out]
            cases hal : formedL args with
            | false => rfl
            | true => rw [formedL_mem HU.out hal] at hfu; cases hfu
          go_wp2_with fail
          go_ret
          exact ⟨by first | rfl | (rw [hff]; rfl), Keeps.trans HK0.out HK2.out⟩
      · obtain rfl : i = args.length := by omega
        have k6 : ¬ (args.length : Int) < args.length := by omega
        have hf := HFT.out
        rw [List.take_length] at hf
        have hfb := HF.out
        rw [hf, Bool.true_and] at hfb
        have HF2 := Lib.hid hfb
        clear hf hfb
        go_wp2_with (go_at_call 138; refine holdT ?_)
        all_goals try
          go_ret
          refine ⟨congrArg (fun b => Ending.returned (Value.bool b)) (?_ : _ = _), Keeps.trans HK0.out HK.out⟩
          rw [HF2.out]
          clear IH H1 HB1 HF HF2 HFT HK HK0
        all_goals first
          | (simp_all [toList_nil]; done)
          | (rw [Bool.eq_iff_iff]; simp_all [toList_nil]; done)
          | (rw [Bool.eq_iff_iff]; simp_all [toList_nil]; omega)
          | skip
        refine Lib.hid ?_
        refine (refIsCon_of s _).mono ?_
        rintro _ w2 ⟨rfl, hk2⟩
        have e3 := cell_keeps hk2 a3
        have HK2 := Lib.hid (Keeps.trans HK.out hk2)
        clear hk2
        cases hcb : conB s
        all_goals
          have HCB := Lib.hid hcb
          clear hcb
          go_wp2_with fail
          go_ret
          refine ⟨congrArg (fun b => Ending.returned (Value.bool b)) (?_ : _ = _), Keeps.trans HK0.out HK2.out⟩
          rw [HF2.out, HCB.out]
          clear IH H1 HB1 HF HF2 HFT HK HK0
          first
            | (simp_all; done)
            | (rw [Bool.eq_iff_iff]; simp_all; done)
            | (rw [Bool.eq_iff_iff]; simp_all; omega)
end Go.Proofs.YtfehlbepjmmkeaaGreatDoor
namespace Go.Proofs.YtfehlbepjmmkeaaGreatDoor
open Go.RowKit
set_option maxHeartbeats 8000000 in
set_option maxRecDepth 100000 in
theorem alikeRun_of : ∀ (d : Nat) (w : World) (A A' : Nat → Prop) (t t' : RV) (cs cs' : List Value), RunAt w A d t cs → RunAt w A' d t' cs' →
    Calls Tryz.prog 31 #[.agg cs.toArray, .agg cs'.toArray] w fun e w' => e = .returned (.bool (t.alike t')) ∧ Keeps w w'
  | 0, _, _, _, _, _, _, _, h, _ => h.elim
  | d + 1, w, A, A', .mk k m s args, .mk k' m' s' args', cs, cs', h, h' => by
    obtain ⟨p, c, rfl, hl, h1⟩ := h
    obtain ⟨p', c', rfl, _, h1'⟩ := h'
    have IH := Lib.hid (alikeRun_of d)
    have H1 := Lib.hid h1
    have H2 := Lib.hid h1'
    obtain ⟨W0, hW0⟩ : ∃ W0, W0 = (w.alloc (.cells #[.int .i64 k, .int .i64 m, .string s, .slice p args.length c] 24)).alloc (.cells #[.int .i64 k', .int .i64 m', .string s', .slice p' args'.length c'] 24) := ⟨_, rfl⟩
    have hk0 : Keeps w W0 := by rw [hW0]; exact Kept.alloc (Keeps.alloc _ _) _
    have hb1 : W0.heap[w.heap.size]? = some (.cells #[.int .i64 k, .int .i64 m, .string s, .slice p args.length c] 24 (0, 0)) := by rw [hW0]; exact heap_alloc_old _ (heap_alloc_at _ _)
    have hb2 : W0.heap[w.heap.size + 1]? = some (.cells #[.int .i64 k', .int .i64 m', .string s', .slice p' args'.length c'] 24 (0, 0)) := by
      rw [hW0]
      have h9 := heap_alloc_at (w.alloc (.cells #[.int .i64 k, .int .i64 m, .string s, .slice p args.length c] 24)) (.cells #[.int .i64 k', .int .i64 m', .string s', .slice p' args'.length c'] 24)
      rw [World.size_alloc] at h9
      exact h9
    have HK0 := Lib.hid hk0
    have HB1 := Lib.hid hb1
    have HB2 := Lib.hid hb2
    clear h1 h1' hk0 hb1 hb2
    by_cases hkk : k = k'
    · by_cases hmm : m = m'
      · by_cases hss : s = s'
        · by_cases hll : args.length = args'.length
          · subst hkk hmm hss
            have hll' : ((args'.length : Nat) : Int) = args.length := by omega
            have HLL := Lib.hid hll
            clear hll
            go_enter Tryz.func31, Tryz.ntmps31
            go_wp2_with fail
            rw [← hW0]
            clear hW0
            go_loopw [5] (fun q W => ∃ i : Nat, i ≤ args.length ∧ alikes (args.take i) (args'.take i) = true ∧ q = .int .i64 i ∧ Keeps W0 W) (fun q _ => args.length - (intOf q).toNat)
            case atStart => exact ⟨0, Nat.zero_le _, by simp [alikes], rfl, Keeps.refl _⟩
            case round =>
              obtain ⟨i, hi, hal, rfl, hk⟩ := hrel
              have HK := Lib.hid hk
              have HAL := Lib.hid hal
              have a3 := cell_of_block (hk.at HB1.out (fun x => x)) 3
              have b3 := cell_of_block (hk.at HB2.out (fun x => x)) 3
              simp at a3 b3
              clear hk hal
              by_cases hil : i < args.length
              · obtain ⟨u, hu⟩ : ∃ u, args[i]? = some u := ⟨_, List.getElem?_eq_getElem hil⟩
                obtain ⟨u', hu'⟩ : ∃ u, args'[i]? = some u := ⟨_, List.getElem?_eq_getElem (by have := HLL.out; omega)⟩
                obtain ⟨g, o, c1, rfl, hA, hc1, ht1⟩ := H1.out i u hu
                obtain ⟨g', o', c2, rfl, hA', hc2, ht2⟩ := H2.out i u' hu'
                obtain ⟨k1, m1, s1, p1, n1, d1, rfl⟩ := ht1.four
                obtain ⟨k2, m2, s2, p2, n2, d2, rfl⟩ := ht2.four
                have hkw := Keeps.trans HK0.out HK.out
                have x0 := cell_keeps hkw (hc1 0 _ rfl)
                have x1 := cell_keeps hkw (hc1 1 _ rfl)
                have x2 := cell_keeps hkw (hc1 2 _ rfl)
                have x3 := cell_keeps hkw (hc1 3 _ rfl)
                have y0 := cell_keeps hkw (hc2 0 _ rfl)
                have y1 := cell_keeps hkw (hc2 1 _ rfl)
                have y2 := cell_keeps hkw (hc2 2 _ rfl)
                have y3 := cell_keeps hkw (hc2 3 _ rfl)
                have HKw := Lib.hid hkw
                have HU := Lib.hid hu
                have HU' := Lib.hid hu'
                have k6 : (i : Int) < args.length := by omega
                have k7 : (0 : Int) ≤ i := by omega
                have k8 : (i : Int) < args'.length := by omega
                have HI := Lib.hid (fun (W : World) (hW : Keeps wr W) => IH.out W A A' u u' _ _ (ht1.keep (keeps_hk (Keeps.trans hkw hW))) (ht2.keep (keeps_hk (Keeps.trans hkw hW))))
                clear hc1 hc2 hA hA' ht1 ht2 hkw hu hu'
                simp only [Nat.add_zero] at x0 y0
                go_wp2_with fail
                go_region_held3 (fun W' => W'.cell? ⟨w.heap.size, 3, none⟩ = some (.slice (some ⟨g, o, none⟩) args.length c) ∧ W'.cell? ⟨w.heap.size + 1, 3, none⟩ = some (.slice (some ⟨g', o', none⟩) args'.length c') ∧
                    W'.cell? ⟨g, o + i * 4, none⟩ = some (.int .i64 k1) ∧ W'.cell? ⟨g, o + i * 4 + 1, none⟩ = some (.int .i64 m1) ∧ W'.cell? ⟨g, o + i * 4 + 2, none⟩ = some (.string s1) ∧ W'.cell? ⟨g, o + i * 4 + 3, none⟩ = some (.slice p1 n1 d1) ∧
                    W'.cell? ⟨g', o' + i * 4, none⟩ = some (.int .i64 k2) ∧ W'.cell? ⟨g', o' + i * 4 + 1, none⟩ = some (.int .i64 m2) ∧ W'.cell? ⟨g', o' + i * 4 + 2, none⟩ = some (.string s2) ∧ W'.cell? ⟨g', o' + i * 4 + 3, none⟩ = some (.slice p2 n2 d2))
                  (first | exact ⟨a3, b3, x0, x1, x2, x3, y0, y1, y2, y3⟩ | exact ⟨cell_keeps hk2 a3, cell_keeps hk2 b3, cell_keeps hk2 x0, cell_keeps hk2 x1, cell_keeps hk2 x2, cell_keeps hk2 x3, cell_keeps hk2 y0, cell_keeps hk2 y1, cell_keeps hk2 y2, cell_keeps hk2 y3⟩)
                  (first | (go_at_call 31; refine (HI.out _ (Keeps.drew _)).mono ?_; rintro _ w2 ⟨rfl, hk2⟩))
                all_goals
                  cases huu : u.alike u'
                  · have hres : (RV.mk k m s args).alike (RV.mk k m s args') = false := by
                      rw [RV.alike, alikes_false HU.out HU'.out huu, Bool.and_false]
                    go_wp2_with fail
                    go_ret
                    exact ⟨by first | rfl | (rw [hres]; rfl), Keeps.trans HK0.out (Keeps.trans (Kept.drew HK.out) hk2)⟩
                  · go_wp2_with fail
                    go_roundw
                    case rel => exact ⟨i + 1, by omega, by rw [alikes_take HU.out HU'.out, HAL.out, huu]; rfl, by go_num, Keeps.trans (Kept.drew HK.out) hk2⟩
                    case measure => simp [intOf] <;> omega
              · obtain rfl : i = args.length := by omega
                have hres : (RV.mk k m s args).alike (RV.mk k m s args') = true := by
                  have h9 := HAL.out
                  rw [List.take_length, List.take_of_length_le (by have := HLL.out; omega)] at h9
                  rw [RV.alike, h9]; simp
                go_wp2_with fail
                go_ret
                exact ⟨by first | rfl | (rw [hres]; rfl), Keeps.trans HK0.out HK.out⟩
          · have hres : (RV.mk k m s args).alike (RV.mk k' m' s' args') = false := by (cases h9 : RV.alike (RV.mk k m s args) (RV.mk k' m' s' args') with
                | false => rfl
                | true =>
                  rw [RV.alike] at h9
                  rw [alikes_len hll, Bool.and_false] at h9
                  cases h9)
            have HR := Lib.hid hres
            clear hres
            have hln : (((args.length : Nat) : Int) != args'.length) = true := by (simp; omega)
            go_enter Tryz.func31, Tryz.ntmps31
            go_wp2_with fail
            all_goals
              go_ret
              exact ⟨by first | (rw [HR.out]; rfl) | (rw [HR.out]), Kept.alloc (Keeps.alloc _ _) _⟩
        · have hres : (RV.mk k m s args).alike (RV.mk k' m' s' args') = false := by rw [RV.alike]; simp [hss]
          have HR := Lib.hid hres
          clear hres
          have hsn : (s.toList == s'.toList) = false := by simpa using fun h => hss (toList_eq h)
          go_enter Tryz.func31, Tryz.ntmps31
          go_wp2_with fail
          all_goals
            go_ret
            exact ⟨by first | (rw [HR.out]; rfl) | (rw [HR.out]), Kept.alloc (Keeps.alloc _ _) _⟩
      · have hres : (RV.mk k m s args).alike (RV.mk k' m' s' args') = false := by rw [RV.alike]; simp [hmm]
        have HR := Lib.hid hres
        clear hres
        have hmn : (m != m') = true := by simpa using hmm
        go_enter Tryz.func31, Tryz.ntmps31
        go_wp2_with fail
        all_goals
          go_ret
          exact ⟨by first | (rw [HR.out]; rfl) | (rw [HR.out]), Kept.alloc (Keeps.alloc _ _) _⟩
    · have hres : (RV.mk k m s args).alike (RV.mk k' m' s' args') = false := by rw [RV.alike]; simp [hkk]
      have HR := Lib.hid hres
      clear hres
      have hkn : (k != k') = true := by simpa using hkk
      go_enter Tryz.func31, Tryz.ntmps31
      go_wp2_with fail
      all_goals
        go_ret
        exact ⟨by first | (rw [HR.out]; rfl) | (rw [HR.out]), Kept.alloc (Keeps.alloc _ _) _⟩
end Go.Proofs.YtfehlbepjmmkeaaGreatDoor
namespace Go.Proofs.YtfehlbepjmmkeaaGreatDoor
open Go.RowKit
/-- A valid value: formed and not too large. -/
def okR (t : RV) : Bool := decide (t.size ≤ 4000) && t.formed
/-- The code that a check answers. -/
def ckR (t : RV) : Int := if okR t = true then 0 else 121
/-- The size of a valid value. -/
def szR (t : RV) : Int := if okR t = true then (t.size : Int) else 0
theorem ckR_t {t : RV} (h : okR t = true) : ckR t = 0 := by rw [ckR, if_pos h]
theorem ckR_f {t : RV} (h : okR t = false) : ckR t = 121 := by rw [ckR, if_neg (by rw [h]; decide)]
theorem szR_t {t : RV} (h : okR t = true) : szR t = t.size := by rw [szR, if_pos h]
theorem szR_f {t : RV} (h : okR t = false) : szR t = 0 := by rw [szR, if_neg (by rw [h]; decide)]
set_option maxHeartbeats 4000000 in
theorem runValid_of (d : Nat) (w : World) (A : Nat → Prop) (t : RV) (cs : List Value) (h : RunAt w A d t cs) :
    Calls Tryz.prog 28 #[.agg cs.toArray] w fun e w' => e = .returned (.bool (okR t)) ∧ Keeps w w' := by
  obtain ⟨k, m, s, p, n, c, rfl⟩ := h.four
  have HC := Lib.hid (fun W (hW : Keeps w W) => countRun_of d W A t _ 4000 (h.keep (keeps_hk hW)) (Nat.le_refl _))
  have HF := Lib.hid (fun W (hW : Keeps w W) => runFormed_of d W A t _ (h.keep (keeps_hk hW)))
  clear h
  go_enter Tryz.func28, Tryz.ntmps28
  go_wp2_with (go_at_call 29; refine holdT ?_)
  refine Lib.hid ?_
  refine (HC.out _ (Keeps.alloc _ _)).mono ?_
  rintro _ w2 ⟨rfl, hk2⟩
  have c0 := heap_alloc_at w (.cells #[.int .i64 k, .int .i64 m, .string s, .slice p n c] 24)
  have c1 := hk2.at c0 (fun x => x)
  have a0 := cell_of_block c1 0
  have a1 := cell_of_block c1 1
  have a2 := cell_of_block c1 2
  have a3 := cell_of_block c1 3
  simp at a0 a1 a2 a3
  have hkw := Keeps.trans (Keeps.alloc _ _) hk2
  have HK := Lib.hid hkw
  clear c0 c1 hk2 hkw
  obtain ⟨z, hz⟩ : ∃ z, z = min t.size (4000 + 1) := ⟨_, rfl⟩
  rw [← hz]
  by_cases hs : t.size ≤ 4000
  · have hz' : (z : Int) ≤ 4000 := by omega
    have hok : okR t = t.formed := by simp [okR, hs]
    clear hz hs
    go_wp2_with (go_at_call 78; refine holdT ?_)
    refine Lib.hid ?_
    refine (HF.out _ HK.out).mono ?_
    rintro _ w3 ⟨rfl, hk3⟩
    have HK3 := Lib.hid (Keeps.trans HK.out hk3)
    clear hk3
    go_wp2_with fail
    go_ret
    exact ⟨by first | rfl | (rw [hok]; rfl), HK3.out⟩
  · have hz' : ¬ (z : Int) ≤ 4000 := by omega
    have hok : okR t = false := by simp [okR, hs]
    clear hz hs
    go_wp2_with fail
    go_ret
    exact ⟨by first | rfl | (rw [hok]; rfl), HK.out⟩
set_option maxHeartbeats 4000000 in
theorem refCheck_of (d : Nat) (w : World) (A : Nat → Prop) (t : RV) (cs : List Value) (h : RunAt w A d t cs) :
    Calls Tryz.prog 7 #[.agg cs.toArray] w fun e w' => e = .returned (.int .i64 (ckR t)) ∧ Keeps w w' := by
  obtain ⟨k, m, s, p, n, c, rfl⟩ := h.four
  have HC := Lib.hid (fun W (hW : Keeps w W) => runValid_of d W A t _ (h.keep (keeps_hk hW)))
  clear h
  go_enter Tryz.func7, Tryz.ntmps7
  go_wp2_with (go_at_call 28; refine holdT ?_)
  refine Lib.hid ?_
  refine (HC.out _ (Keeps.alloc _ _)).mono ?_
  rintro _ w2 ⟨rfl, hk2⟩
  have HK := Lib.hid (Keeps.trans (Keeps.alloc _ _) hk2)
  clear hk2
  cases hok : okR t
  · have hck := ckR_f hok
    go_wp2_with fail
    go_ret
    exact ⟨by first | rfl | (rw [hck]; rfl), HK.out⟩
  · have hck := ckR_t hok
    go_wp2_with fail
    go_ret
    exact ⟨by first | rfl | (rw [hck]; rfl), HK.out⟩
set_option maxHeartbeats 4000000 in
theorem refSize_of (d : Nat) (w : World) (A : Nat → Prop) (t : RV) (cs : List Value) (h : RunAt w A d t cs) :
    Calls Tryz.prog 9 #[.agg cs.toArray] w fun e w' => e = .returned (.int .i64 (szR t)) ∧ Keeps w w' := by
  obtain ⟨k, m, s, p, n, c, rfl⟩ := h.four
  have HC := Lib.hid (fun W (hW : Keeps w W) => runValid_of d W A t _ (h.keep (keeps_hk hW)))
  have HN := Lib.hid (fun W (hW : Keeps w W) => countRun_of d W A t _ 4000 (h.keep (keeps_hk hW)) (Nat.le_refl _))
  clear h
  go_enter Tryz.func9, Tryz.ntmps9
  go_wp2_with (go_at_call 28; refine holdT ?_)
  refine Lib.hid ?_
  refine (HC.out _ (Keeps.alloc _ _)).mono ?_
  rintro _ w2 ⟨rfl, hk2⟩
  have c0 := heap_alloc_at w (.cells #[.int .i64 k, .int .i64 m, .string s, .slice p n c] 24)
  have c1 := hk2.at c0 (fun x => x)
  have a0 := cell_of_block c1 0
  have a1 := cell_of_block c1 1
  have a2 := cell_of_block c1 2
  have a3 := cell_of_block c1 3
  simp at a0 a1 a2 a3
  have HK := Lib.hid (Keeps.trans (Keeps.alloc _ _) hk2)
  clear hk2 c0 c1
  cases hok : okR t
  · have hsz := szR_f hok
    go_wp2_with fail
    go_ret
    exact ⟨by first | rfl | (rw [hsz]; rfl), HK.out⟩
  · have hsz : t.size ≤ 4000 := by
      simp [okR] at hok; exact hok.1
    have HM : Hid (((min t.size (4000 + 1) : Nat) : Int) = t.size) := Lib.hid (by omega)
    have HO := Lib.hid hok
    clear hsz hok
    go_wp2_with (go_at_call 29; refine holdT ?_)
    refine Lib.hid ?_
    refine (HN.out _ HK.out).mono ?_
    rintro _ w3 ⟨rfl, hk3⟩
    rw [HM.out]
    have HK3 := Lib.hid (Keeps.trans HK.out hk3)
    clear hk3
    go_wp2_with fail
    go_ret
    exact ⟨by first | (rw [szR_t HO.out]; rfl) | (simp [szR_t HO.out]), HK3.out⟩
set_option maxHeartbeats 4000000 in
theorem refEqual_of (d : Nat) (w : World) (A A' : Nat → Prop) (t t' : RV) (cs cs' : List Value) (h : RunAt w A d t cs) (h' : RunAt w A' d t' cs') :
    Calls Tryz.prog 11 #[.agg cs.toArray, .agg cs'.toArray] w fun e w' => e = .returned (.bool (okR t && (okR t' && t.alike t'))) ∧ Keeps w w' := by
  obtain ⟨k, m, s, p, n, c, rfl⟩ := h.four
  obtain ⟨k', m', s', p', n', c', rfl⟩ := h'.four
  have HV := Lib.hid (fun W (hW : Keeps w W) => runValid_of d W A t _ (h.keep (keeps_hk hW)))
  have HV' := Lib.hid (fun W (hW : Keeps w W) => runValid_of d W A' t' _ (h'.keep (keeps_hk hW)))
  have HE := Lib.hid (fun W (hW : Keeps w W) => alikeRun_of d W A A' t t' _ _ (h.keep (keeps_hk hW)) (h'.keep (keeps_hk hW)))
  clear h h'
  obtain ⟨W0, hW0⟩ : ∃ W0, W0 = (w.alloc (.cells #[.int .i64 k, .int .i64 m, .string s, .slice p n c] 24)).alloc (.cells #[.int .i64 k', .int .i64 m', .string s', .slice p' n' c'] 24) := ⟨_, rfl⟩
  have hk0 : Keeps w W0 := by rw [hW0]; exact Kept.alloc (Keeps.alloc _ _) _
  have hb1 : W0.heap[w.heap.size]? = some (.cells #[.int .i64 k, .int .i64 m, .string s, .slice p n c] 24 (0, 0)) := by rw [hW0]; exact heap_alloc_old _ (heap_alloc_at _ _)
  have hb2 : W0.heap[w.heap.size + 1]? = some (.cells #[.int .i64 k', .int .i64 m', .string s', .slice p' n' c'] 24 (0, 0)) := by
    rw [hW0]
    have h9 := heap_alloc_at (w.alloc (.cells #[.int .i64 k, .int .i64 m, .string s, .slice p n c] 24)) (.cells #[.int .i64 k', .int .i64 m', .string s', .slice p' n' c'] 24)
    rw [World.size_alloc] at h9
    exact h9
  have HK0 := Lib.hid hk0
  have HB1 := Lib.hid hb1
  have HB2 := Lib.hid hb2
  clear hk0 hb1 hb2
  go_enter Tryz.func11, Tryz.ntmps11
  go_wp2_with (go_at_call 28; refine holdT ?_)
  refine Lib.hid ?_
  rw [← hW0]
  clear hW0
  refine (HV.out _ HK0.out).mono ?_
  rintro _ w2 ⟨rfl, hk2⟩
  have a0 := cell_of_block (hk2.at HB1.out (fun x => x)) 0
  have a1 := cell_of_block (hk2.at HB1.out (fun x => x)) 1
  have a2 := cell_of_block (hk2.at HB1.out (fun x => x)) 2
  have a3 := cell_of_block (hk2.at HB1.out (fun x => x)) 3
  have b0 := cell_of_block (hk2.at HB2.out (fun x => x)) 0
  have b1 := cell_of_block (hk2.at HB2.out (fun x => x)) 1
  have b2 := cell_of_block (hk2.at HB2.out (fun x => x)) 2
  have b3 := cell_of_block (hk2.at HB2.out (fun x => x)) 3
  simp at a0 a1 a2 a3 b0 b1 b2 b3
  have HK := Lib.hid (Keeps.trans HK0.out hk2)
  clear hk2
  cases hok : okR t
  · go_wp2_with fail
    go_ret
    exact ⟨by simp [hok], HK.out⟩
  · go_wp2_with (go_at_call 28; refine holdT ?_)
    refine Lib.hid ?_
    refine (HV'.out _ HK.out).mono ?_
    rintro _ w3 ⟨rfl, hk3⟩
    have e0 := cell_keeps hk3 a0
    have e1 := cell_keeps hk3 a1
    have e2 := cell_keeps hk3 a2
    have e3 := cell_keeps hk3 a3
    have f0 := cell_keeps hk3 b0
    have f1 := cell_keeps hk3 b1
    have f2 := cell_keeps hk3 b2
    have f3 := cell_keeps hk3 b3
    have HK3 := Lib.hid (Keeps.trans HK.out hk3)
    clear hk3
    cases hok' : okR t'
    · go_wp2_with fail
      go_ret
      exact ⟨by simp [hok'], HK3.out⟩
    · go_wp2_with (go_at_call 31; refine holdT ?_)
      refine Lib.hid ?_
      refine (HE.out _ HK3.out).mono ?_
      rintro _ w4 ⟨rfl, hk4⟩
      have HK4 := Lib.hid (Keeps.trans HK3.out hk4)
      clear hk4
      go_wp2_with fail
      go_ret
      exact ⟨by simp [hok, hok'], HK4.out⟩
end Go.Proofs.YtfehlbepjmmkeaaGreatDoor
namespace Go.Proofs
open Go.Shelf
def Tryz.lays137_ren : Go.Shelf.Ren := ⟨fun | 137 => 248 | 217 => 277 | 266 => 291 | n => n, fun | 9 => 9 | 5 => 5 | 3 => 3 | n => n, fun | n => n⟩
theorem Tryz.lays137 : Go.Proofs.Lays.n137 Tryz.prog Tryz.lays137_ren := {
  mixed := by kernel_rfl
  f137 := Tryz.func248.trans (congrArg some (by kernel_rfl))
  f217 := Tryz.func277.trans (congrArg some (by kernel_rfl))
  f266 := Tryz.func291.trans (congrArg some (by kernel_rfl))
  t3 := Tryz.underlying3
  a3 := Tryz.isAgg3
  z3 := Tryz.sizeOf3
  v3 := Tryz.zeroValue3
  t5 := Tryz.underlying5
  a5 := Tryz.isAgg5
  z5 := Tryz.sizeOf5
  v5 := Tryz.zeroValue5
  t9 := Tryz.underlying9
  a9 := Tryz.isAgg9
  z9 := Tryz.sizeOf9
  v9 := Tryz.zeroValue9 }
open Go.RowKit in
/-- strings.IndexByte: "IndexByte returns the index of the first instance of c in s, or -1 if c is not present in s.": IT RETURNS 'Lib.indexByte s c'; the world is as it was. (LAID: no walk: one application.) -/
theorem Tryz.strings_IndexByte (s : ByteArray) (c : Int) (w : World) :
    Calls Tryz.prog 248 #[.string s, .int .u8 c] w fun e w' => e = .returned (.int .i64 (Lib.indexByte s.data.toList c.toNat.toUInt8)) ∧ w' = w := Any.strings_IndexByte Tryz.lays137 s c w
end Go.Proofs
