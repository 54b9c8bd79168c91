/-
  DERIVED. The scanner's token. Condition: the scanner lies in memory; its text is short; the variables of the library are laid.
-/
import Derived.Test.YtfehlbepjmmkeaaGreatDoorJae
import Derived.Test.YtfehlbepjmmkeaaGreatDoorJaf
namespace Go.Proofs.YtfehlbepjmmkeaaGreatDoor
open Go.RowKit
theorem num_not_great {q : Int} (h : digitC q = true ∨ q = 126) : greatC q = false := by
  unfold digitC at h
  unfold greatC
  simp at h ⊢
  omega
theorem small_not_great {q : Int} (h : smallC q = true) : greatC q = false := by
  unfold smallC at h
  unfold greatC
  simp at h ⊢
  omega
set_option maxHeartbeats 16000000 in
set_option maxRecDepth 100000 in
theorem token_of (s : ByteArray) (i sb M m : Nat) (v : Value) (w : World) (h : w.heap[sb]? = some (scObj s i M v)) (hm : WordsAt w M m) (hv : Vars w) (hs : s.size ≤ 24) (hi : i < s.size) :
    Calls Tryz.prog 195 #[.pointer (some ⟨sb, 0, none⟩)] w fun e w' => ((∃ t n, e = .returned (.agg (Tk.cells t).toArray) ∧ TokAt s i t n) ∨ (greatC (byteC s i) = false ∧ ∃ a k, e = .panicked [wrongE a k] ∧ k ≠ 0)) ∧ Keeps w w' := by
  obtain ⟨q, hq⟩ : ∃ q, q = byteC s i := ⟨_, rfl⟩
  have hq0 : q = byteC s ((i : Int) + (0 : Int)) := by rw [hq, Int.add_zero]
  obtain ⟨wA, hwA⟩ : ∃ wA, wA = w.alloc (.cells #[.int .i64 0, .int .i64 0, .string ⟨#[]⟩, .int .i64 0] 213) := ⟨_, rfl⟩
  have hKA : Keeps w wA := by rw [hwA]; exact Keeps.alloc _ _
  have hA : wA.heap[w.heap.size]? = some (tokObj 0 ⟨#[]⟩ 0) := by rw [hwA]; exact heap_alloc_at _ _
  have hc : ∀ W, Keeps wA W → W.heap[sb]? = some (scObj s i M v) := fun W hW => (Keeps.trans hKA hW).at h (fun x => x)
  have c : ∀ W, Keeps wA W → W.cell? ⟨sb, 0, none⟩ = some (.string s) ∧ W.cell? ⟨sb, 1, none⟩ = some (.int .i64 i) := fun W hW => ⟨(sc_cells (hc W hW)).1, (sc_cells (hc W hW)).2.1⟩
  have hQ : ∀ W, Keeps wA W → Calls Tryz.prog 240 #[.pointer (some ⟨sb, 0, none⟩), .int .i64 0] W fun e w' => e = .returned (.int .u8 q) ∧ Keeps W w' := fun W hW => by
    rw [hq0]; exact peek_of s i 0 sb W (c W hW).1 (c W hW).2 (by omega) (by omega) (by omega) (by omega)
  have hN : ∀ W, Keeps wA W → digitC q = true ∨ q = 126 → Calls Tryz.prog 242 #[.pointer (some ⟨sb, 0, none⟩)] W fun e w' => ((∃ (n : Nat) (x : Int), 1 ≤ n ∧ i + n ≤ s.size ∧ e = .returned (.agg (Tk.cells ⟨1, x, s.extract i (i + n), i⟩).toArray)) ∨ ∃ a k, e = .panicked [wrongE a k] ∧ k ≠ 0) ∧ Keeps W w' := fun W hW hp =>
    scNumber_of s i sb M v W (hc W hW) (hv.keep (Keeps.trans hKA hW)) hs hi (hq ▸ hp)
  have hNm : ∀ W (kind : Int), Keeps wA W → partC q = true → Calls Tryz.prog 244 #[.pointer (some ⟨sb, 0, none⟩), .int .i64 kind] W fun e w' => (∃ k : Int, e = .returned (.agg (Tk.cells ⟨k, 0, s.extract i (i + nameLen s i), i⟩).toArray) ∧ (k = kind ∨ k = 5) ∧ (greatC q = true → k = kind)) ∧ Keeps W w' := fun W kind hW hp => by
    rw [hq]; exact name_of s i sb M m kind v W (hc W hW) (hm.keep (Keeps.trans hKA hW) (fun x => x)) hs hi (hq ▸ hp)
  have hMd : ∀ W (kind : Int) (n : Nat), Keeps wA W → i + n ≤ s.size → Calls Tryz.prog 246 #[.pointer (some ⟨sb, 0, none⟩), .int .i64 kind, .int .i64 n] W fun e w' => e = .returned (.agg (Tk.cells ⟨kind, 0, s.extract i (i + n), i⟩).toArray) ∧ Keeps W w' := fun W kind n hW hn =>
    made_of s i n sb M kind v W (hc W hW) hs hn
  have hSt : ∀ W (p : ByteArray), Keeps wA W → Calls Tryz.prog 238 #[.pointer (some ⟨sb, 0, none⟩), .string p] W fun e w' => e = .returned (.bool (hpB (s.extract i s.size) p)) ∧ Keeps W w' := fun W p hW =>
    starts_of s p i sb W (c W hW).1 (c W hW).2 (Nat.le_of_lt hi)
  obtain ⟨q1, hq1⟩ : ∃ q1, q1 = byteC s ((i : Int) + 1) := ⟨_, rfl⟩
  have hQ1 : ∀ W, Keeps wA W → Calls Tryz.prog 240 #[.pointer (some ⟨sb, 0, none⟩), .int .i64 1] W fun e w' => e = .returned (.int .u8 q1) ∧ Keeps W w' := fun W hW => by
    rw [hq1]; exact peek_of s i 1 sb W (c W hW).1 (c W hW).2 (by omega) (by omega) (by omega) (by omega)
  obtain ⟨rp, hrp⟩ : ∃ rp, rp = runC partC s (i + 1) := ⟨_, rfl⟩
  have hrl : i + 1 + rp ≤ s.size := by have := runC_le partC s (i + 1); omega
  have hP : ∀ W, Keeps wA W → Calls Tryz.prog 236 #[.pointer (some ⟨sb, 0, none⟩), .int .i64 1, .func (.func 247) #[] #[]] W fun e w' => e = .returned (.int .i64 rp) ∧ Keeps W w' := fun W hW => by
    have := runPart_of s i 1 sb W (c W hW).1 (c W hW).2 (by omega) (by omega) (by omega)
    rw [hrp]; exact this
  have HC := Lib.hid c
  have HQ := Lib.hid hQ
  have HQ1 := Lib.hid hQ1
  have HN := Lib.hid hN
  have HNm := Lib.hid hNm
  have HMd := Lib.hid hMd
  have HSt := Lib.hid hSt
  have HP := Lib.hid hP
  have HA := Lib.hid hA
  have HKA := Lib.hid hKA
  have Hq := Lib.hid hq
  have hszA : w.heap.size < wA.heap.size := heap_lt hA
  clear c hQ hN hNm hMd hSt hP hQ1 hq hq0 hrp hq1 h hv hm hA hKA hc
  have hK : Keeps wA wA := Keeps.refl _
  go_enter Tryz.func195, Tryz.ntmps195
  go_wp2_with (go_at_call 240; refine holdL ?_)
  refine Lib.hid ?_
  rw [← hwA]
  refine (HQ.out _ hK).mono ?_
  rintro _ w2 ⟨rfl, hk2⟩
  replace hK := Keeps.trans hK hk2
  clear hk2
  cases hd : digitC q with
  | true =>
    have hnum : digitC q = true ∨ q = 126 := .inl hd
    go_wp2_with (go_at_call 241; refine holdL ?_)
    refine Lib.hid ?_
    refine (isDigit_of q _).mono ?_
    rintro _ w9 ⟨rfl, hw9⟩
    rw [hw9, hd]
    clear hw9 w9
    go_wp2_with (go_at_call 242; refine holdL ?_)
    refine Lib.hid ?_
    refine (HN.out _ hK hnum).mono ?_
    rintro _ w3 ⟨(⟨n, x, hn1, hn2, rfl⟩ | ⟨a, k, rfl, hk0⟩), hk3⟩
    · replace hK := Keeps.trans hK hk3
      have hA5 : w3.heap[w.heap.size]? = some (tokObj 0 ⟨#[]⟩ 0) := hK.at HA.out (fun x => x)
      obtain ⟨x0, x1, x2, x3⟩ := tok_cells hA5
      have y0 := tok_free hA5 0
      have y1 := tok_free hA5 1
      have y2 := tok_free hA5 2
      have y3 := tok_free hA5 3
      simp only [Tk.cells]
      go_wp2_with fail
      refine bodyPost_ret (num_results rfl _ _ w.heap.size rfl (put_num hA5 1 x _ i)) rfl ⟨.inl ⟨_, n, rfl, hn1, hn2, rfl, (fun h => absurd h (by decide : ¬ (1 : Int) = 3)), fun h => ?_⟩, keeps_put (keeps_put (keeps_put (keeps_put (Keeps.trans HKA.out hK) (Nat.le_refl _) 0 _) (Nat.le_refl _) 1 _) (Nat.le_refl _) 2 _) (Nat.le_refl _) 3 _⟩
      rw [← Hq.out] at h
      rw [num_not_great hnum] at h; cases h
    · replace hK := Keeps.trans hK hk3
      exact ⟨rfl, .inr ⟨by rw [← Hq.out]; exact num_not_great hnum, a, k, rfl, hk0⟩, Keeps.trans HKA.out hK⟩
  | false =>
    by_cases h126 : q = 126
    · have hnum : digitC q = true ∨ q = 126 := .inr h126
      have hqb : (q == 126) = true := by simp [h126]
      clear h126
      go_wp2_with (go_at_call 241; refine holdL ?_)
      refine Lib.hid ?_
      refine (isDigit_of q _).mono ?_
      rintro _ w9 ⟨rfl, hw9⟩
      rw [hw9, hd]
      clear hw9 w9
      go_wp2_with (go_at_call 242; refine holdL ?_)
      refine Lib.hid ?_
      refine (HN.out _ hK hnum).mono ?_
      rintro _ w3 ⟨(⟨n, x, hn1, hn2, rfl⟩ | ⟨a, k, rfl, hk0⟩), hk3⟩
      · replace hK := Keeps.trans hK hk3
        have hA5 : w3.heap[w.heap.size]? = some (tokObj 0 ⟨#[]⟩ 0) := hK.at HA.out (fun x => x)
        obtain ⟨x0, x1, x2, x3⟩ := tok_cells hA5
        have y0 := tok_free hA5 0
        have y1 := tok_free hA5 1
        have y2 := tok_free hA5 2
        have y3 := tok_free hA5 3
        simp only [Tk.cells]
        go_wp2_with fail
        refine bodyPost_ret (num_results rfl _ _ w.heap.size rfl (put_num hA5 1 x _ i)) rfl ⟨.inl ⟨_, n, rfl, hn1, hn2, rfl, (fun h => absurd h (by decide : ¬ (1 : Int) = 3)), fun h => ?_⟩, keeps_put (keeps_put (keeps_put (keeps_put (Keeps.trans HKA.out hK) (Nat.le_refl _) 0 _) (Nat.le_refl _) 1 _) (Nat.le_refl _) 2 _) (Nat.le_refl _) 3 _⟩
        rw [← Hq.out] at h
        rw [num_not_great hnum] at h; cases h
      · replace hK := Keeps.trans hK hk3
        exact ⟨rfl, .inr ⟨by rw [← Hq.out]; exact num_not_great hnum, a, k, rfl, hk0⟩, Keeps.trans HKA.out hK⟩
    · have hqb : (q == 126) = false := by simp [h126]
      clear h126
      cases hsm : smallC q with
      | true =>
        have hpt : partC q = true := by simp [partC, hsm]
        have hgr : greatC q = false := small_not_great hsm
        go_wp2_with (go_at_call 241; refine holdL ?_)
        refine Lib.hid ?_
        refine (isDigit_of q _).mono ?_
        rintro _ w9 ⟨rfl, hw9⟩
        rw [hw9, hd]
        clear hw9 w9
        go_wp2_with (go_at_call 243; refine holdL ?_)
        refine Lib.hid ?_
        refine (isSmall_of q _).mono ?_
        rintro _ w9 ⟨rfl, hw9⟩
        rw [hw9, hsm]
        clear hw9 w9
        go_wp2_with (go_at_call 244; refine holdL ?_)
        refine Lib.hid ?_
        refine (HNm.out _ 2 hK hpt).mono ?_
        rintro _ w3 ⟨⟨k, rfl, hkk, hkg⟩, hk3⟩
        replace hK := Keeps.trans hK hk3
        have hA5 : w3.heap[w.heap.size]? = some (tokObj 0 ⟨#[]⟩ 0) := hK.at HA.out (fun x => x)
        obtain ⟨x0, x1, x2, x3⟩ := tok_cells hA5
        have y0 := tok_free hA5 0
        have y1 := tok_free hA5 1
        have y2 := tok_free hA5 2
        have y3 := tok_free hA5 3
        simp only [Tk.cells]
        go_wp2_with fail
        refine bodyPost_ret (num_results rfl _ _ w.heap.size rfl (put_num hA5 k 0 _ i)) rfl ⟨.inl ⟨_, nameLen s i, rfl, nameLen_pos (by rw [← Hq.out]; exact hpt) hi, nameLen_le s i (Nat.le_of_lt hi), rfl, ?_, ?_⟩, keeps_put (keeps_put (keeps_put (keeps_put (Keeps.trans HKA.out hK) (Nat.le_refl _) 0 _) (Nat.le_refl _) 1 _) (Nat.le_refl _) 2 _) (Nat.le_refl _) 3 _⟩
        · intro h3
          exfalso
          have h4 : k = 3 := h3
          rcases hkk with h | h <;> omega
        · intro h
          rw [← Hq.out, hgr] at h; cases h
      | false =>
        cases hgr : greatC q with
        | true =>
          have hpt : partC q = true := great_part hgr
          go_wp2_with (go_at_call 241; refine holdL ?_)
          refine Lib.hid ?_
          refine (isDigit_of q _).mono ?_
          rintro _ w9 ⟨rfl, hw9⟩
          rw [hw9, hd]
          clear hw9 w9
          go_wp2_with (go_at_call 243; refine holdL ?_)
          refine Lib.hid ?_
          refine (isSmall_of q _).mono ?_
          rintro _ w9 ⟨rfl, hw9⟩
          rw [hw9, hsm]
          clear hw9 w9
          go_wp2_with (go_at_call 245; refine holdL ?_)
          refine Lib.hid ?_
          refine (isGreat_of q _).mono ?_
          rintro _ w9 ⟨rfl, hw9⟩
          rw [hw9, hgr]
          clear hw9 w9
          go_wp2_with (go_at_call 244; refine holdL ?_)
          refine Lib.hid ?_
          refine (HNm.out _ 3 hK hpt).mono ?_
          rintro _ w3 ⟨⟨k, rfl, hkk, hkg⟩, hk3⟩
          replace hK := Keeps.trans hK hk3
          obtain rfl : k = 3 := hkg hgr
          clear hkk hkg
          have hA5 : w3.heap[w.heap.size]? = some (tokObj 0 ⟨#[]⟩ 0) := hK.at HA.out (fun x => x)
          obtain ⟨x0, x1, x2, x3⟩ := tok_cells hA5
          have y0 := tok_free hA5 0
          have y1 := tok_free hA5 1
          have y2 := tok_free hA5 2
          have y3 := tok_free hA5 3
          simp only [Tk.cells]
          go_wp2_with fail
          refine bodyPost_ret (num_results rfl _ _ w.heap.size rfl (put_num hA5 3 0 _ i)) rfl ⟨.inl ⟨_, nameLen s i, rfl, nameLen_pos (by rw [← Hq.out]; exact hpt) hi, nameLen_le s i (Nat.le_of_lt hi), rfl, ?_, ?_⟩, keeps_put (keeps_put (keeps_put (keeps_put (Keeps.trans HKA.out hK) (Nat.le_refl _) 0 _) (Nat.le_refl _) 1 _) (Nat.le_refl _) 2 _) (Nat.le_refl _) 3 _⟩
          · exact fun _ => ⟨by rw [← Hq.out]; exact hgr, rfl⟩
          · exact fun _ => rfl
        | false =>
          go_wp2_with (go_at_call 241; refine holdL ?_)
          refine Lib.hid ?_
          refine (isDigit_of q _).mono ?_
          rintro _ w9 ⟨rfl, hw9⟩
          rw [hw9, hd]
          clear hw9 w9
          go_wp2_with (go_at_call 243; refine holdL ?_)
          refine Lib.hid ?_
          refine (isSmall_of q _).mono ?_
          rintro _ w9 ⟨rfl, hw9⟩
          rw [hw9, hsm]
          clear hw9 w9
          go_wp2_with (go_at_call 245; refine holdL ?_)
          refine Lib.hid ?_
          refine (isGreat_of q _).mono ?_
          rintro _ w9 ⟨rfl, hw9⟩
          rw [hw9, hgr]
          clear hw9 w9
          by_cases hq39 : q = 39
          · have hqb2 : (q == 39) = true := by simp [hq39]
            clear hq39
            cases hs0 : smallC q1 with
            | true =>
              go_wp2_with (go_at_call 240; refine holdL ?_)
              refine Lib.hid ?_
              refine (HQ1.out _ hK).mono ?_
              rintro _ w3 ⟨rfl, hk3⟩
              replace hK := Keeps.trans hK hk3
              clear hk3
              go_wp2_with (go_at_call 243; refine holdL ?_)
              refine Lib.hid ?_
              refine (isSmall_of q1 _).mono ?_
              rintro _ w9 ⟨rfl, hw9⟩
              rw [hw9, hs0]
              clear hw9 w9
              go_wp2_with (go_at_call 236; refine holdL ?_)
              refine Lib.hid ?_
              refine (HP.out _ hK).mono ?_
              rintro _ w4 ⟨rfl, hk3⟩
              replace hK := Keeps.trans hK hk3
              clear hk3
              have hwr : IntKind.i64.wrap ((1 : Int) + rp) = 1 + rp := by rw [IntKind.wrap_i64]; omega
              go_wp2_with (go_at_call 246; refine holdL ?_)
              refine Lib.hid ?_
              rw [show (1 : Int) + rp = ((1 + rp : Nat) : Int) by omega]
              refine (HMd.out _ 4 (1 + rp) hK (by omega)).mono ?_
              rintro _ w3 ⟨rfl, hk3⟩
              replace hK := Keeps.trans hK hk3
              have hA5 : w3.heap[w.heap.size]? = some (tokObj 0 ⟨#[]⟩ 0) := hK.at HA.out (fun x => x)
              obtain ⟨x0, x1, x2, x3⟩ := tok_cells hA5
              have y0 := tok_free hA5 0
              have y1 := tok_free hA5 1
              have y2 := tok_free hA5 2
              have y3 := tok_free hA5 3
              simp only [Tk.cells]
              go_wp2_with fail
              refine bodyPost_ret (num_results rfl _ _ w.heap.size rfl (put_num hA5 4 0 _ i)) rfl ⟨.inl ⟨_, (1 + rp), rfl, by omega, (by omega), rfl, (fun h => absurd h (by decide : ¬ (4 : Int) = 3)), fun h => ?_⟩, keeps_put (keeps_put (keeps_put (keeps_put (Keeps.trans HKA.out hK) (Nat.le_refl _) 0 _) (Nat.le_refl _) 1 _) (Nat.le_refl _) 2 _) (Nat.le_refl _) 3 _⟩
              rw [← Hq.out, hgr] at h; cases h
            | false =>
              go_wp2_with (go_at_call 240; refine holdL ?_)
              refine Lib.hid ?_
              refine (HQ1.out _ hK).mono ?_
              rintro _ w3 ⟨rfl, hk3⟩
              replace hK := Keeps.trans hK hk3
              clear hk3
              go_wp2_with (go_at_call 243; refine holdL ?_)
              refine Lib.hid ?_
              refine (isSmall_of q1 _).mono ?_
              rintro _ w9 ⟨rfl, hw9⟩
              rw [hw9, hs0]
              clear hw9 w9
              cases hs1 : hpB (s.extract i s.size) ⟨#[61, 62]⟩ with
              | true =>
                go_wp2_with (go_at_call 238; refine holdL ?_)
                refine Lib.hid ?_
                refine (HSt.out _ ⟨#[61, 62]⟩ hK).mono ?_
                rintro _ w4 ⟨rfl, hk3⟩
                replace hK := Keeps.trans hK hk3
                clear hk3
                rw [hs1]
                have hle2 : i + 2 ≤ s.size := by have := (prefix_first (p := ⟨#[61, 62]⟩) (Nat.le_of_lt hi) (by decide) hs1).1; exact this
                go_wp2_with (go_at_call 246; refine holdL ?_)
                refine Lib.hid ?_
                refine (HMd.out _ 6 2 hK hle2).mono ?_
                rintro _ w3 ⟨rfl, hk3⟩
                replace hK := Keeps.trans hK hk3
                have hA5 : w3.heap[w.heap.size]? = some (tokObj 0 ⟨#[]⟩ 0) := hK.at HA.out (fun x => x)
                obtain ⟨x0, x1, x2, x3⟩ := tok_cells hA5
                have y0 := tok_free hA5 0
                have y1 := tok_free hA5 1
                have y2 := tok_free hA5 2
                have y3 := tok_free hA5 3
                simp only [Tk.cells]
                go_wp2_with fail
                refine bodyPost_ret (num_results rfl _ _ w.heap.size rfl (put_num hA5 6 0 _ i)) rfl ⟨.inl ⟨_, 2, rfl, by omega, hle2, rfl, (fun h => absurd h (by decide : ¬ (6 : Int) = 3)), fun h => ?_⟩, keeps_put (keeps_put (keeps_put (keeps_put (Keeps.trans HKA.out hK) (Nat.le_refl _) 0 _) (Nat.le_refl _) 1 _) (Nat.le_refl _) 2 _) (Nat.le_refl _) 3 _⟩
                rw [← Hq.out, hgr] at h; cases h
              | false =>
                go_wp2_with (go_at_call 238; refine holdL ?_)
                refine Lib.hid ?_
                refine (HSt.out _ ⟨#[61, 62]⟩ hK).mono ?_
                rintro _ w4 ⟨rfl, hk3⟩
                replace hK := Keeps.trans hK hk3
                clear hk3
                rw [hs1]
                cases hs2 : hpB (s.extract i s.size) ⟨#[45, 62]⟩ with
                | true =>
                  go_wp2_with (go_at_call 238; refine holdL ?_)
                  refine Lib.hid ?_
                  refine (HSt.out _ ⟨#[45, 62]⟩ hK).mono ?_
                  rintro _ w5 ⟨rfl, hk3⟩
                  replace hK := Keeps.trans hK hk3
                  clear hk3
                  rw [hs2]
                  have hle2 : i + 2 ≤ s.size := by have := (prefix_first (p := ⟨#[45, 62]⟩) (Nat.le_of_lt hi) (by decide) hs2).1; exact this
                  go_wp2_with (go_at_call 246; refine holdL ?_)
                  refine Lib.hid ?_
                  refine (HMd.out _ 6 2 hK hle2).mono ?_
                  rintro _ w3 ⟨rfl, hk3⟩
                  replace hK := Keeps.trans hK hk3
                  have hA5 : w3.heap[w.heap.size]? = some (tokObj 0 ⟨#[]⟩ 0) := hK.at HA.out (fun x => x)
                  obtain ⟨x0, x1, x2, x3⟩ := tok_cells hA5
                  have y0 := tok_free hA5 0
                  have y1 := tok_free hA5 1
                  have y2 := tok_free hA5 2
                  have y3 := tok_free hA5 3
                  simp only [Tk.cells]
                  go_wp2_with fail
                  refine bodyPost_ret (num_results rfl _ _ w.heap.size rfl (put_num hA5 6 0 _ i)) rfl ⟨.inl ⟨_, 2, rfl, by omega, hle2, rfl, (fun h => absurd h (by decide : ¬ (6 : Int) = 3)), fun h => ?_⟩, keeps_put (keeps_put (keeps_put (keeps_put (Keeps.trans HKA.out hK) (Nat.le_refl _) 0 _) (Nat.le_refl _) 1 _) (Nat.le_refl _) 2 _) (Nat.le_refl _) 3 _⟩
                  rw [← Hq.out, hgr] at h; cases h
                | false =>
                  go_wp2_with (go_at_call 238; refine holdL ?_)
                  refine Lib.hid ?_
                  refine (HSt.out _ ⟨#[45, 62]⟩ hK).mono ?_
                  rintro _ w5 ⟨rfl, hk3⟩
                  replace hK := Keeps.trans hK hk3
                  clear hk3
                  rw [hs2]
                  go_wp2_with (go_at_call 248; refine holdL ?_)
                  refine Lib.hid ?_
                  refine (Tryz.strings_IndexByte _ _ _).mono ?_
                  rintro _ w9 ⟨rfl, hw9⟩
                  rw [hw9]
                  clear hw9 w9
                  obtain ⟨ix, hix⟩ : ∃ ix, ix = Lib.indexByte (⟨#[40, 41, 44, 59, 58, 124, 61, 60, 43, 45, 42, 47, 37, 95]⟩ : ByteArray).data.toList q.toNat.toUInt8 := ⟨_, rfl⟩
                  rw [← hix]
                  clear hix
                  by_cases h0 : 0 ≤ ix
                  · go_wp2_with (go_at_call 246; refine holdL ?_)
                    refine Lib.hid ?_
                    refine (HMd.out _ 6 1 hK (by omega)).mono ?_
                    rintro _ w3 ⟨rfl, hk3⟩
                    replace hK := Keeps.trans hK hk3
                    have hA5 : w3.heap[w.heap.size]? = some (tokObj 0 ⟨#[]⟩ 0) := hK.at HA.out (fun x => x)
                    obtain ⟨x0, x1, x2, x3⟩ := tok_cells hA5
                    have y0 := tok_free hA5 0
                    have y1 := tok_free hA5 1
                    have y2 := tok_free hA5 2
                    have y3 := tok_free hA5 3
                    simp only [Tk.cells]
                    go_wp2_with fail
                    refine bodyPost_ret (num_results rfl _ _ w.heap.size rfl (put_num hA5 6 0 _ i)) rfl ⟨.inl ⟨_, 1, rfl, by omega, (by omega), rfl, (fun h => absurd h (by decide : ¬ (6 : Int) = 3)), fun h => ?_⟩, keeps_put (keeps_put (keeps_put (keeps_put (Keeps.trans HKA.out hK) (Nat.le_refl _) 0 _) (Nat.le_refl _) 1 _) (Nat.le_refl _) 2 _) (Nat.le_refl _) 3 _⟩
                    rw [← Hq.out, hgr] at h; cases h
                  · obtain ⟨c0, c1⟩ := HC.out _ hK
                    go_wp2_with fail
                    exact ⟨rfl, .inr ⟨by rw [← Hq.out]; exact hgr, _, _, rfl, by decide⟩, Keeps.trans HKA.out hK⟩
          · have hqb2 : (q == 39) = false := by simp [hq39]
            clear hq39
            cases hs1 : hpB (s.extract i s.size) ⟨#[61, 62]⟩ with
            | true =>
              go_wp2_with (go_at_call 238; refine holdL ?_)
              refine Lib.hid ?_
              refine (HSt.out _ ⟨#[61, 62]⟩ hK).mono ?_
              rintro _ w4 ⟨rfl, hk3⟩
              replace hK := Keeps.trans hK hk3
              clear hk3
              rw [hs1]
              have hle2 : i + 2 ≤ s.size := by have := (prefix_first (p := ⟨#[61, 62]⟩) (Nat.le_of_lt hi) (by decide) hs1).1; exact this
              go_wp2_with (go_at_call 246; refine holdL ?_)
              refine Lib.hid ?_
              refine (HMd.out _ 6 2 hK hle2).mono ?_
              rintro _ w3 ⟨rfl, hk3⟩
              replace hK := Keeps.trans hK hk3
              have hA5 : w3.heap[w.heap.size]? = some (tokObj 0 ⟨#[]⟩ 0) := hK.at HA.out (fun x => x)
              obtain ⟨x0, x1, x2, x3⟩ := tok_cells hA5
              have y0 := tok_free hA5 0
              have y1 := tok_free hA5 1
              have y2 := tok_free hA5 2
              have y3 := tok_free hA5 3
              simp only [Tk.cells]
              go_wp2_with fail
              refine bodyPost_ret (num_results rfl _ _ w.heap.size rfl (put_num hA5 6 0 _ i)) rfl ⟨.inl ⟨_, 2, rfl, by omega, hle2, rfl, (fun h => absurd h (by decide : ¬ (6 : Int) = 3)), fun h => ?_⟩, keeps_put (keeps_put (keeps_put (keeps_put (Keeps.trans HKA.out hK) (Nat.le_refl _) 0 _) (Nat.le_refl _) 1 _) (Nat.le_refl _) 2 _) (Nat.le_refl _) 3 _⟩
              rw [← Hq.out, hgr] at h; cases h
            | false =>
              go_wp2_with (go_at_call 238; refine holdL ?_)
              refine Lib.hid ?_
              refine (HSt.out _ ⟨#[61, 62]⟩ hK).mono ?_
              rintro _ w4 ⟨rfl, hk3⟩
              replace hK := Keeps.trans hK hk3
              clear hk3
              rw [hs1]
              cases hs2 : hpB (s.extract i s.size) ⟨#[45, 62]⟩ with
              | true =>
                go_wp2_with (go_at_call 238; refine holdL ?_)
                refine Lib.hid ?_
                refine (HSt.out _ ⟨#[45, 62]⟩ hK).mono ?_
                rintro _ w5 ⟨rfl, hk3⟩
                replace hK := Keeps.trans hK hk3
                clear hk3
                rw [hs2]
                have hle2 : i + 2 ≤ s.size := by have := (prefix_first (p := ⟨#[45, 62]⟩) (Nat.le_of_lt hi) (by decide) hs2).1; exact this
                go_wp2_with (go_at_call 246; refine holdL ?_)
                refine Lib.hid ?_
                refine (HMd.out _ 6 2 hK hle2).mono ?_
                rintro _ w3 ⟨rfl, hk3⟩
                replace hK := Keeps.trans hK hk3
                have hA5 : w3.heap[w.heap.size]? = some (tokObj 0 ⟨#[]⟩ 0) := hK.at HA.out (fun x => x)
                obtain ⟨x0, x1, x2, x3⟩ := tok_cells hA5
                have y0 := tok_free hA5 0
                have y1 := tok_free hA5 1
                have y2 := tok_free hA5 2
                have y3 := tok_free hA5 3
                simp only [Tk.cells]
                go_wp2_with fail
                refine bodyPost_ret (num_results rfl _ _ w.heap.size rfl (put_num hA5 6 0 _ i)) rfl ⟨.inl ⟨_, 2, rfl, by omega, hle2, rfl, (fun h => absurd h (by decide : ¬ (6 : Int) = 3)), fun h => ?_⟩, keeps_put (keeps_put (keeps_put (keeps_put (Keeps.trans HKA.out hK) (Nat.le_refl _) 0 _) (Nat.le_refl _) 1 _) (Nat.le_refl _) 2 _) (Nat.le_refl _) 3 _⟩
                rw [← Hq.out, hgr] at h; cases h
              | false =>
                go_wp2_with (go_at_call 238; refine holdL ?_)
                refine Lib.hid ?_
                refine (HSt.out _ ⟨#[45, 62]⟩ hK).mono ?_
                rintro _ w5 ⟨rfl, hk3⟩
                replace hK := Keeps.trans hK hk3
                clear hk3
                rw [hs2]
                go_wp2_with (go_at_call 248; refine holdL ?_)
                refine Lib.hid ?_
                refine (Tryz.strings_IndexByte _ _ _).mono ?_
                rintro _ w9 ⟨rfl, hw9⟩
                rw [hw9]
                clear hw9 w9
                obtain ⟨ix, hix⟩ : ∃ ix, ix = Lib.indexByte (⟨#[40, 41, 44, 59, 58, 124, 61, 60, 43, 45, 42, 47, 37, 95]⟩ : ByteArray).data.toList q.toNat.toUInt8 := ⟨_, rfl⟩
                rw [← hix]
                clear hix
                by_cases h0 : 0 ≤ ix
                · go_wp2_with (go_at_call 246; refine holdL ?_)
                  refine Lib.hid ?_
                  refine (HMd.out _ 6 1 hK (by omega)).mono ?_
                  rintro _ w3 ⟨rfl, hk3⟩
                  replace hK := Keeps.trans hK hk3
                  have hA5 : w3.heap[w.heap.size]? = some (tokObj 0 ⟨#[]⟩ 0) := hK.at HA.out (fun x => x)
                  obtain ⟨x0, x1, x2, x3⟩ := tok_cells hA5
                  have y0 := tok_free hA5 0
                  have y1 := tok_free hA5 1
                  have y2 := tok_free hA5 2
                  have y3 := tok_free hA5 3
                  simp only [Tk.cells]
                  go_wp2_with fail
                  refine bodyPost_ret (num_results rfl _ _ w.heap.size rfl (put_num hA5 6 0 _ i)) rfl ⟨.inl ⟨_, 1, rfl, by omega, (by omega), rfl, (fun h => absurd h (by decide : ¬ (6 : Int) = 3)), fun h => ?_⟩, keeps_put (keeps_put (keeps_put (keeps_put (Keeps.trans HKA.out hK) (Nat.le_refl _) 0 _) (Nat.le_refl _) 1 _) (Nat.le_refl _) 2 _) (Nat.le_refl _) 3 _⟩
                  rw [← Hq.out, hgr] at h; cases h
                · obtain ⟨c0, c1⟩ := HC.out _ hK
                  go_wp2_with fail
                  exact ⟨rfl, .inr ⟨by rw [← Hq.out]; exact hgr, _, _, rfl, by decide⟩, Keeps.trans HKA.out hK⟩
end Go.Proofs.YtfehlbepjmmkeaaGreatDoor
