/-
  DERIVED. The scanner's number. Condition: the scanner lies in memory; its text is short; the variables of the library are laid.
-/
import Derived.Test.YtfehlbepjmmkeaaGreatDoorJac
import Derived.Test.YtfehlbepjmmkeaaGreatDoorJad
import Derived.Test.YtfehlbepjmmkeaaGreatDoorJaa
import Derived.Laws.ResultCell
namespace Go.Proofs.YtfehlbepjmmkeaaGreatDoor
open Go.RowKit
/-- A token with a number as a block. -/
def numObj (k n : Int) (tx : ByteArray) (i : Int) : Obj := .cells #[.int .i64 k, .int .i64 n, .string tx, .int .i64 i] 213 (0, 0)
theorem put_num {W : World} {p : Nat} {k0 i0 : Int} {tx0 : ByteArray} (h : W.heap[p]? = some (tokObj k0 tx0 i0)) (k n : Int) (tx : ByteArray) (i : Int) :
    ((((W.setCell ⟨p, 0, none⟩ (.int .i64 k)).setCell ⟨p, 1, none⟩ (.int .i64 n)).setCell ⟨p, 2, none⟩ (.string tx)).setCell ⟨p, 3, none⟩ (.int .i64 i)).heap[p]? = some (numObj k n tx i) := by
  unfold tokObj at h
  unfold numObj
  rw [heap_set_same (heap_set_same (heap_set_same (heap_set_same h _) _) _) _]; rfl
theorem num_results {fn : Func} {p : Tmp} {k n i : Int} {tx : ByteArray} (h : fn.results = #[.cell p 213]) (tmps : Array Value) (w : World) (g : Nat) (hp : tmps.getD p undef = .pointer (some ⟨g, 0, none⟩)) (hg : w.heap[g]? = some (numObj k n tx i)) :
    (results fn tmps).run Tryz.prog w = .ok (.agg (Tk.cells ⟨k, n, tx, i⟩).toArray) w :=
  results_cell_row h tmps w g 213 _ _ _ hp hg Tryz.underlying213 rfl size213
set_option maxHeartbeats 8000000 in
set_option maxRecDepth 100000 in
theorem scNumber_of (s : ByteArray) (i sb M : Nat) (v : Value) (w : World) (h : w.heap[sb]? = some (scObj s i M v)) (hv : Vars w) (hs : s.size ≤ 24) (hi : i < s.size) (hp : digitC (byteC s i) = true ∨ byteC s i = 126) :
    Calls Tryz.prog 242 #[.pointer (some ⟨sb, 0, none⟩)] w fun e w' => ((∃ (n : Nat) (x : Int), 1 ≤ n ∧ i + n ≤ s.size ∧ e = .returned (.agg (Tk.cells ⟨1, x, s.extract i (i + n), i⟩).toArray)) ∨ ∃ a k, e = .panicked [wrongE a k] ∧ k ≠ 0) ∧ Keeps w w' := by
  obtain ⟨q, hq⟩ : ∃ q, q = byteC s ((i : Int) + (0 : Int)) := ⟨_, rfl⟩
  have hq0 : q = byteC s i := by rw [hq, Int.add_zero]
  obtain ⟨t, ht⟩ : ∃ t : Nat, t = if q = 126 then 1 else 0 := ⟨_, rfl⟩
  have ht1 : t ≤ 1 := by rw [ht]; split <;> omega
  obtain ⟨rd, hrd⟩ : ∃ rd, rd = runC digitC s (i + t) := ⟨_, rfl⟩
  have hdl : i + t + rd ≤ s.size := by have := runC_le digitC s (i + t); omega
  have hpos : 1 ≤ t + rd := by
    by_cases h126 : q = 126
    · rw [ht, if_pos h126]; omega
    · have h0 : t = 0 := by rw [ht, if_neg h126]
      have h1 : digitC (byteC s i) = true := hp.resolve_right (fun e => h126 (hq0.trans e))
      rw [hrd, h0, Nat.add_zero, runC_yes hi h1]; omega
  obtain ⟨nx, hnx⟩ : ∃ nx, nx = byteC s ((i : Int) + ((t : Int) + rd)) := ⟨_, rfl⟩
  obtain ⟨tx, htx⟩ : ∃ tx, tx = s.extract i (i + (t + rd)) := ⟨_, rfl⟩
  have htl : tx.size ≤ 24 := by rw [htx, extract_size (by omega)]; omega
  obtain ⟨wA, hwA⟩ : ∃ wA, wA = w.alloc (.cells #[.int .i64 0, .int .i64 0, .string ⟨#[]⟩, .int .i64 0] 213) := ⟨_, rfl⟩
  have hKA : Keeps w wA := by rw [hwA]; exact Keeps.alloc _ _
  have hA : wA.heap[w.heap.size]? = some (tokObj 0 ⟨#[]⟩ 0) := by rw [hwA]; exact heap_alloc_at _ _
  have c : ∀ W, Keeps wA W → W.cell? ⟨sb, 0, none⟩ = some (.string s) ∧ W.cell? ⟨sb, 1, none⟩ = some (.int .i64 i) := fun W hW => by
    have := sc_cells ((Keeps.trans hKA hW).at h (fun x => x)); exact ⟨this.1, this.2.1⟩
  have hQ : ∀ W, Keeps wA W → Calls Tryz.prog 240 #[.pointer (some ⟨sb, 0, none⟩), .int .i64 0] W fun e w' => e = .returned (.int .u8 q) ∧ Keeps W w' := fun W hW => by
    rw [hq]; exact peek_of s i 0 sb W (c W hW).1 (c W hW).2 (by omega) (by omega) (by omega) (by omega)
  have hD : ∀ W, Keeps wA W → Calls Tryz.prog 236 #[.pointer (some ⟨sb, 0, none⟩), .int .i64 t, .func (.func 241) #[] #[]] W fun e w' => e = .returned (.int .i64 rd) ∧ Keeps W w' := fun W hW => by
    have := runDigit_of s i t sb W (c W hW).1 (c W hW).2 (by omega) (by omega) (by omega)
    rw [hrd]; exact this
  have hN : ∀ W, Keeps wA W → Calls Tryz.prog 240 #[.pointer (some ⟨sb, 0, none⟩), .int .i64 ((t : Int) + rd)] W fun e w' => e = .returned (.int .u8 nx) ∧ Keeps W w' := fun W hW => by
    rw [hnx]; exact peek_of s i ((t : Int) + rd) sb W (c W hW).1 (c W hW).2 (by omega) (by omega) (by omega) (by omega)
  have hV : ∀ W, Keeps wA W → Vars W := fun W hW => hv.keep (Keeps.trans hKA hW)
  have C := Lib.hid c
  have HQ := Lib.hid hQ
  have HD := Lib.hid hD
  have HN := Lib.hid hN
  have HV := Lib.hid hV
  have HA := Lib.hid hA
  have HKA := Lib.hid hKA
  have HTX := Lib.hid htx
  have HT := Lib.hid ht
  have hszA : w.heap.size < wA.heap.size := heap_lt hA
  have hw1 : IntKind.i64.wrap ((i : Int) + t) = i + t := by rw [IntKind.wrap_i64]; omega
  have hw2 : IntKind.i64.wrap ((i : Int) + t + rd) = i + t + rd := by rw [IntKind.wrap_i64]; omega
  have hw3 : (0 : Int) ≤ (i : Int) + t + rd ∧ (i : Int) + t + rd ≤ s.size := by omega
  have hw4 : (i : Int) ≤ (i : Int) + t + rd := by omega
  have hw5 : ((i : Int) + t + rd).toNat = i + (t + rd) := by omega
  have hw6 : IntKind.i64.wrap ((t : Int) + rd) = t + rd := by rw [IntKind.wrap_i64]; omega
  clear c hQ hD hN hV hq hq0 hrd hnx htx h hv hp hA hKA ht
  have hK : Keeps wA wA := Keeps.refl _
  go_enter Tryz.func242, Tryz.ntmps242
  go_wp2_with (go_at_call 240; refine holdL ?_)
  refine Lib.hid ?_
  rw [← hwA]
  refine (HQ.out _ hK).mono ?_
  rintro _ w2 ⟨rfl, hk2⟩
  replace hK := Keeps.trans hK hk2
  clear hk2
  by_cases h126 : q = 126
  · have hqb : (q == 126) = true := by simp [h126]
    have h1 : (t : Int) = 1 := by rw [HT.out]; simp [h126]
    have hd := HD.out
    have hn := HN.out
    rw [h1] at hd hn hw1 hw2 hw3 hw4 hw5 hw6
    have HD := Lib.hid hd
    have HN := Lib.hid hn
    clear hd hn
    go_wp2_with (go_at_call 236; refine holdL ?_)
    refine Lib.hid ?_
    refine (HD.out _ hK).mono ?_
    rintro _ w3 ⟨rfl, hk2⟩
    replace hK := Keeps.trans hK hk2
    clear hk2
    go_wp2_with (go_at_call 240; refine holdL ?_)
    refine Lib.hid ?_
    refine (HN.out _ hK).mono ?_
    rintro _ w4 ⟨rfl, hk2⟩
    replace hK := Keeps.trans hK hk2
    clear hk2
    obtain ⟨c0, c1⟩ := C.out _ hK
    go_wp2_with fail
    go_region_held3 (fun W' => W'.cell? ⟨sb, 0, none⟩ = some (.string s) ∧ W'.cell? ⟨sb, 1, none⟩ = some (.int .i64 i)) (go_keep) (first | fail)
    go_wp2_with (go_at_call 125; refine holdL ?_)
    refine Lib.hid ?_
    rw [← HTX.out]
    refine (lexNumber_any tx _ (HV.out _ (Kept.drew hK)) (by omega)).mono ?_
    rintro _ w5 ⟨⟨n, k, rfl⟩, hk5⟩
    replace hK := Keeps.trans (Kept.drew hK) hk5
    clear hk5 c0 c1
    obtain ⟨c0, c1⟩ := C.out _ hK
    have hA5 : w5.heap[w.heap.size]? = some (tokObj 0 ⟨#[]⟩ 0) := hK.at HA.out (fun x => x)
    obtain ⟨x0, x1, x2, x3⟩ := tok_cells hA5
    have y0 := tok_free hA5 0
    have y1 := tok_free hA5 1
    have y2 := tok_free hA5 2
    have y3 := tok_free hA5 3
    by_cases hk0 : k = 0
    · have hkb : (k != 0) = false := by simp [hk0]
      go_wp2_with (go_at_call 247; refine (isPart_of _ _).mono ?_; rintro _ _ ⟨rfl, rfl⟩)
      · exact ⟨rfl, .inr ⟨_, _, rfl, by decide⟩, Keeps.trans HKA.out hK⟩
      · exact ⟨rfl, .inr ⟨_, _, rfl, by decide⟩, Keeps.trans HKA.out hK⟩
      · refine bodyPost_ret (num_results rfl _ _ w.heap.size rfl (put_num hA5 1 n tx i)) rfl ⟨.inl ⟨t + rd, n, hpos, by omega, by rw [HTX.out]⟩, ?_⟩
        exact keeps_put (keeps_put (keeps_put (keeps_put (Keeps.trans HKA.out hK) (Nat.le_refl _) 0 _) (Nat.le_refl _) 1 _) (Nat.le_refl _) 2 _) (Nat.le_refl _) 3 _
    · have hkb : (k != 0) = true := by simp [hk0]
      go_wp2_with fail
      exact ⟨rfl, .inr ⟨_, _, rfl, by decide⟩, Keeps.trans HKA.out hK⟩
  · have hqb : (q == 126) = false := by simp [h126]
    have h1 : (t : Int) = 0 := by rw [HT.out]; simp [h126]
    have hd := HD.out
    have hn := HN.out
    rw [h1] at hd hn hw1 hw2 hw3 hw4 hw5 hw6
    simp only [Int.zero_add, Int.add_zero] at hn hw1 hw2 hw3 hw4 hw5 hw6
    have HD := Lib.hid hd
    have HN := Lib.hid hn
    clear hd hn
    go_wp2_with (go_at_call 236; refine holdL ?_)
    refine Lib.hid ?_
    refine (HD.out _ hK).mono ?_
    rintro _ w3 ⟨rfl, hk2⟩
    replace hK := Keeps.trans hK hk2
    clear hk2
    go_wp2_with (go_at_call 240; refine holdL ?_)
    refine Lib.hid ?_
    refine (HN.out _ hK).mono ?_
    rintro _ w4 ⟨rfl, hk2⟩
    replace hK := Keeps.trans hK hk2
    clear hk2
    obtain ⟨c0, c1⟩ := C.out _ hK
    go_wp2_with fail
    go_region_held3 (fun W' => W'.cell? ⟨sb, 0, none⟩ = some (.string s) ∧ W'.cell? ⟨sb, 1, none⟩ = some (.int .i64 i)) (go_keep) (first | fail)
    go_wp2_with (go_at_call 125; refine holdL ?_)
    refine Lib.hid ?_
    rw [← HTX.out]
    refine (lexNumber_any tx _ (HV.out _ (Kept.drew hK)) (by omega)).mono ?_
    rintro _ w5 ⟨⟨n, k, rfl⟩, hk5⟩
    replace hK := Keeps.trans (Kept.drew hK) hk5
    clear hk5 c0 c1
    obtain ⟨c0, c1⟩ := C.out _ hK
    have hA5 : w5.heap[w.heap.size]? = some (tokObj 0 ⟨#[]⟩ 0) := hK.at HA.out (fun x => x)
    obtain ⟨x0, x1, x2, x3⟩ := tok_cells hA5
    have y0 := tok_free hA5 0
    have y1 := tok_free hA5 1
    have y2 := tok_free hA5 2
    have y3 := tok_free hA5 3
    by_cases hk0 : k = 0
    · have hkb : (k != 0) = false := by simp [hk0]
      go_wp2_with (go_at_call 247; refine (isPart_of _ _).mono ?_; rintro _ _ ⟨rfl, rfl⟩)
      · exact ⟨rfl, .inr ⟨_, _, rfl, by decide⟩, Keeps.trans HKA.out hK⟩
      · exact ⟨rfl, .inr ⟨_, _, rfl, by decide⟩, Keeps.trans HKA.out hK⟩
      · refine bodyPost_ret (num_results rfl _ _ w.heap.size rfl (put_num hA5 1 n tx i)) rfl ⟨.inl ⟨t + rd, n, hpos, by omega, by rw [HTX.out]⟩, ?_⟩
        exact keeps_put (keeps_put (keeps_put (keeps_put (Keeps.trans HKA.out hK) (Nat.le_refl _) 0 _) (Nat.le_refl _) 1 _) (Nat.le_refl _) 2 _) (Nat.le_refl _) 3 _
    · have hkb : (k != 0) = true := by simp [hk0]
      go_wp2_with fail
      exact ⟨rfl, .inr ⟨_, _, rfl, by decide⟩, Keeps.trans HKA.out hK⟩
end Go.Proofs.YtfehlbepjmmkeaaGreatDoor
namespace Go.Proofs.YtfehlbepjmmkeaaGreatDoor
open Go.RowKit
theorem num_results2 {fn : Func} {p u : Tmp} {k n i : Int} {tx : ByteArray} (h : fn.results = #[.cell p 213, .tmp u]) (tmps : Array Value) (w : World) (g : Nat) (hp : tmps.getD p undef = .pointer (some ⟨g, 0, none⟩)) (hg : w.heap[g]? = some (numObj k n tx i)) :
    (results fn tmps).run Tryz.prog w = .ok (.tuple #[.agg (Tk.cells ⟨k, n, tx, i⟩).toArray, tmps.getD u undef]) w := by
  rw [results_cell_tmp h, hp]
  have := run_loadVar_row (P := Tryz.prog) w g 213 213 _ _ _ hg Tryz.underlying213 rfl size213
  simp only [asAddr, Sem.run_pure, Result.andThen, this]
  rfl
/-- What the reference answers to a token at the head. -/
def ReadSays (s : ByteArray) (e : Ending) : Prop := ∃ (k n : Int) (tx : ByteArray) (a ec : Int), e = .returned (.tuple #[.agg #[.int .i64 k, .int .i64 n, .string tx, .int .i64 a], .int .i64 ec]) ∧
  (greatC (byteC s (0 : Nat)) = true → (nameLen s 0 ≤ 24 ∧ ec = 0 ∧ k = 3 ∧ tx = s.extract 0 (nameLen s 0)) ∨ (24 < nameLen s 0 ∧ ec ≠ 0)) ∧ (greatC (byteC s (0 : Nat)) = false → ec ≠ 0 ∨ k ≠ 3)
set_option maxHeartbeats 16000000 in
set_option maxRecDepth 100000 in
theorem read_great (s : ByteArray) (w : World) (h0 : 0 < s.size) (hs : s.size ≤ 100) (hg : greatC (byteC s (0 : Nat)) = true) : Calls Tryz.prog 234 #[.string s, .int .i64 0] w fun e w' => ReadSays s e ∧ Keeps w w' := by
  have hs0 : (0 : Int) < s.size := by omega
  have hby := byteC_nat h0
  rw [hby] at hg
  have e1 : (((s[0]'h0).toNat : Int) == 126) = false := by simp [greatC] at hg ⊢; omega
  have e2 : digitC ((s[0]'h0).toNat : Int) = false := by simp [greatC] at hg; simp [digitC]; omega
  have e3 : (((s[0]'h0).toNat : Int) == 39) = false := by simp [greatC] at hg ⊢; omega
  have e4 : smallC ((s[0]'h0).toNat : Int) = false := by simp [greatC] at hg; simp [smallC]; omega
  have hn0 := nameLen_le s 0 (by omega)
  obtain ⟨m, hm⟩ : ∃ m, m = nameLen s 0 := ⟨_, rfl⟩
  have HM := Lib.hid hm
  have HB := Lib.hid hby
  have HG := Lib.hid hg
  have HN : Hid (∀ W : World, Calls Tryz.prog 273 #[.string s, .int .i64 0] W fun e w' => e = .returned (.int .i64 m) ∧ Keeps W w') := Lib.hid fun W => by
    have := refNamed_of s 0 W hs (by omega)
    rw [Nat.zero_add, ← hm] at this
    exact this
  rw [← hm] at hn0
  clear hm hby
  go_enter Tryz.func234, Tryz.ntmps234
  go_wp2_with (first
    | (go_at_call 267; refine (refDigit_of _ _).mono ?_; rintro _ _ ⟨rfl, rfl⟩)
    | (go_at_call 270; refine (refSmall_of _ _).mono ?_; rintro _ _ ⟨rfl, rfl⟩)
    | (go_at_call 272; refine (refCapital_of _ _).mono ?_; rintro _ _ ⟨rfl, rfl⟩)
    | (go_at_call 273; refine holdL ?_))
  refine Lib.hid ?_
  obtain ⟨wA, hwA⟩ : ∃ wA, wA = w.alloc (.cells #[.int .i64 0, .int .i64 0, .string { data := #[] }, .int .i64 0] 213) := ⟨_, rfl⟩
  rw [← hwA]
  have hKA : Keeps w wA := by rw [hwA]; exact Keeps.alloc _ _
  have hA : wA.heap[w.heap.size]? = some (tokObj 0 ⟨#[]⟩ 0) := by rw [hwA]; exact heap_alloc_at _ _
  clear hwA
  refine (HN.out _).mono ?_
  rintro _ w2 ⟨rfl, hk2⟩
  have hA5 : w2.heap[w.heap.size]? = some (tokObj 0 ⟨#[]⟩ 0) := hk2.at hA (fun x => x)
  obtain ⟨x0, x1, x2, x3⟩ := tok_cells hA5
  have y0 := tok_free hA5 0
  have y1 := tok_free hA5 1
  have y2 := tok_free hA5 2
  have y3 := tok_free hA5 3
  have HK := Lib.hid (Keeps.trans hKA hk2)
  have hml : (m : Int) ≤ s.size := by omega
  have hm0 : (0 : Int) ≤ m := by omega
  clear hk2 hKA hA
  by_cases h24 : 24 < m
  · have h24' : (24 : Int) < m := by omega
    go_wp2_with fail
    exact bodyPost_ret (num_results2 rfl _ _ w.heap.size rfl (put_num hA5 _ _ _ _)) rfl ⟨⟨_, _, _, _, _, rfl, fun _ => .inr ⟨by rw [← HM.out]; exact h24, by decide⟩, fun h => by rw [HB.out, HG.out] at h; cases h⟩, keeps_put (keeps_put (keeps_put (keeps_put HK.out (Nat.le_refl _) 0 _) (Nat.le_refl _) 1 _) (Nat.le_refl _) 2 _) (Nat.le_refl _) 3 _⟩
  · have h24' : ¬ (24 : Int) < m := by omega
    go_wp2_with (go_at_call 272; refine (refCapital_of _ _).mono ?_; rintro _ _ ⟨rfl, rfl⟩)
    exact bodyPost_ret (num_results2 rfl _ _ w.heap.size rfl (put_num hA5 _ _ _ _)) rfl ⟨⟨_, _, _, _, _, rfl, fun _ => .inl ⟨by rw [← HM.out]; omega, rfl, rfl, by rw [← HM.out]⟩, fun h => by rw [HB.out, HG.out] at h; cases h⟩, keeps_put (keeps_put (keeps_put (keeps_put HK.out (Nat.le_refl _) 0 _) (Nat.le_refl _) 1 _) (Nat.le_refl _) 2 _) (Nat.le_refl _) 3 _⟩
end Go.Proofs.YtfehlbepjmmkeaaGreatDoor
namespace Go.Proofs.YtfehlbepjmmkeaaGreatDoor
open Go.RowKit
set_option maxHeartbeats 16000000 in
set_option maxRecDepth 100000 in
theorem read_sign (s : ByteArray) (w : World) (h0 : 0 < s.size) (hs : s.size ≤ 100) (e1 : (((s[0]'h0).toNat : Int) == 126) = false) (e2 : digitC ((s[0]'h0).toNat : Int) = false) (e3 : (((s[0]'h0).toNat : Int) == 39) = false) (e4 : smallC ((s[0]'h0).toNat : Int) = false) (hg : greatC ((s[0]'h0).toNat : Int) = false) : Calls Tryz.prog 234 #[.string s, .int .i64 0] w fun e w' => ReadSays s e ∧ Keeps w w' := by
  have hs0 : (0 : Int) < s.size := by omega
  have hby := byteC_nat h0
  have HB := Lib.hid hby
  have HG := Lib.hid hg
  have HS := Lib.hid hs
  have e5 := hg
  clear hby hg
  obtain ⟨wA, hwA⟩ : ∃ wA, wA = w.alloc (.cells #[.int .i64 0, .int .i64 0, .string { data := #[] }, .int .i64 0] 213) := ⟨_, rfl⟩
  have hKA : Keeps w wA := by rw [hwA]; exact Keeps.alloc _ _
  have hA : wA.heap[w.heap.size]? = some (tokObj 0 ⟨#[]⟩ 0) := by rw [hwA]; exact heap_alloc_at _ _
  have HA := Lib.hid hA
  have HKA := Lib.hid hKA
  have HW := Lib.hid hwA
  clear hA hKA hwA
  go_enter Tryz.func234, Tryz.ntmps234
  go_wp2_with (first
    | (go_at_call 267; refine (refDigit_of _ _).mono ?_; rintro _ _ ⟨rfl, rfl⟩)
    | (go_at_call 270; refine (refSmall_of _ _).mono ?_; rintro _ _ ⟨rfl, rfl⟩)
    | (go_at_call 272; refine (refCapital_of _ _).mono ?_; rintro _ _ ⟨rfl, rfl⟩)
    | (go_at_call 275; refine holdL ?_))
  refine Lib.hid ?_
  rw [← HW.out]
  refine (refSign_of s 0 wA HS.out h0).mono ?_
  rintro _ w2 ⟨⟨n, rfl, hn2, hns⟩, hk2⟩
  have hA5 : w2.heap[w.heap.size]? = some (tokObj 0 ⟨#[]⟩ 0) := hk2.at HA.out (fun x => x)
  obtain ⟨x0, x1, x2, x3⟩ := tok_cells hA5
  have y0 := tok_free hA5 0
  have y1 := tok_free hA5 1
  have y2 := tok_free hA5 2
  have y3 := tok_free hA5 3
  have HK := Lib.hid (Keeps.trans HKA.out hk2)
  have k1 : (n : Int) ≤ 2 := by omega
  have k2 : (0 : Int) ≤ n := by omega
  have k3 : (n : Int) ≤ s.size := by omega
  clear hk2 hn2 hns
  by_cases hn0 : n = 0
  · subst hn0
    go_wp2_with fail
    exact bodyPost_ret (num_results2 rfl _ _ w.heap.size rfl (put_num hA5 _ _ _ _)) rfl ⟨⟨_, _, _, _, _, rfl, fun h => by (rw [HB.out, HG.out] at h; cases h), fun _ => .inl (by decide)⟩, keeps_put (keeps_put (keeps_put (keeps_put HK.out (Nat.le_refl _) 0 _) (Nat.le_refl _) 1 _) (Nat.le_refl _) 2 _) (Nat.le_refl _) 3 _⟩
  · have hn0b : ((n : Int) == 0) = false := by simpa using hn0
    clear hn0
    go_wp2_with fail
    exact bodyPost_ret (num_results2 rfl _ _ w.heap.size rfl (put_num hA5 _ _ _ _)) rfl ⟨⟨_, _, _, _, _, rfl, fun h => by (rw [HB.out, HG.out] at h; cases h), fun _ => .inr (by simp)⟩, keeps_put (keeps_put (keeps_put (keeps_put HK.out (Nat.le_refl _) 0 _) (Nat.le_refl _) 1 _) (Nat.le_refl _) 2 _) (Nat.le_refl _) 3 _⟩
end Go.Proofs.YtfehlbepjmmkeaaGreatDoor
namespace Go.Proofs.YtfehlbepjmmkeaaGreatDoor
open Go.RowKit
set_option maxHeartbeats 16000000 in
set_option maxRecDepth 100000 in
theorem read_small (s : ByteArray) (w : World) (h0 : 0 < s.size) (hs : s.size ≤ 100) (e1 : (((s[0]'h0).toNat : Int) == 126) = false) (e2 : digitC ((s[0]'h0).toNat : Int) = false) (e3 : (((s[0]'h0).toNat : Int) == 39) = false) (e4 : smallC ((s[0]'h0).toNat : Int) = true) (hg : greatC ((s[0]'h0).toNat : Int) = false) : Calls Tryz.prog 234 #[.string s, .int .i64 0] w fun e w' => ReadSays s e ∧ Keeps w w' := by
  have hs0 : (0 : Int) < s.size := by omega
  have hby := byteC_nat h0
  have HB := Lib.hid hby
  have HG := Lib.hid hg
  have HS := Lib.hid hs
  have e5 := hg
  clear hby hg
  obtain ⟨wA, hwA⟩ : ∃ wA, wA = w.alloc (.cells #[.int .i64 0, .int .i64 0, .string { data := #[] }, .int .i64 0] 213) := ⟨_, rfl⟩
  have hKA : Keeps w wA := by rw [hwA]; exact Keeps.alloc _ _
  have hA : wA.heap[w.heap.size]? = some (tokObj 0 ⟨#[]⟩ 0) := by rw [hwA]; exact heap_alloc_at _ _
  have HA := Lib.hid hA
  have HKA := Lib.hid hKA
  have HW := Lib.hid hwA
  clear hA hKA hwA
  go_enter Tryz.func234, Tryz.ntmps234
  go_wp2_with (first
    | (go_at_call 267; refine (refDigit_of _ _).mono ?_; rintro _ _ ⟨rfl, rfl⟩)
    | (go_at_call 270; refine (refSmall_of _ _).mono ?_; rintro _ _ ⟨rfl, rfl⟩)
    | (go_at_call 272; refine (refCapital_of _ _).mono ?_; rintro _ _ ⟨rfl, rfl⟩)
    | (go_at_call 273; refine holdL ?_))
  refine Lib.hid ?_
  rw [← HW.out]
  have hn0 := nameLen_le s 0 (by omega)
  refine (refNamed_of s 0 wA HS.out (by omega)).mono ?_
  rw [Nat.zero_add] at hn0
  obtain ⟨m, hm⟩ : ∃ m, m = nameLen s 0 := ⟨_, rfl⟩
  rw [Nat.zero_add, ← hm]
  rw [← hm] at hn0
  clear hm
  rintro _ w2 ⟨rfl, hk2⟩
  have k2 : (0 : Int) ≤ m := by omega
  have k3 : (m : Int) ≤ s.size := by omega
  by_cases h24 : 24 < m
  · have h24' : (24 : Int) < m := by omega
    have hA5 : w2.heap[w.heap.size]? = some (tokObj 0 ⟨#[]⟩ 0) := hk2.at HA.out (fun x => x)
    obtain ⟨x0, x1, x2, x3⟩ := tok_cells hA5
    have y0 := tok_free hA5 0
    have y1 := tok_free hA5 1
    have y2 := tok_free hA5 2
    have y3 := tok_free hA5 3
    have HK := Lib.hid (Keeps.trans HKA.out hk2)
    clear hk2
    go_wp2_with fail
    exact bodyPost_ret (num_results2 rfl _ _ w.heap.size rfl (put_num hA5 _ _ _ _)) rfl ⟨⟨_, _, _, _, _, rfl, fun h => by (rw [HB.out, HG.out] at h; cases h), fun _ => .inl (by decide)⟩, keeps_put (keeps_put (keeps_put (keeps_put HK.out (Nat.le_refl _) 0 _) (Nat.le_refl _) 1 _) (Nat.le_refl _) 2 _) (Nat.le_refl _) 3 _⟩
  · have h24' : ¬ (24 : Int) < m := by omega
    go_wp2_with (first
      | (go_at_call 272; refine (refCapital_of _ _).mono ?_; rintro _ _ ⟨rfl, rfl⟩)
      | (go_at_call 274; refine holdL ?_))
    refine Lib.hid ?_
    refine (refWord_of _ _).mono ?_
    rintro _ w3 ⟨⟨r, rfl⟩, hk3⟩
    replace hk3 := Keeps.trans hk2 hk3
    have hA5 : w3.heap[w.heap.size]? = some (tokObj 0 ⟨#[]⟩ 0) := hk3.at HA.out (fun x => x)
    obtain ⟨x0, x1, x2, x3⟩ := tok_cells hA5
    have y0 := tok_free hA5 0
    have y1 := tok_free hA5 1
    have y2 := tok_free hA5 2
    have y3 := tok_free hA5 3
    have HK := Lib.hid (Keeps.trans HKA.out hk3)
    clear hk2 hk3
    cases r
    all_goals
      go_wp2_with fail
      exact bodyPost_ret (num_results2 rfl _ _ w.heap.size rfl (put_num hA5 _ _ _ _)) rfl ⟨⟨_, _, _, _, _, rfl, fun h => by (rw [HB.out, HG.out] at h; cases h), fun _ => .inr (by simp)⟩, keeps_put (keeps_put (keeps_put (keeps_put HK.out (Nat.le_refl _) 0 _) (Nat.le_refl _) 1 _) (Nat.le_refl _) 2 _) (Nat.le_refl _) 3 _⟩
end Go.Proofs.YtfehlbepjmmkeaaGreatDoor
namespace Go.Proofs.YtfehlbepjmmkeaaGreatDoor
open Go.RowKit
set_option maxHeartbeats 16000000 in
set_option maxRecDepth 100000 in
theorem read_plain (s : ByteArray) (w : World) (h0 : 0 < s.size) (hs : s.size ≤ 100) (e1 : (((s[0]'h0).toNat : Int) == 126) = false) (e2 : digitC ((s[0]'h0).toNat : Int) = false) (e3 : (((s[0]'h0).toNat : Int) == 39) = true) (hg : greatC ((s[0]'h0).toNat : Int) = false) : Calls Tryz.prog 234 #[.string s, .int .i64 0] w fun e w' => ReadSays s e ∧ Keeps w w' := by
  have hs0 : (0 : Int) < s.size := by omega
  have hby := byteC_nat h0
  have HB := Lib.hid hby
  have HG := Lib.hid hg
  have HS := Lib.hid hs
  have e4 : smallC ((s[0]'h0).toNat : Int) = false := by (simp [smallC] at e3 ⊢; omega)
  have e5 := hg
  clear hby hg
  obtain ⟨wA, hwA⟩ : ∃ wA, wA = w.alloc (.cells #[.int .i64 0, .int .i64 0, .string { data := #[] }, .int .i64 0] 213) := ⟨_, rfl⟩
  have hKA : Keeps w wA := by rw [hwA]; exact Keeps.alloc _ _
  have hA : wA.heap[w.heap.size]? = some (tokObj 0 ⟨#[]⟩ 0) := by rw [hwA]; exact heap_alloc_at _ _
  have HA := Lib.hid hA
  have HKA := Lib.hid hKA
  have HW := Lib.hid hwA
  clear hA hKA hwA
  go_enter Tryz.func234, Tryz.ntmps234
  have h1' : (1 : Int) < s.size ∨ ¬ (1 : Int) < s.size := by omega
  rcases h1' with h1' | h1'
  · have h1 : 1 < s.size := by omega
    cases hsm : smallC ((s[1]'h1).toNat : Int) with
    | true =>
      go_wp2_with (first
        | (go_at_call 267; refine (refDigit_of _ _).mono ?_; rintro _ _ ⟨rfl, rfl⟩)
        | (go_at_call 270; refine (refSmall_of _ _).mono ?_; rintro _ _ ⟨rfl, rfl⟩)
        | (go_at_call 272; refine (refCapital_of _ _).mono ?_; rintro _ _ ⟨rfl, rfl⟩)
        | (go_at_call 271; refine holdL ?_))
      refine Lib.hid ?_
      rw [← HW.out]
      refine (refPlain_of s 1 wA HS.out (by omega)).mono ?_
      rintro _ w2 ⟨⟨j, rfl, hj1, hj2⟩, hk2⟩
      have k1 : (1 : Int) ≤ j := by omega
      have k3 : (j : Int) ≤ s.size := by omega
      have hA5 : w2.heap[w.heap.size]? = some (tokObj 0 ⟨#[]⟩ 0) := hk2.at HA.out (fun x => x)
      obtain ⟨x0, x1, x2, x3⟩ := tok_cells hA5
      have y0 := tok_free hA5 0
      have y1 := tok_free hA5 1
      have y2 := tok_free hA5 2
      have y3 := tok_free hA5 3
      have HK := Lib.hid (Keeps.trans HKA.out hk2)
      clear hk2
      by_cases h24 : 24 < j
      · have h24' : (24 : Int) < j := by omega
        go_wp2_with fail
        exact bodyPost_ret (num_results2 rfl _ _ w.heap.size rfl (put_num hA5 _ _ _ _)) rfl ⟨⟨_, _, _, _, _, rfl, fun h => by (rw [HB.out, HG.out] at h; cases h), fun _ => .inl (by decide)⟩, keeps_put (keeps_put (keeps_put (keeps_put HK.out (Nat.le_refl _) 0 _) (Nat.le_refl _) 1 _) (Nat.le_refl _) 2 _) (Nat.le_refl _) 3 _⟩
      · have h24' : ¬ (24 : Int) < j := by omega
        go_wp2_with fail
        exact bodyPost_ret (num_results2 rfl _ _ w.heap.size rfl (put_num hA5 _ _ _ _)) rfl ⟨⟨_, _, _, _, _, rfl, fun h => by (rw [HB.out, HG.out] at h; cases h), fun _ => .inr (by simp)⟩, keeps_put (keeps_put (keeps_put (keeps_put HK.out (Nat.le_refl _) 0 _) (Nat.le_refl _) 1 _) (Nat.le_refl _) 2 _) (Nat.le_refl _) 3 _⟩
    | false =>
      go_wp2_with (first
        | (go_at_call 267; refine (refDigit_of _ _).mono ?_; rintro _ _ ⟨rfl, rfl⟩)
        | (go_at_call 270; refine (refSmall_of _ _).mono ?_; rintro _ _ ⟨rfl, rfl⟩)
        | (go_at_call 272; refine (refCapital_of _ _).mono ?_; rintro _ _ ⟨rfl, rfl⟩)
        | (go_at_call 275; refine holdL ?_))
      refine Lib.hid ?_
      rw [← HW.out]
      refine (refSign_of s 0 wA HS.out h0).mono ?_
      rintro _ w2 ⟨⟨n, rfl, hn2, hns⟩, hk2⟩
      have hA5 : w2.heap[w.heap.size]? = some (tokObj 0 ⟨#[]⟩ 0) := hk2.at HA.out (fun x => x)
      obtain ⟨x0, x1, x2, x3⟩ := tok_cells hA5
      have y0 := tok_free hA5 0
      have y1 := tok_free hA5 1
      have y2 := tok_free hA5 2
      have y3 := tok_free hA5 3
      have HK := Lib.hid (Keeps.trans HKA.out hk2)
      have k1 : (n : Int) ≤ 2 := by omega
      have k2 : (0 : Int) ≤ n := by omega
      have k3 : (n : Int) ≤ s.size := by omega
      clear hk2 hn2 hns
      by_cases hn0 : n = 0
      · subst hn0
        go_wp2_with fail
        exact bodyPost_ret (num_results2 rfl _ _ w.heap.size rfl (put_num hA5 _ _ _ _)) rfl ⟨⟨_, _, _, _, _, rfl, fun h => by (rw [HB.out, HG.out] at h; cases h), fun _ => .inl (by decide)⟩, keeps_put (keeps_put (keeps_put (keeps_put HK.out (Nat.le_refl _) 0 _) (Nat.le_refl _) 1 _) (Nat.le_refl _) 2 _) (Nat.le_refl _) 3 _⟩
      · have hn0b : ((n : Int) == 0) = false := by simpa using hn0
        clear hn0
        go_wp2_with fail
        exact bodyPost_ret (num_results2 rfl _ _ w.heap.size rfl (put_num hA5 _ _ _ _)) rfl ⟨⟨_, _, _, _, _, rfl, fun h => by (rw [HB.out, HG.out] at h; cases h), fun _ => .inr (by simp)⟩, keeps_put (keeps_put (keeps_put (keeps_put HK.out (Nat.le_refl _) 0 _) (Nat.le_refl _) 1 _) (Nat.le_refl _) 2 _) (Nat.le_refl _) 3 _⟩
  · go_wp2_with (first
      | (go_at_call 267; refine (refDigit_of _ _).mono ?_; rintro _ _ ⟨rfl, rfl⟩)
      | (go_at_call 270; refine (refSmall_of _ _).mono ?_; rintro _ _ ⟨rfl, rfl⟩)
      | (go_at_call 272; refine (refCapital_of _ _).mono ?_; rintro _ _ ⟨rfl, rfl⟩)
      | (go_at_call 275; refine holdL ?_))
    refine Lib.hid ?_
    rw [← HW.out]
    refine (refSign_of s 0 wA HS.out h0).mono ?_
    rintro _ w2 ⟨⟨n, rfl, hn2, hns⟩, hk2⟩
    have hA5 : w2.heap[w.heap.size]? = some (tokObj 0 ⟨#[]⟩ 0) := hk2.at HA.out (fun x => x)
    obtain ⟨x0, x1, x2, x3⟩ := tok_cells hA5
    have y0 := tok_free hA5 0
    have y1 := tok_free hA5 1
    have y2 := tok_free hA5 2
    have y3 := tok_free hA5 3
    have HK := Lib.hid (Keeps.trans HKA.out hk2)
    have k1 : (n : Int) ≤ 2 := by omega
    have k2 : (0 : Int) ≤ n := by omega
    have k3 : (n : Int) ≤ s.size := by omega
    clear hk2 hn2 hns
    by_cases hn0 : n = 0
    · subst hn0
      go_wp2_with fail
      exact bodyPost_ret (num_results2 rfl _ _ w.heap.size rfl (put_num hA5 _ _ _ _)) rfl ⟨⟨_, _, _, _, _, rfl, fun h => by (rw [HB.out, HG.out] at h; cases h), fun _ => .inl (by decide)⟩, keeps_put (keeps_put (keeps_put (keeps_put HK.out (Nat.le_refl _) 0 _) (Nat.le_refl _) 1 _) (Nat.le_refl _) 2 _) (Nat.le_refl _) 3 _⟩
    · have hn0b : ((n : Int) == 0) = false := by simpa using hn0
      clear hn0
      go_wp2_with fail
      exact bodyPost_ret (num_results2 rfl _ _ w.heap.size rfl (put_num hA5 _ _ _ _)) rfl ⟨⟨_, _, _, _, _, rfl, fun h => by (rw [HB.out, HG.out] at h; cases h), fun _ => .inr (by simp)⟩, keeps_put (keeps_put (keeps_put (keeps_put HK.out (Nat.le_refl _) 0 _) (Nat.le_refl _) 1 _) (Nat.le_refl _) 2 _) (Nat.le_refl _) 3 _⟩
end Go.Proofs.YtfehlbepjmmkeaaGreatDoor
namespace Go.Proofs.YtfehlbepjmmkeaaGreatDoor
open Go.RowKit
set_option maxHeartbeats 16000000 in
set_option maxRecDepth 100000 in
theorem read_num (s : ByteArray) (w : World) (h0 : 0 < s.size) (hs : s.size ≤ 100) (e1 : (((s[0]'h0).toNat : Int) == 126) = true ∨ digitC ((s[0]'h0).toNat : Int) = true) (hg : greatC ((s[0]'h0).toNat : Int) = false) : Calls Tryz.prog 234 #[.string s, .int .i64 0] w fun e w' => ReadSays s e ∧ Keeps w w' := by
  have hs0 : (0 : Int) < s.size := by omega
  have hby := byteC_nat h0
  have HB := Lib.hid hby
  have HG := Lib.hid hg
  have HS := Lib.hid hs
  have e5 := hg
  clear hby hg
  obtain ⟨wA, hwA⟩ : ∃ wA, wA = w.alloc (.cells #[.int .i64 0, .int .i64 0, .string { data := #[] }, .int .i64 0] 213) := ⟨_, rfl⟩
  have hKA : Keeps w wA := by rw [hwA]; exact Keeps.alloc _ _
  have hA : wA.heap[w.heap.size]? = some (tokObj 0 ⟨#[]⟩ 0) := by rw [hwA]; exact heap_alloc_at _ _
  have HA := Lib.hid hA
  have HKA := Lib.hid hKA
  have HW := Lib.hid hwA
  clear hA hKA hwA
  go_enter Tryz.func234, Tryz.ntmps234
  cases hq : (((s[0]'h0).toNat : Int) == 126) with
  | true =>
    clear e1
    go_wp2_with (first
      | (go_at_call 267; refine (refDigit_of _ _).mono ?_; rintro _ _ ⟨rfl, rfl⟩))
    all_goals
      rw [← HW.out]
      go_loopw [7] (fun q W => ∃ j : Nat, q = .int .i64 j ∧ j ≤ s.size ∧ Keeps wA W) (fun q _ => s.size - (intOf q).toNat)
    case atStart => first | exact ⟨0, rfl, by omega, Keeps.refl _⟩ | exact ⟨1, rfl, by omega, Keeps.refl _⟩
    case round =>
      obtain ⟨j, rfl, hj, hk⟩ := hrel
      have hge : (0 : Int) ≤ j := by omega
      by_cases hlt : j < s.size
      · have hlt' : (j : Int) < s.size := by omega
        cases hdj : digitC ((s[j]'hlt).toNat : Int) with
        | true =>
          go_wp2_with (first
            | (go_at_call 267; refine (refDigit_of _ _).mono ?_; rintro _ _ ⟨rfl, rfl⟩))
          exact ⟨⟨j + 1, by simp, by omega, hk⟩, by simp [intOf]; omega⟩
        | false =>
          go_wp2_with (first
            | (go_at_call 267; refine (refDigit_of _ _).mono ?_; rintro _ _ ⟨rfl, rfl⟩)
            | (go_at_call 268; refine holdL ?_))
          refine Lib.hid ?_
          refine (refNumber_any _ _ (by rw [ByteArray.size_extract]; omega)).mono ?_
          rintro _ w3 ⟨⟨n, k, rfl⟩, hk3⟩
          replace hk3 := Keeps.trans hk hk3
          have hA5 : w3.heap[w.heap.size]? = some (tokObj 0 ⟨#[]⟩ 0) := hk3.at HA.out (fun x => x)
          obtain ⟨x0, x1, x2, x3⟩ := tok_cells hA5
          have y0 := tok_free hA5 0
          have y1 := tok_free hA5 1
          have y2 := tok_free hA5 2
          have y3 := tok_free hA5 3
          have HK := Lib.hid (Keeps.trans HKA.out hk3)
          clear hk3 hk
          by_cases hk0 : k = 0
          · subst hk0
            go_wp2_with (first
              | (go_at_call 269; refine (refInner_of _ _).mono ?_; rintro _ _ ⟨rfl, rfl⟩))
            all_goals first
              | exact bodyPost_ret (num_results2 rfl _ _ w.heap.size rfl (put_num hA5 _ _ _ _)) rfl ⟨⟨_, _, _, _, _, rfl, fun h => by (rw [HB.out, HG.out] at h; cases h), fun _ => .inl (by decide)⟩, keeps_put (keeps_put (keeps_put (keeps_put HK.out (Nat.le_refl _) 0 _) (Nat.le_refl _) 1 _) (Nat.le_refl _) 2 _) (Nat.le_refl _) 3 _⟩
              | exact bodyPost_ret (num_results2 rfl _ _ w.heap.size rfl (put_num hA5 _ _ _ _)) rfl ⟨⟨_, _, _, _, _, rfl, fun h => by (rw [HB.out, HG.out] at h; cases h), fun _ => .inr (by simp)⟩, keeps_put (keeps_put (keeps_put (keeps_put HK.out (Nat.le_refl _) 0 _) (Nat.le_refl _) 1 _) (Nat.le_refl _) 2 _) (Nat.le_refl _) 3 _⟩
          · have hkb : (k != 0) = true := by simpa using hk0
            clear hk0
            go_wp2_with fail
            exact bodyPost_ret (num_results2 rfl _ _ w.heap.size rfl (put_num hA5 _ _ _ _)) rfl ⟨⟨_, _, _, _, _, rfl, fun h => by (rw [HB.out, HG.out] at h; cases h), fun _ => .inl (by decide)⟩, keeps_put (keeps_put (keeps_put (keeps_put HK.out (Nat.le_refl _) 0 _) (Nat.le_refl _) 1 _) (Nat.le_refl _) 2 _) (Nat.le_refl _) 3 _⟩
      · have hlt' : ¬ (j : Int) < s.size := by omega
        go_wp2_with (first
          | (go_at_call 267; refine (refDigit_of _ _).mono ?_; rintro _ _ ⟨rfl, rfl⟩)
          | (go_at_call 268; refine holdL ?_))
        refine Lib.hid ?_
        refine (refNumber_any _ _ (by rw [ByteArray.size_extract]; omega)).mono ?_
        rintro _ w3 ⟨⟨n, k, rfl⟩, hk3⟩
        replace hk3 := Keeps.trans hk hk3
        have hA5 : w3.heap[w.heap.size]? = some (tokObj 0 ⟨#[]⟩ 0) := hk3.at HA.out (fun x => x)
        obtain ⟨x0, x1, x2, x3⟩ := tok_cells hA5
        have y0 := tok_free hA5 0
        have y1 := tok_free hA5 1
        have y2 := tok_free hA5 2
        have y3 := tok_free hA5 3
        have HK := Lib.hid (Keeps.trans HKA.out hk3)
        clear hk3 hk
        by_cases hk0 : k = 0
        · subst hk0
          go_wp2_with fail
          all_goals first
            | exact bodyPost_ret (num_results2 rfl _ _ w.heap.size rfl (put_num hA5 _ _ _ _)) rfl ⟨⟨_, _, _, _, _, rfl, fun h => by (rw [HB.out, HG.out] at h; cases h), fun _ => .inl (by decide)⟩, keeps_put (keeps_put (keeps_put (keeps_put HK.out (Nat.le_refl _) 0 _) (Nat.le_refl _) 1 _) (Nat.le_refl _) 2 _) (Nat.le_refl _) 3 _⟩
            | exact bodyPost_ret (num_results2 rfl _ _ w.heap.size rfl (put_num hA5 _ _ _ _)) rfl ⟨⟨_, _, _, _, _, rfl, fun h => by (rw [HB.out, HG.out] at h; cases h), fun _ => .inr (by simp)⟩, keeps_put (keeps_put (keeps_put (keeps_put HK.out (Nat.le_refl _) 0 _) (Nat.le_refl _) 1 _) (Nat.le_refl _) 2 _) (Nat.le_refl _) 3 _⟩
        · have hkb : (k != 0) = true := by simpa using hk0
          clear hk0
          go_wp2_with fail
          exact bodyPost_ret (num_results2 rfl _ _ w.heap.size rfl (put_num hA5 _ _ _ _)) rfl ⟨⟨_, _, _, _, _, rfl, fun h => by (rw [HB.out, HG.out] at h; cases h), fun _ => .inl (by decide)⟩, keeps_put (keeps_put (keeps_put (keeps_put HK.out (Nat.le_refl _) 0 _) (Nat.le_refl _) 1 _) (Nat.le_refl _) 2 _) (Nat.le_refl _) 3 _⟩
  | false =>
    have hd : digitC ((s[0]'h0).toNat : Int) = true := by rcases e1 with h | h <;> simp_all
    clear e1
    go_wp2_with (first
      | (go_at_call 267; refine (refDigit_of _ _).mono ?_; rintro _ _ ⟨rfl, rfl⟩))
    all_goals
      rw [← HW.out]
      go_loopw [7] (fun q W => ∃ j : Nat, q = .int .i64 j ∧ j ≤ s.size ∧ Keeps wA W) (fun q _ => s.size - (intOf q).toNat)
    case atStart => first | exact ⟨0, rfl, by omega, Keeps.refl _⟩ | exact ⟨1, rfl, by omega, Keeps.refl _⟩
    case round =>
      obtain ⟨j, rfl, hj, hk⟩ := hrel
      have hge : (0 : Int) ≤ j := by omega
      by_cases hlt : j < s.size
      · have hlt' : (j : Int) < s.size := by omega
        cases hdj : digitC ((s[j]'hlt).toNat : Int) with
        | true =>
          go_wp2_with (first
            | (go_at_call 267; refine (refDigit_of _ _).mono ?_; rintro _ _ ⟨rfl, rfl⟩))
          exact ⟨⟨j + 1, by simp, by omega, hk⟩, by simp [intOf]; omega⟩
        | false =>
          go_wp2_with (first
            | (go_at_call 267; refine (refDigit_of _ _).mono ?_; rintro _ _ ⟨rfl, rfl⟩)
            | (go_at_call 268; refine holdL ?_))
          refine Lib.hid ?_
          refine (refNumber_any _ _ (by rw [ByteArray.size_extract]; omega)).mono ?_
          rintro _ w3 ⟨⟨n, k, rfl⟩, hk3⟩
          replace hk3 := Keeps.trans hk hk3
          have hA5 : w3.heap[w.heap.size]? = some (tokObj 0 ⟨#[]⟩ 0) := hk3.at HA.out (fun x => x)
          obtain ⟨x0, x1, x2, x3⟩ := tok_cells hA5
          have y0 := tok_free hA5 0
          have y1 := tok_free hA5 1
          have y2 := tok_free hA5 2
          have y3 := tok_free hA5 3
          have HK := Lib.hid (Keeps.trans HKA.out hk3)
          clear hk3 hk
          by_cases hk0 : k = 0
          · subst hk0
            go_wp2_with (first
              | (go_at_call 269; refine (refInner_of _ _).mono ?_; rintro _ _ ⟨rfl, rfl⟩))
            all_goals first
              | exact bodyPost_ret (num_results2 rfl _ _ w.heap.size rfl (put_num hA5 _ _ _ _)) rfl ⟨⟨_, _, _, _, _, rfl, fun h => by (rw [HB.out, HG.out] at h; cases h), fun _ => .inl (by decide)⟩, keeps_put (keeps_put (keeps_put (keeps_put HK.out (Nat.le_refl _) 0 _) (Nat.le_refl _) 1 _) (Nat.le_refl _) 2 _) (Nat.le_refl _) 3 _⟩
              | exact bodyPost_ret (num_results2 rfl _ _ w.heap.size rfl (put_num hA5 _ _ _ _)) rfl ⟨⟨_, _, _, _, _, rfl, fun h => by (rw [HB.out, HG.out] at h; cases h), fun _ => .inr (by simp)⟩, keeps_put (keeps_put (keeps_put (keeps_put HK.out (Nat.le_refl _) 0 _) (Nat.le_refl _) 1 _) (Nat.le_refl _) 2 _) (Nat.le_refl _) 3 _⟩
          · have hkb : (k != 0) = true := by simpa using hk0
            clear hk0
            go_wp2_with fail
            exact bodyPost_ret (num_results2 rfl _ _ w.heap.size rfl (put_num hA5 _ _ _ _)) rfl ⟨⟨_, _, _, _, _, rfl, fun h => by (rw [HB.out, HG.out] at h; cases h), fun _ => .inl (by decide)⟩, keeps_put (keeps_put (keeps_put (keeps_put HK.out (Nat.le_refl _) 0 _) (Nat.le_refl _) 1 _) (Nat.le_refl _) 2 _) (Nat.le_refl _) 3 _⟩
      · have hlt' : ¬ (j : Int) < s.size := by omega
        go_wp2_with (first
          | (go_at_call 267; refine (refDigit_of _ _).mono ?_; rintro _ _ ⟨rfl, rfl⟩)
          | (go_at_call 268; refine holdL ?_))
        refine Lib.hid ?_
        refine (refNumber_any _ _ (by rw [ByteArray.size_extract]; omega)).mono ?_
        rintro _ w3 ⟨⟨n, k, rfl⟩, hk3⟩
        replace hk3 := Keeps.trans hk hk3
        have hA5 : w3.heap[w.heap.size]? = some (tokObj 0 ⟨#[]⟩ 0) := hk3.at HA.out (fun x => x)
        obtain ⟨x0, x1, x2, x3⟩ := tok_cells hA5
        have y0 := tok_free hA5 0
        have y1 := tok_free hA5 1
        have y2 := tok_free hA5 2
        have y3 := tok_free hA5 3
        have HK := Lib.hid (Keeps.trans HKA.out hk3)
        clear hk3 hk
        by_cases hk0 : k = 0
        · subst hk0
          go_wp2_with fail
          all_goals first
            | exact bodyPost_ret (num_results2 rfl _ _ w.heap.size rfl (put_num hA5 _ _ _ _)) rfl ⟨⟨_, _, _, _, _, rfl, fun h => by (rw [HB.out, HG.out] at h; cases h), fun _ => .inl (by decide)⟩, keeps_put (keeps_put (keeps_put (keeps_put HK.out (Nat.le_refl _) 0 _) (Nat.le_refl _) 1 _) (Nat.le_refl _) 2 _) (Nat.le_refl _) 3 _⟩
            | exact bodyPost_ret (num_results2 rfl _ _ w.heap.size rfl (put_num hA5 _ _ _ _)) rfl ⟨⟨_, _, _, _, _, rfl, fun h => by (rw [HB.out, HG.out] at h; cases h), fun _ => .inr (by simp)⟩, keeps_put (keeps_put (keeps_put (keeps_put HK.out (Nat.le_refl _) 0 _) (Nat.le_refl _) 1 _) (Nat.le_refl _) 2 _) (Nat.le_refl _) 3 _⟩
        · have hkb : (k != 0) = true := by simpa using hk0
          clear hk0
          go_wp2_with fail
          exact bodyPost_ret (num_results2 rfl _ _ w.heap.size rfl (put_num hA5 _ _ _ _)) rfl ⟨⟨_, _, _, _, _, rfl, fun h => by (rw [HB.out, HG.out] at h; cases h), fun _ => .inl (by decide)⟩, keeps_put (keeps_put (keeps_put (keeps_put HK.out (Nat.le_refl _) 0 _) (Nat.le_refl _) 1 _) (Nat.le_refl _) 2 _) (Nat.le_refl _) 3 _⟩
end Go.Proofs.YtfehlbepjmmkeaaGreatDoor
