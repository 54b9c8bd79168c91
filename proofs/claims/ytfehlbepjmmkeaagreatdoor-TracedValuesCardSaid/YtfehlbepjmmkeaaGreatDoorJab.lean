/-
  DERIVED. The scanner in memory; its starts. Condition: the scanner lies in memory; its text is short.
-/
import Derived.Test.YtfehlbepjmmkeaaGreatDoorJaa
import Derived.OrdersHeld
import Derived.StillTail
import Derived.Deep.AppendLies
namespace Go.Proofs.YtfehlbepjmmkeaaGreatDoor
open Go.RowKit

/-- The scanner, as it lies in memory. -/
def scObj (s : ByteArray) (i M : Nat) (v : Value) : Obj := .cells #[.string s, .int .i64 i, .map (some M), v] 286 (0, 0)
/-- What is thrown where a text is wrong. -/
def wrongE (a k : Int) : PanicEntry := { v := .iface 193 (.agg #[.int .i64 a, .int .i64 k]), recovered := false }
/-- Where the scanner stands. -/
def atC (sb : Nat) (W : World) : Nat := match W.cell? ⟨sb, 1, none⟩ with | some (.int _ n) => n.toNat | _ => 0
theorem sc_cells {w : World} {sb : Nat} {s : ByteArray} {i M : Nat} {v : Value} (h : w.heap[sb]? = some (scObj s i M v)) :
    w.cell? ⟨sb, 0, none⟩ = some (.string s) ∧ w.cell? ⟨sb, 1, none⟩ = some (.int .i64 i) ∧ w.cell? ⟨sb, 2, none⟩ = some (.map (some M)) ∧ w.cell? ⟨sb, 3, none⟩ = some v := by
  unfold scObj at h
  refine ⟨?_, ?_, ?_, ?_⟩ <;> (rw [cell_of_block h]; rfl)
theorem sc_free {w : World} {sb : Nat} {s : ByteArray} {i M : Nat} {v : Value} (h : w.heap[sb]? = some (scObj s i M v)) (o : Nat) : w.frozen? ⟨sb, o, none⟩ = false := free_of_block h o
theorem atC_of {w : World} {sb : Nat} {s : ByteArray} {i M : Nat} {v : Value} (h : w.heap[sb]? = some (scObj s i M v)) : atC sb w = i := by
  unfold atC; rw [(sc_cells h).2.1]; simp
theorem sc_set {w : World} {sb : Nat} {s : ByteArray} {i M : Nat} {v : Value} (h : w.heap[sb]? = some (scObj s i M v)) (x : Int) (j : Nat) (hx : x = j) : (w.setCell ⟨sb, 1, none⟩ (.int .i64 x)).heap[sb]? = some (scObj s j M v) := by
  unfold scObj at h ⊢
  rw [heap_set_same h, hx]; rfl

/-- One text begins with another one. -/
def hpB (s p : ByteArray) : Bool := decide (p.size ≤ s.size) && ((s.extract 0 p.size).toList == p.toList)
set_option maxHeartbeats 800000 in
theorem hasPrefixIn_of (s p : ByteArray) (w : World) : Calls Tryz.prog 290 #[.string s, .string p] w fun e w' => e = .returned (.bool (hpB s p)) ∧ w' = w := by
  by_cases h : p.size ≤ s.size
  · have h1 : ((p.size : Nat) : Int) ≤ (s.size : Nat) := by omega
    go_enter Tryz.func290, Tryz.ntmps290
    go_wp2
    go_ret
    exact ⟨by simp [hpB, h], rfl⟩
  · have h1 : ¬ ((p.size : Nat) : Int) ≤ (s.size : Nat) := by omega
    go_enter Tryz.func290, Tryz.ntmps290
    go_wp2
    go_ret
    exact ⟨by simp [hpB, h], rfl⟩
theorem hasPrefix_of (s p : ByteArray) (w : World) : Calls Tryz.prog 276 #[.string s, .string p] w fun e w' => e = .returned (.bool (hpB s p)) ∧ w' = w := by
  go_enter Tryz.func276, Tryz.ntmps276
  go_wp2_with (go_at_call 290; refine (hasPrefixIn_of _ _ _).mono ?_; rintro _ _ ⟨rfl, rfl⟩)
  go_ret
  exact ⟨rfl, rfl⟩
theorem toList_eq {a b : ByteArray} (h : a.toList = b.toList) : a = b := by
  apply ByteArray.ext
  have h1 : a.toList = a.data.toList := by simp [ByteArray.toList_eq]
  have h2 : b.toList = b.data.toList := by simp [ByteArray.toList_eq]
  rw [h1, h2] at h
  exact Array.toList_inj.1 h
theorem prefix_first {s p : ByteArray} {i : Nat} (hi : i ≤ s.size) (hp : 1 ≤ p.size) (h : hpB (s.extract i s.size) p = true) : i + p.size ≤ s.size ∧ byteC s i = byteC p (0 : Nat) := by
  unfold hpB at h
  simp only [Bool.and_eq_true, decide_eq_true_eq, beq_iff_eq] at h
  obtain ⟨h1, h2⟩ := h
  rw [extract_size (Nat.le_refl _)] at h1
  have hle : i + p.size ≤ s.size := by omega
  refine ⟨hle, ?_⟩
  have h3 := toList_eq h2
  have e1 : byteC p (0 : Nat) = byteC ((s.extract i s.size).extract 0 p.size) (0 : Nat) := by rw [h3]
  have hsz : 0 < ((s.extract i s.size).extract 0 p.size).size := by rw [h3]; omega
  rw [e1, byteC, byteC, dif_pos (by omega), dif_pos (by simpa using hsz)]
  congr 1
  congr 1
  simp [ByteArray.getElem_extract]

set_option maxHeartbeats 1600000 in
theorem starts_of (s p : ByteArray) (i b : Nat) (w : World) (h0 : w.cell? ⟨b, 0, none⟩ = some (.string s)) (h1 : w.cell? ⟨b, 1, none⟩ = some (.int .i64 i))
    (hi : i ≤ s.size) :
    Calls Tryz.prog 238 #[.pointer (some ⟨b, 0, none⟩), .string p] w fun e w' => e = .returned (.bool (hpB (s.extract i s.size) p)) ∧ Keeps w w' := by
  have hi' : (i : Int) ≤ s.size := by omega
  go_enter Tryz.func238, Tryz.ntmps238
  go_wp2
  go_region_held3 (fun W' => W'.cell? ⟨b, 0, none⟩ = some (.string s) ∧ W'.cell? ⟨b, 1, none⟩ = some (.int .i64 i)) (go_keep) (first | (go_at_call 276; refine (hasPrefix_of _ _ _).mono ?_; rintro _ _ ⟨rfl, rfl⟩))
  go_wp2
  go_ret
  exact ⟨rfl, Keeps.drew _⟩
end Go.Proofs.YtfehlbepjmmkeaaGreatDoor
namespace Go.Proofs.YtfehlbepjmmkeaaGreatDoor
open Go.RowKit
set_option maxHeartbeats 4000000 in
set_option maxRecDepth 100000 in
theorem comment_of (s : ByteArray) (i0 sb M : Nat) (v : Value) (w : World) (h : w.heap[sb]? = some (scObj s i0 M v)) (hs : s.size ≤ 1000) (hi : i0 ≤ s.size) :
    Calls Tryz.prog 239 #[.pointer (some ⟨sb, 0, none⟩)] w fun e w' => ∃ i : Nat, i0 ≤ i ∧ i ≤ s.size ∧ w'.heap[sb]? = some (scObj s i M v) ∧ Kept (fun b => b = sb) w w' ∧
      ((e = .returned (.tuple #[]) ∧ i0 < i) ∨ ∃ a k, e = .panicked [wrongE a k] ∧ k ≠ 0) := by
  obtain ⟨c0, c1, _, _⟩ := sc_cells h
  have H := Lib.hid h
  clear h
  go_enter Tryz.func239, Tryz.ntmps239
  go_wp2
  clear c0 c1
  go_loopw [3] (fun q W => ∃ (i : Nat) (o : Int), q = .int .i64 o ∧ i0 ≤ i ∧ i ≤ s.size ∧ -(i : Int) ≤ o ∧ o ≤ 100 ∧ W.heap[sb]? = some (scObj s i M v) ∧ Kept (fun b => b = sb) w W) (fun _ W => s.size - atC sb W)
  case atStart => exact ⟨i0, 0, rfl, Nat.le_refl _, hi, by omega, by omega, H.out, Kept.refl _ _⟩
  case round =>
    obtain ⟨i, o, rfl, hi0, his, ho1, ho2, hb, hk⟩ := hrel
    obtain ⟨c0, c1, _, _⟩ := sc_cells hb
    have f1 := sc_free hb 1
    have hat := atC_of hb
    have HB := Lib.hid hb
    have HK := Lib.hid hk
    have HAt := Lib.hid hat
    clear hb hk hat
    have hp2 : ∀ p : ByteArray, p.size = 2 → hpB (s.extract i s.size) p = true → i + 2 ≤ s.size := fun p hp h => by have := (prefix_first his (by omega) h).1; omega
    by_cases hlt : i < s.size
    · have hlt' : ¬ (s.size : Int) ≤ i := by omega
      go_wp2
      go_region_held3 (fun W' => W'.cell? ⟨sb, 0, none⟩ = some (.string s) ∧ W'.cell? ⟨sb, 1, none⟩ = some (.int .i64 i)) (go_keep) (first | fail)
      have hbX : wr.drew.heap[sb]? = some (scObj s i M v) := HB.out
      have hkX : Keeps wr wr.drew := Keeps.drew _
      go_wp2_with (go_at_call 238; refine (starts_of s _ i sb _ (by exact c0) (by exact c1) his).mono ?_; rintro _ w2 ⟨rfl, hk2⟩; (have hbX := hk2.at hbX (fun x => x)); (have hkX := Keeps.trans hkX hk2); clear hk2 c0 c1 f1; obtain ⟨c0, c1, -, -⟩ := sc_cells hbX; (have f1 := sc_free hbX 1))
      all_goals (have HKX := Kept.trans HK.out hkX (fun _ _ x => x.elim))
      · exact ⟨rfl, i, hi0, his, hbX, HKX, .inr ⟨_, _, rfl, by decide⟩⟩
      · have h2 := hp2 _ rfl (by assumption)
        have hb3 := sc_set hbX ((i : Int) + 2) (i + 2) (by omega)
        exact ⟨⟨i + 2, o + 1, rfl, by omega, by omega, by omega, by omega, hb3, HKX.setCell (p := ⟨sb, 1, none⟩) (fun _ => rfl) _⟩, by rw [atC_of hb3, HAt.out]; omega⟩
      · have h2 := hp2 _ rfl (by assumption)
        have hb3 := sc_set hbX ((i : Int) + 2) (i + 2) (by omega)
        refine bodyPost_ret (results_none rfl _ _ _) rfl ?_
        exact ⟨i + 2, by omega, by omega, hb3, HKX.setCell (p := ⟨sb, 1, none⟩) (fun _ => rfl) _, .inl ⟨rfl, by omega⟩⟩
      · have h2 := hp2 _ rfl (by assumption)
        have hb3 := sc_set hbX ((i : Int) + 2) (i + 2) (by omega)
        exact ⟨⟨i + 2, o - 1, rfl, by omega, by omega, by omega, by omega, hb3, HKX.setCell (p := ⟨sb, 1, none⟩) (fun _ => rfl) _⟩, by rw [atC_of hb3, HAt.out]; omega⟩
      · have hb3 := sc_set hbX ((i : Int) + 1) (i + 1) (by omega)
        exact ⟨⟨i + 1, o, rfl, by omega, by omega, by omega, by omega, hb3, HKX.setCell (p := ⟨sb, 1, none⟩) (fun _ => rfl) _⟩, by rw [atC_of hb3, HAt.out]; omega⟩
    · obtain rfl : i = s.size := by omega
      go_wp2
      go_region_held3 (fun W' => W'.cell? ⟨sb, 0, none⟩ = some (.string s) ∧ W'.cell? ⟨sb, 1, none⟩ = some (.int .i64 s.size)) (go_keep) (first | fail)
      go_wp2
      exact ⟨rfl, s.size, hi0, his, HB.out, HK.out.drew, .inr ⟨_, _, rfl, by decide⟩⟩
end Go.Proofs.YtfehlbepjmmkeaaGreatDoor
namespace Go.Proofs.YtfehlbepjmmkeaaGreatDoor
section
variable {P : Program} {ops : Array Oper} {Q : Exit → Act → World → Prop} {md : Region.Mode} {S : World → Prop} {q : Nat}
/-- Whatever order is picked; S holds behind the operations below q. -/
def wpAnyT (P : Program) (md : Region.Mode) (ops : Array Oper) (Q : Exit → Act → World → Prop) (S : World → Prop) (q : Nat) : Nat → Array Bool → Act → World → Prop
  | 0, listed, a, w => Region.ready md ops listed = [] ∧ Q .normal a w
  | fuel + 1, listed, a, w =>
    (Region.ready md ops listed = [] → Q .normal a w) ∧
    ∀ i ∈ Region.ready md ops listed, wpOp P ops Q i (fun a' w' => (i < q → S w') ∧ wpAnyT P md ops Q S q fuel (listed.setIfInBounds i true) a' w') a w
theorem put_defers (a : Act) (d : Option Tmp) (v : Value) : (a.put d v).defers = a.defers := by cases d <;> rfl
theorem any_of_T : ∀ (fuel : Nat) (listed : Array Bool) (a : Act) (w : World), wpAnyT P md ops Q S q fuel listed a w → wpAny P md ops Q fuel listed a w
  | 0, _, _, _, h => h
  | fuel + 1, _, _, _, h => ⟨h.1, fun i hi => wpOp_mono (fun a' w' h' => any_of_T fuel _ a' w' h'.2) (h.2 i hi)⟩
theorem T_first {i : Nat} {oi : Oper} {v : Value} (hi : ops[i]? = some oi) (hsel : ∀ (j : Nat) (o : Oper) cs b, ops[j]? = some o → o.op ≠ .select cs b)
    (hQ : ∀ c a w, Q (.panic c) (a.put oi.dst v) w → Q (.panic c) a w) (hq : ∀ j oj, ops[j]? = some oj → q ≤ j → ∃ e ∈ oj.after, Region.binds md e = true ∧ e.on = i) (hiq : i < q) :
    ∀ (fuel : Nat) (listed : Array Bool) (a : Act) (w : World),
      (∀ j oj, ops[j]? = some oj → j ≠ i → listed.getD j true = false → (∀ e ∈ oj.after, Region.binds md e = true → e.on ≠ i) → oi.apart ops oj = true) →
      i ∈ Region.ready md ops listed → YieldsIf P ops S oi v a → S w →
      wpAnyT P md ops Q S q fuel (listed.setIfInBounds i true) (a.put oi.dst v) w → wpAnyT P md ops Q S q (fuel + 1) listed a w := by
  intro fuel
  induction fuel with
  | zero =>
    intro listed a w _ hr hy hS H
    refine ⟨fun h => (by rw [h] at hr; cases hr), fun j hj => ?_⟩
    by_cases hji : j = i
    · subst hji; exact hy.wpOp hi hS ⟨fun _ => hS, H⟩
    · have := ready_mono hj hji
      rw [H.1] at this
      cases this
  | succ fuel ih =>
    intro listed a w hfree hr hy hS H
    refine ⟨fun h => (by rw [h] at hr; cases hr), fun j hj => ?_⟩
    by_cases hji : j = i
    · subst hji; exact hy.wpOp hi hS ⟨fun _ => hS, H⟩
    · have h1 := H.2 j (ready_mono hj hji)
      obtain ⟨hjun, oj, hoj, hall⟩ := mem_ready.1 hj
      have hnot : ∀ e ∈ oj.after, Region.binds md e = true → e.on ≠ i := fun e he hb heq => by
        have h1 := hall e he hb
        have h0 := (mem_ready.1 hr).1
        rw [heq] at h1
        rcases Nat.lt_or_ge i listed.size with h' | h'
        · simp [h'] at h0 h1; rw [h0] at h1; cases h1
        · simp [Array.getElem?_eq_none h'] at h1
      have hjq : j < q := by
        rcases Nat.lt_or_ge j q with h | h
        · exact h
        · obtain ⟨e, he, hb, hon⟩ := hq j oj hoj h
          exact absurd hon (hnot e he hb)
      have h2 := wpOp_putIf hoj (hfree j oj hoj hji hjun hnot) (fun cs b => hsel i oi cs b hi) (fun cs b => hsel j oj cs b hoj) hQ hy h1
      have hfree' : ∀ k ok, ops[k]? = some ok → k ≠ i → (listed.setIfInBounds j true).getD k true = false →
          (∀ e ∈ ok.after, Region.binds md e = true → e.on ≠ i) → oi.apart ops ok = true := fun k ok hk hki hun hno => by
        refine hfree k ok hk hki ?_ hno
        by_cases hjk : j = k
        · subst hjk; exact hjun
        · rw [getD_set_ne true hjk] at hun; exact hun
      refine wpOp_mono (fun a' w' h3 => ⟨h3.2.1, ih (listed.setIfInBounds j true) a' w' hfree' (ready_mono hr (Ne.symm hji)) h3.1 (h3.2.1 hjq) ?_⟩) h2
      rw [Array.setIfInBounds_comm _ _ hji]
      exact h3.2.2
theorem T_of_seq : ∀ (l : List Oper) (k : Nat) (listed : Array Bool) (a : Act) (w : World), q ≤ k → (∀ j, l[j]? = ops[k + j]?) →
    Region.seqB md ops l.length k listed = true → wpList P ops Q l a w → wpAnyT P md ops Q S q l.length listed a w
  | [], _, _, _, _, _, _, hB, h => ⟨by simpa [Region.seqB] using hB, h⟩
  | o :: l, k, listed, a, w, hq, hl, hB, h => by
    have h0 : ops[k]? = some o := by simpa using (hl 0).symm
    simp only [List.length_cons, Region.seqB, Bool.and_eq_true, decide_eq_true_eq] at hB
    refine ⟨fun h1 => (by rw [hB.1] at h1; cases h1), fun i hi => ?_⟩
    rw [hB.1] at hi
    have hik : i = k := by simpa using hi
    subst hik
    have hw : wpOp P ops Q i (wpList P ops Q l) a w := by unfold wpOp; simp only [h0]; exact h
    exact wpOp_mono (fun a' w' h' => ⟨fun h => absurd h (Nat.not_lt.2 hq), T_of_seq l (i + 1) _ a' w' (by omega) (fun j => by have := hl (j + 1); simpa [Nat.add_assoc, Nat.add_comm 1 j] using this) hB.2 h'⟩) hw
/-- Operations that yield a value each in every world that meets S. -/
def wpYields (P : Program) (ops : Array Oper) (S : World → Prop) (L : Act → Prop) : List Oper → Act → Prop
  | [], a => L a
  | o :: l, a => ∃ v, YieldsIf P ops S o v a ∧ wpYields P ops S L l (a.put o.dst v)
/-- The first operations may be taken one behind the other; then come numbers n and n + 1, then the rest one behind the other. -/
def lexT (md : Region.Mode) (ops : Array Oper) (n g : Nat) : Nat → Nat → Array Bool → Bool
  | 0, k, listed => decide (Region.ready md ops listed = [k]) && decide (Region.ready md ops (listed.setIfInBounds k true) = [k + 1]) && Region.seqB md ops g (k + 2) ((listed.setIfInBounds k true).setIfInBounds (k + 1) true)
  | f + 1, k, listed => (Region.ready md ops listed).contains k && Region.free md ops listed k && ((List.range ops.size).all fun j => decide (j ≤ n + 1) || Region.waitsFor md ops j k) && lexT md ops n g f (k + 1) (listed.setIfInBounds k true)
theorem T_lex {n g : Nat} (hsel : Region.noSelect ops = true) {tl : List Oper} (htl : ∀ j, tl[j]? = ops[n + 2 + j]?) (hg : tl.length = g) :
    ∀ (l : List Oper) (k : Nat) (listed : Array Bool) (a : Act) (w : World), (∀ j, j < l.length → l[j]? = ops[k + j]?) → k + l.length = n → (∀ c (a a' : Act) w, a'.defers = a.defers → Q (.panic c) a' w → Q (.panic c) a w) →
    lexT md ops n g l.length k listed = true → S w → wpYields P ops S (fun a' => wpOp P ops Q n (fun a2 w2 => S w2 ∧ wpOp P ops Q (n + 1) (fun a3 w3 => S w3 ∧ wpList P ops Q tl a3 w3) a2 w2) a' w) l a → wpAnyT P md ops Q S (n + 2) (l.length + (g + 2)) listed a w
  | [], k, listed, a, w, _, hk, hQ, hB, hS, h => by
    have hkn : k = n := by simpa using hk
    subst hkn
    simp only [List.length_nil, lexT, Bool.and_eq_true, decide_eq_true_eq] at hB
    rw [List.length_nil, Nat.zero_add]
    refine ⟨fun h1 => (by rw [hB.1.1] at h1; cases h1), fun i hi => ?_⟩
    rw [hB.1.1] at hi
    have hik : i = k := by simpa using hi
    subst hik
    have h9 : wpOp P ops Q i (fun a2 w2 => S w2 ∧ wpOp P ops Q (i + 1) (fun a3 w3 => S w3 ∧ wpList P ops Q tl a3 w3) a2 w2) a w := h
    refine wpOp_mono (fun a' w' h' => ⟨fun _ => h'.1, ?_⟩) h9
    refine ⟨fun h1 => (by rw [hB.1.2] at h1; cases h1), fun j hj => ?_⟩
    rw [hB.1.2] at hj
    have hji : j = i + 1 := by simpa using hj
    subst hji
    refine wpOp_mono (fun a2 w2 h2 => ⟨fun _ => h2.1, ?_⟩) h'.2
    have := T_of_seq (S := S) (q := i + 2) tl (i + 2) _ a2 w2 (Nat.le_refl _) htl (by rw [hg]; exact hB.2) h2.2
    rw [hg] at this
    exact this
  | o :: l, k, listed, a, w, hl, hk, hQ, hB, hS, h => by
    have h0 : ops[k]? = some o := by simpa using (hl 0 (by simp)).symm
    simp only [List.length_cons, lexT, Bool.and_eq_true] at hB
    obtain ⟨⟨⟨hr, hf⟩, hw⟩, hB'⟩ := hB
    obtain ⟨v, hy, hK⟩ := h
    rw [List.length_cons, show l.length + 1 + (g + 2) = (l.length + (g + 2)) + 1 by omega]
    refine T_first (q := n + 2) h0 (Region.noSelect_spec hsel) (fun c a w h => hQ c a _ w (put_defers a _ _) h) (fun j oj hj hjq => ?_) (by simp only [List.length_cons] at hk; omega) _ listed a w (Region.free_spec h0 hf) (by simpa using hr) hy hS
      (T_lex hsel htl hg l (k + 1) _ _ w (fun j hj => by have := hl (j + 1) (by simp; omega); simpa [Nat.add_assoc, Nat.add_comm 1 j] using this) (by simp only [List.length_cons] at hk; omega) hQ hB' hS hK)
    have h1 := List.all_eq_true.1 hw j (List.mem_range.2 (Array.getElem?_eq_some_iff.1 hj).1)
    simp only [Bool.or_eq_true, decide_eq_true_eq] at h1
    rcases h1 with h1 | h1
    · omega
    · obtain ⟨o', ho', e, he, hb, hon⟩ := Region.waitsFor_spec h1
      have : o' = oj := Option.some.inj (ho'.symm.trans hj)
      subst this
      exact ⟨e, he, hb, hon⟩
/-- An operation without a guard is run. -/
theorem wpOp_of {i : Nat} {o : Oper} {K : Act → World → Prop} {a : Act} {w : World} (hi : ops[i]? = some o) (hg : o.guard = none) (h : o.wp P a w K Q) : wpOp P ops Q i K a w := by
  have hw : Region.wanted o (yielded ops a.tmps) = true := by simp [Region.wanted, hg]
  unfold wpOp
  simp only [hi]
  rw [if_pos hw]
  exact .inl h
/-- Such a region: the first n operations are read where S holds; numbers n and n + 1 are run, S holds behind each; then the rest is run. -/
theorem wp_region_lex {id : Nat} {a : Act} {w : World} {l : List Oper} (n : Nat) (S : World → Prop) (hm : P.follows .mixedOrders = true) (hB : (Region.noSelect l.toArray && decide (n + 1 < l.length) && lexT .any l.toArray n (l.length - n - 2) n 0 (Array.replicate l.length false)) = true)
    (hQ : ∀ c (a a' : Act) w, a'.defers = a.defers → Q (.panic c) a' w → Q (.panic c) a w) (hS : S w.drew)
    (h : wpYields P l.toArray S (fun a' => wpOp P l.toArray Q n (fun a2 w2 => S w2 ∧ wpOp P l.toArray Q (n + 1) (fun a3 w3 => S w3 ∧ wpList P l.toArray Q (l.drop (n + 2)) a3 w3) a2 w2) a' w.drew) (l.take n) a) : (Code.region id l.toArray true).wp P Q a w := by
  simp only [Bool.and_eq_true, decide_eq_true_eq] at hB
  obtain ⟨⟨hsel, hn⟩, hlex⟩ := hB
  have htl : (l.take n).length = n := by simp; omega
  have H := T_lex (md := .any) (S := S) (Q := Q) (P := P) (n := n) (g := l.length - n - 2) hsel (tl := l.drop (n + 2)) (fun j => by simp [List.getElem?_drop]) (by simp; omega) (l.take n) 0 (Array.replicate l.length false) a w.drew
    (fun j hj => by
      have hj' : j < n := by rw [htl] at hj; exact hj
      simp [hj']) (by simpa using htl) hQ (by rw [htl]; exact hlex) hS h
  rw [htl, show n + (l.length - n - 2 + 2) = l.length by omega] at H
  refine wp_region_any hm ?_
  have h2 := any_of_T _ _ _ _ H
  simpa using h2
theorem oper_then {o : Oper} {K : Act → World → Prop} {a : Act} {r : Result Next} (h : o.upon P a (wpList P ops (Exit.then K Q) []) (Exit.then K Q) r) : o.upon P a K Q r := by
  revert h
  unfold Oper.upon
  split <;> exact id
/-- An operation as a list of its own. -/
theorem wpOp_of_list {i : Nat} {o : Oper} {K : Act → World → Prop} {a : Act} {w : World} (hi : ops[i]? = some o) (h : wpList P ops (Exit.then K Q) [o] a w) : wpOp P ops Q i K a w := by
  unfold wpOp
  simp only [hi]
  simp only [wpList] at h
  split
  · rename_i hw
    rw [if_pos hw] at h
    exact h.imp (oper_then (ops := ops)) id
  · rename_i hw
    rw [if_neg hw] at h
    exact h
/-- As wp_region_lex, numbers n and n + 1 as lists of their own. -/
theorem wp_region_lexL {id : Nat} {a : Act} {w : World} {l : List Oper} (n : Nat) (S : World → Prop) (o1 o2 : Oper) (hm : P.follows .mixedOrders = true) (hB : (Region.noSelect l.toArray && decide (n + 1 < l.length) && lexT .any l.toArray n (l.length - n - 2) n 0 (Array.replicate l.length false)) = true)
    (hQ : ∀ c (a a' : Act) w, a'.defers = a.defers → Q (.panic c) a' w → Q (.panic c) a w) (hS : S w.drew) (h1 : l[n]? = some o1) (h2 : l[n + 1]? = some o2)
    (h : wpYields P l.toArray S (fun a' => wpList P l.toArray (Exit.then (fun a2 w2 => S w2 ∧ wpList P l.toArray (Exit.then (fun a3 w3 => S w3 ∧ wpList P l.toArray Q (l.drop (n + 2)) a3 w3) Q) [o2] a2 w2) Q) [o1] a' w.drew) (l.take n) a) : (Code.region id l.toArray true).wp P Q a w := by
  refine wp_region_lex n S hm hB hQ hS ?_
  have hmono : ∀ {L L' : Act → Prop}, (∀ a, L a → L' a) → ∀ (m : List Oper) (a : Act), wpYields P l.toArray S L m a → wpYields P l.toArray S L' m a := by
    intro L L' hL m
    induction m with
    | nil => exact fun a h => hL a h
    | cons o m ih => exact fun a ⟨v, hy, hk⟩ => ⟨v, hy, ih _ hk⟩
  refine hmono (fun a' ha => ?_) _ _ h
  exact wpOp_mono (fun a2 w2 hs => ⟨hs.1, wpOp_of_list (by simpa using h2) hs.2⟩) (wpOp_of_list (by simpa using h1) ha)
end
end Go.Proofs.YtfehlbepjmmkeaaGreatDoor
namespace Go.Proofs.YtfehlbepjmmkeaaGreatDoor
open Go.RowKit
/-- Blocks that the scanner may change: itself, and rows of spans, made since a time. -/
def scTy (B : Nat) (w : World) (b : Nat) : Prop := B ≤ b ∧ ((∃ c fr, w.heap[b]? = some (.cells c 286 fr)) ∨ ∃ c fr, w.heap[b]? = some (.cells c 314 fr))
abbrev ScK (B : Nat) (w w' : World) : Prop := Kept (scTy B w) w w'
theorem ScK.trans {B : Nat} {a b c : World} (h : ScK B a b) (k : ScK B b c) : ScK B a c := Kept.trans h k (fun x hx ht => by
  by_cases hs : scTy B a x
  · exact hs
  · refine absurd ?_ hs
    have e := h.block x hx hs
    unfold scTy at ht ⊢
    rw [e] at ht
    exact ht)
theorem ScK.refl (B : Nat) (w : World) : ScK B w w := Kept.refl _ w
theorem Keeps.sck {B : Nat} {w w' : World} (h : Keeps w w') : ScK B w w' := Kept.mono h (fun _ _ x => x.elim)
theorem sc_ty {B sb : Nat} {w : World} {s : ByteArray} {i M : Nat} {v : Value} (hB : B ≤ sb) (h : w.heap[sb]? = some (scObj s i M v)) : scTy B w sb := ⟨hB, .inl ⟨_, _, h⟩⟩
theorem Kept.scOne {B sb : Nat} {w w' : World} {s : ByteArray} {i M : Nat} {v : Value} (h : Kept (fun b => b = sb) w w') (hB : B ≤ sb) (ho : w.heap[sb]? = some (scObj s i M v)) : ScK B w w' := Kept.mono h (fun x _ e => by subst e; exact sc_ty hB ho)
/-- The scanner with its row of comments. -/
structure ScAt (B sb M : Nat) (s : ByteArray) (i : Nat) (w : World) : Prop where
  obj : ∃ v n xs, w.heap[sb]? = some (scObj s i M v) ∧ w.ownsRow B 314 2 v n xs ∧ n ≤ i
  le : B ≤ sb
  lt : i ≤ s.size
theorem info314 : (Tryz.prog.info? 314).map (fun i => (i.zero, i.size, i.bytes)) = some (some (.agg #[.int .i64 0, .int .i64 0]), 2, 16) := by kernel_rfl
theorem under284 : Tryz.prog.underlying 284 = some (.slice 314) := by kernel_rfl
theorem sc_set3 {w : World} {sb : Nat} {s : ByteArray} {i M : Nat} {v : Value} (h : w.heap[sb]? = some (scObj s i M v)) (u : Value) : (w.setCell ⟨sb, 3, none⟩ u).heap[sb]? = some (scObj s i M u) := by
  unfold scObj at h ⊢
  rw [heap_set_same h]; rfl
theorem own_keep {W W' : World} {B sb M i n : Nat} {s : ByteArray} {v u : Value} {xs : List Value} (h : W.ownsRow B 314 2 v n xs) (hk : Kept (fun b => b = sb) W W') (hb : W.heap[sb]? = some (scObj s i M u)) : W'.ownsRow B 314 2 v n xs :=
  row_same h fun g hg => by
    obtain ⟨cur, hc⟩ := row_block h hg
    refine hk.block g (heap_lt hc) (fun e => ?_)
    subst e
    rw [hb] at hc
    unfold scObj at hc
    simp at hc
theorem own_ne {W : World} {B sb M i n : Nat} {s : ByteArray} {v u : Value} {xs : List Value} (h : W.ownsRow B 314 2 v n xs) (hb : W.heap[sb]? = some (scObj s i M u)) : v.ownBlock ≠ some sb := fun e => by
  obtain ⟨cur, hc⟩ := row_block h e
  rw [hb] at hc
  unfold scObj at hc
  simp at hc
theorem own_ty {W : World} {B n : Nat} {v : Value} {xs : List Value} (h : W.ownsRow B 314 2 v n xs) (g : Nat) (hg : v.ownBlock = some g) : scTy B W g := by
  obtain ⟨cur, hc⟩ := row_block h hg
  exact ⟨(h.lt g hg).1, .inr ⟨_, _, hc⟩⟩
theorem calm_run {s : ByteArray} {i : Nat} (h : i = s.size ∨ greatC (byteC s i) = true) : runC spaceC s i = 0 := by
  rcases h with h | h
  · exact runC_end (by omega)
  · refine runC_no ?_
    unfold greatC at h
    simp at h
    simp [spaceC]
    omega
theorem calm_start {s : ByteArray} {i : Nat} (hi : i ≤ s.size) (h : i = s.size ∨ greatC (byteC s i) = true) (hp : hpB (s.extract i s.size) ⟨#[40, 42]⟩ = true) : False := by
  obtain ⟨h1, h2⟩ := prefix_first hi (by decide) hp
  have e1 : (⟨#[40, 42]⟩ : ByteArray).size = 2 := rfl
  rw [e1] at h1
  rcases h with h | h
  · omega
  · rw [h2] at h
    have : byteC (⟨#[40, 42]⟩ : ByteArray) (0 : Nat) = 40 := by decide
    rw [this] at h
    revert h; decide
theorem add_spaces (i : Nat) (s : ByteArray) : i ≤ s.size → i + runC spaceC s i ≤ s.size := fun h => by have := runC_le spaceC s i; omega
set_option maxHeartbeats 8000000 in
set_option maxRecDepth 100000 in
theorem pass_of (B sb M : Nat) (s : ByteArray) (i0 : Nat) (w : World) (h : ScAt B sb M s i0 w) (hs : s.size ≤ 1000) :
    Calls Tryz.prog 194 #[.pointer (some ⟨sb, 0, none⟩)] w fun e w' => ∃ i : Nat, i0 ≤ i ∧ ScAt B sb M s i w' ∧ ScK B w w' ∧
      ((e = .returned (.tuple #[]) ∧ ((i0 = s.size ∨ greatC (byteC s i0) = true) → i = i0)) ∨ ∃ a k, e = .panicked [wrongE a k] ∧ k ≠ 0 ∧ ¬ (i0 = s.size ∨ greatC (byteC s i0) = true)) := by
  have H := Lib.hid h
  have hle := h.le
  clear h
  go_enter Tryz.func194, Tryz.ntmps194
  go_wp2_with fail
  go_loopw [] (fun W => ∃ i : Nat, i0 ≤ i ∧ ScAt B sb M s i W ∧ ScK B w W ∧ ((i0 = s.size ∨ greatC (byteC s i0) = true) → i = i0)) (fun W => s.size - atC sb W)
  case atStart => exact ⟨i0, Nat.le_refl _, H.out, ScK.refl _ _, fun _ => rfl⟩
  case round =>
    obtain ⟨i, hi0, hsc, hk, hcalm⟩ := hrel
    obtain ⟨⟨v, n, xs, hb, hown, hn⟩, _, his⟩ := hsc
    obtain ⟨c0, c1, c2, c3⟩ := sc_cells hb
    have f1 := sc_free hb 1
    have hat := atC_of hb
    have HB := Lib.hid hb
    have HK := Lib.hid hk
    have HAt := Lib.hid hat
    have HO := Lib.hid hown
    have HC := Lib.hid hcalm
    clear hb hk hat hown hcalm c2 c3
    obtain ⟨r, hr⟩ : ∃ r, r = runC spaceC s i := ⟨_, rfl⟩
    have hir : i + r ≤ s.size := by have := runC_le spaceC s i; omega
    have hrun : ∀ W : World, W.cell? ⟨sb, 0, none⟩ = some (.string s) → W.cell? ⟨sb, 1, none⟩ = some (.int .i64 i) → Calls Tryz.prog 236 #[.pointer (some ⟨sb, 0, none⟩), .int .i64 0, .func (.func 237) #[] #[]] W fun e w' => e = .returned (.int .i64 r) ∧ Keeps W w' := fun W h0 h1 => by
      have := runSpace_of s i 0 sb W h0 h1 (by omega) (by omega) (by omega)
      rw [hr]; exact this
    go_wp2_with fail
    refine wp_region_lexL 8 (fun W' => W'.cell? ⟨sb, 1, none⟩ = some (.int .i64 i) ∧ W'.heap[sb]? = some (scObj s i M v)) _ _ (by kernel_rfl) (by kernel_rfl) (by rintro c ⟨_, _⟩ ⟨_, _⟩ w rfl h; exact h) ⟨c1, HB.out⟩ rfl rfl ?_
    simp only [List.take_succ_cons, List.take_zero, List.drop_succ_cons, List.drop_zero]
    refine ⟨?_, Or.inl ⟨by rfl, ?_⟩, ?_⟩
    rotate_left
    · intro W2 hW2
      obtain ⟨s0, s1⟩ := hW2
      go_simp
      try with_reducible rfl
    simp only [Act.put, List.setIfInBounds_toArray, List.set_cons_zero, List.set_cons_succ]
    refine ⟨?_, Or.inl ⟨by rfl, ?_⟩, ?_⟩
    rotate_left
    · intro W2 hW2
      obtain ⟨s0, s1⟩ := hW2
      go_simp
      try with_reducible rfl
    simp only [Act.put, List.setIfInBounds_toArray, List.set_cons_zero, List.set_cons_succ]
    refine ⟨?_, Or.inl ⟨by rfl, ?_⟩, ?_⟩
    rotate_left
    · intro W2 hW2
      obtain ⟨s0, s1⟩ := hW2
      go_simp
      try with_reducible rfl
    simp only [Act.put, List.setIfInBounds_toArray, List.set_cons_zero, List.set_cons_succ]
    refine ⟨?_, Or.inl ⟨by rfl, ?_⟩, ?_⟩
    rotate_left
    · intro W2 hW2
      obtain ⟨s0, s1⟩ := hW2
      go_simp
      try with_reducible rfl
    simp only [Act.put, List.setIfInBounds_toArray, List.set_cons_zero, List.set_cons_succ]
    refine ⟨?_, Or.inl ⟨by rfl, ?_⟩, ?_⟩
    rotate_left
    · intro W2 hW2
      obtain ⟨s0, s1⟩ := hW2
      go_simp
      try with_reducible rfl
    simp only [Act.put, List.setIfInBounds_toArray, List.set_cons_zero, List.set_cons_succ]
    refine ⟨?_, Or.inl ⟨by rfl, ?_⟩, ?_⟩
    rotate_left
    · intro W2 hW2
      obtain ⟨s0, s1⟩ := hW2
      go_simp
      try with_reducible rfl
    simp only [Act.put, List.setIfInBounds_toArray, List.set_cons_zero, List.set_cons_succ]
    refine ⟨?_, Or.inl ⟨by rfl, ?_⟩, ?_⟩
    rotate_left
    · intro W2 hW2
      obtain ⟨s0, s1⟩ := hW2
      go_simp
      try with_reducible rfl
    simp only [Act.put, List.setIfInBounds_toArray, List.set_cons_zero, List.set_cons_succ]
    refine ⟨?_, Or.inl ⟨by rfl, ?_⟩, ?_⟩
    rotate_left
    · intro W2 hW2
      obtain ⟨s0, s1⟩ := hW2
      go_simp
      try with_reducible rfl
    simp only [Act.put, List.setIfInBounds_toArray, List.set_cons_zero, List.set_cons_succ]
    simp only [wpYields]
    have HR := Lib.hid hrun
    have HR0 := Lib.hid hr
    clear hrun hr
    go_wp2_with (go_at_call 236; refine (HR.out _ (by exact c0) (by exact c1)).mono ?_; rintro _ w2 ⟨rfl, hk2⟩)
    have hb2 : w2.heap[sb]? = some (scObj s i M v) := hk2.at HB.out (fun x => x)
    have d1 := (sc_cells hb2).2.1
    have f2 := sc_free hb2 1
    refine ⟨⟨d1, hb2⟩, ?_⟩
    go_wp2_with fail
    refine ⟨⟨d1, hb2⟩, ?_⟩
    have hb3 := sc_set hb2 ((i : Int) + r) (i + r) (by omega)
    have hK3 : ScK B wr (w2.setCell ⟨sb, 1, none⟩ (.int .i64 ((i : Int) + r))) := by
      have h1 : Kept (fun b => b = sb) wr (w2.setCell ⟨sb, 1, none⟩ (.int .i64 ((i : Int) + r))) := Kept.setCell (S := fun b => b = sb) (Kept.mono (Keeps.trans (Keeps.drew wr) hk2) (fun _ _ x => x.elim)) (p := ⟨sb, 1, none⟩) (fun _ => rfl) _
      exact h1.scOne hle HB.out
    have hKsb : Kept (fun b => b = sb) wr (w2.setCell ⟨sb, 1, none⟩ (.int .i64 ((i : Int) + r))) := Kept.setCell (S := fun b => b = sb) (Kept.mono (Keeps.trans (Keeps.drew wr) hk2) (fun _ _ x => x.elim)) (p := ⟨sb, 1, none⟩) (fun _ => rfl) _
    obtain ⟨w3, hw3⟩ : ∃ w3, w3 = w2.setCell ⟨sb, 1, none⟩ (.int .i64 ((i : Int) + r)) := ⟨_, rfl⟩
    rw [← hw3] at hb3 hK3 hKsb
    obtain ⟨e0, e1, -, -⟩ := sc_cells hb3
    have HB3 := Lib.hid hb3
    have HK3 := Lib.hid hK3
    have HKsb := Lib.hid hKsb
    clear hb3 hK3 hKsb
    go_wp2_with (first
      | (go_at_call 238; rw [← hw3]; refine (starts_of s _ (i + r) sb _ e0 e1 hir).mono ?_; rintro _ w4 ⟨rfl, hk4⟩; (have hb4 := hk4.at HB3.out (fun x => x)); obtain ⟨-, g1, -, -⟩ := sc_cells hb4)
      | (go_at_call 239; refine (comment_of s (i + r) sb M v _ hb4 hs hir).mono ?_; rintro _ w5 ⟨j, hj1, hj2, hb5, hk5, (⟨rfl, hlt⟩ | ⟨a, k, rfl, hk0⟩)⟩))
    · refine bodyPost_ret (results_none rfl _ _ _) rfl ?_
      have hq4 : Kept (fun b => b = sb) wr w4 := Kept.trans HKsb.out (Kept.mono hk4 (fun _ _ x => x.elim)) (fun _ _ x => x)
      have hO4 := own_keep HO.out hq4 HB.out
      refine ⟨i + r, by omega, ⟨⟨v, n, xs, hb4, hO4, by omega⟩, hle, hir⟩, ScK.trans HK.out (ScK.trans HK3.out hk4.sck), .inl ⟨rfl, fun hc => ?_⟩⟩
      have h1 := HC.out hc
      subst h1
      rw [HR0.out, calm_run hc]; rfl
    · have hq5 : Kept (fun b => b = sb) wr w5 := Kept.trans (Kept.trans HKsb.out (Kept.mono hk4 (fun _ _ x => x.elim)) (fun _ _ x => x)) hk5 (fun _ _ x => x)
      have hO5 := own_keep HO.out hq5 HB.out
      obtain ⟨i314, hi3, hz3, hs3, hb3⟩ := info_parts info314
      obtain ⟨-, x1, -, x3⟩ := sc_cells hb5
      refine wp_region_lexL 12 (fun W' => W'.cell? ⟨sb, 1, none⟩ = some (.int .i64 j) ∧ W'.cell? ⟨sb, 3, none⟩ = some v ∧ W'.heap[sb]? = some (scObj s j M v)) _ _ (by kernel_rfl) (by kernel_rfl) (by rintro c ⟨_, _⟩ ⟨_, _⟩ w rfl h; exact h) ⟨x1, x3, hb5⟩ rfl rfl ?_
      simp only [List.take_succ_cons, List.take_zero, List.drop_succ_cons, List.drop_zero]
      refine ⟨?_, Or.inl ⟨by rfl, ?_⟩, ?_⟩
      rotate_left
      · intro W2 hW2
        obtain ⟨s0, s1, s2⟩ := hW2
        go_simp
        try with_reducible rfl
      simp only [Act.put, List.setIfInBounds_toArray, List.set_cons_zero, List.set_cons_succ]
      refine ⟨?_, Or.inl ⟨by rfl, ?_⟩, ?_⟩
      rotate_left
      · intro W2 hW2
        obtain ⟨s0, s1, s2⟩ := hW2
        go_simp
        try with_reducible rfl
      simp only [Act.put, List.setIfInBounds_toArray, List.set_cons_zero, List.set_cons_succ]
      refine ⟨?_, Or.inl ⟨by rfl, ?_⟩, ?_⟩
      rotate_left
      · intro W2 hW2
        obtain ⟨s0, s1, s2⟩ := hW2
        go_simp
        try with_reducible rfl
      simp only [Act.put, List.setIfInBounds_toArray, List.set_cons_zero, List.set_cons_succ]
      refine ⟨?_, Or.inl ⟨by rfl, ?_⟩, ?_⟩
      rotate_left
      · intro W2 hW2
        obtain ⟨s0, s1, s2⟩ := hW2
        go_simp
        try with_reducible rfl
      simp only [Act.put, List.setIfInBounds_toArray, List.set_cons_zero, List.set_cons_succ]
      refine ⟨?_, Or.inl ⟨by rfl, ?_⟩, ?_⟩
      rotate_left
      · intro W2 hW2
        obtain ⟨s0, s1, s2⟩ := hW2
        go_simp
        try with_reducible rfl
      simp only [Act.put, List.setIfInBounds_toArray, List.set_cons_zero, List.set_cons_succ]
      refine ⟨?_, Or.inl ⟨by rfl, ?_⟩, ?_⟩
      rotate_left
      · intro W2 hW2
        obtain ⟨s0, s1, s2⟩ := hW2
        go_simp
        try with_reducible rfl
      simp only [Act.put, List.setIfInBounds_toArray, List.set_cons_zero, List.set_cons_succ]
      refine ⟨?_, Or.inl ⟨by rfl, ?_⟩, ?_⟩
      rotate_left
      · intro W2 hW2
        obtain ⟨s0, s1, s2⟩ := hW2
        go_simp
        try with_reducible rfl
      simp only [Act.put, List.setIfInBounds_toArray, List.set_cons_zero, List.set_cons_succ]
      refine ⟨?_, Or.inl ⟨by rfl, ?_⟩, ?_⟩
      rotate_left
      · intro W2 hW2
        obtain ⟨s0, s1, s2⟩ := hW2
        go_simp
        try with_reducible rfl
      simp only [Act.put, List.setIfInBounds_toArray, List.set_cons_zero, List.set_cons_succ]
      refine ⟨?_, Or.inl ⟨by rfl, ?_⟩, ?_⟩
      rotate_left
      · intro W2 hW2
        obtain ⟨s0, s1, s2⟩ := hW2
        go_simp
        try with_reducible rfl
      simp only [Act.put, List.setIfInBounds_toArray, List.set_cons_zero, List.set_cons_succ]
      refine ⟨?_, Or.inl ⟨by rfl, ?_⟩, ?_⟩
      rotate_left
      · intro W2 hW2
        obtain ⟨s0, s1, s2⟩ := hW2
        go_simp
        try with_reducible rfl
      simp only [Act.put, List.setIfInBounds_toArray, List.set_cons_zero, List.set_cons_succ]
      refine ⟨?_, Or.inl ⟨by rfl, ?_⟩, ?_⟩
      rotate_left
      · intro W2 hW2
        obtain ⟨s0, s1, s2⟩ := hW2
        go_simp
        try with_reducible rfl
      simp only [Act.put, List.setIfInBounds_toArray, List.set_cons_zero, List.set_cons_succ]
      refine ⟨?_, Or.inl ⟨by rfl, ?_⟩, ?_⟩
      rotate_left
      · intro W2 hW2
        obtain ⟨s0, s1, s2⟩ := hW2
        go_simp
        try with_reducible rfl
      simp only [Act.put, List.setIfInBounds_toArray, List.set_cons_zero, List.set_cons_succ]
      simp only [wpYields]
      go_wp2_with fail
      have hB5 : B ≤ w5.heap.size := Nat.le_trans hle (Nat.le_of_lt (heap_lt hb5))
      have hk7 : Keeps w5 (w5.alloc (.cells #[.int .i64 ((i : Int) + r), .int .i64 j] 314)).drew := Kept.drew (Keeps.alloc _ _)
      refine ⟨⟨cell_keeps hk7 x1, cell_keeps hk7 x3, hk7.at hb5 (fun x => x)⟩, ?_⟩
      have hn6 : v.ownBlock ≠ some sb := own_ne hO5 hb5
      have hty := own_ty hO5
      refine wpList_append_own_at _ rfl (.tmp 32) (.tmp 40) 284 rfl B 314 i314 (.agg #[.int .i64 0, .int .i64 0]) 2 16 under284 hi3 hz3 hs3 hb3 rfl (by decide) v n xs rfl ((hO5.alloc _).drew) ⟨w5.heap.size, 0, none⟩ 1 1 [.int .i64 ((i : Int) + r), .int .i64 j] rfl rfl (World.news_of_block (cs := #[.int .i64 ((i : Int) + r), .int .i64 j]) (t := 314) (fr := (0, 0)) (heap_alloc_at _ _)) (by simp [Value.oneCell']) (by unfold maxLen; omega) (by omega) (by show B ≤ (w5.alloc _).heap.size; rw [World.size_alloc]; omega) ?_
      intro v6 w6 hown6 hgrow6 hnil6 hat6
      have hk6 : Kept (fun b => v.ownBlock = some b) w5 w6 := Kept.grown (Kept.mono hk7 (fun _ _ x => x.elim)) hgrow6 (fun b hb _ => hb)
      have hb6 : w6.heap[sb]? = some (scObj s j M v) := hk6.at hb5 hn6
      obtain ⟨-, y1, -, y3⟩ := sc_cells hb6
      have f6 := sc_free hb6 3
      obtain ⟨g6, cap6, rfl⟩ := row_succ hown6
      refine (?_ : _ ∧ _)
      refine ⟨⟨y1, y3, hb6⟩, ?_⟩
      have hb7 := sc_set3 hb6 (.slice (some ⟨g6, 0, none⟩) (n + 1) cap6)
      have hB1 := hown6.1
      have hq6 : ScK B w5 w6 := Kept.mono hk6 (fun b _ e => hty b e)
      have hq7 : ScK B w6 (w6.setCell ⟨sb, 3, none⟩ (.slice (some ⟨g6, 0, none⟩) (n + 1) cap6)) := (Kept.setCell (S := fun b => b = sb) (Kept.refl _ w6) (p := ⟨sb, 3, none⟩) (fun _ => rfl) (.slice (some ⟨g6, 0, none⟩) (n + 1) cap6)).scOne hle hb6
      have hq9 := ScK.trans HK.out (ScK.trans HK3.out (ScK.trans hk4.sck (ScK.trans (hk5.scOne hle hb4) (ScK.trans hq6 hq7))))
      have HQ := Lib.hid hq9
      have HB7 := Lib.hid hb7
      have HOw := Lib.hid hown6
      have HB6 := Lib.hid hb6
      clear hq9 hq7 hq6 hb7 hown6 hgrow6 hnil6 hat6 hb6 hty hn6
      go_wp2_with fail
      have hO7 := own_keep HOw.out (Kept.setCell (S := fun b => b = sb) (Kept.refl _ w6) (p := ⟨sb, 3, none⟩) (fun _ => rfl) (.slice (some ⟨g6, 0, none⟩) (n + 1) cap6)) HB6.out
      refine ⟨⟨j, by omega, ⟨⟨_, _, _, HB7.out, hO7, by omega⟩, hle, hj2⟩, HQ.out, fun hc => ?_⟩, by rw [atC_of HB7.out, HAt.out]; omega⟩
      have h1 := HC.out hc
      subst h1
      have h2 : r = 0 := by rw [HR0.out, calm_run hc]
      subst h2
      exact (calm_start hir hc (by simpa using (by assumption : (!hpB (s.extract (i + 0) s.size) ⟨#[40, 42]⟩) = false))).elim
    · refine ⟨rfl, j, by omega, ⟨⟨v, n, xs, hb5, ?_, by omega⟩, hle, hj2⟩, ScK.trans HK.out (ScK.trans HK3.out (ScK.trans hk4.sck (hk5.scOne hle hb4))), .inr ⟨a, k, rfl, hk0, fun hc => ?_⟩⟩
      · refine own_keep HO.out (W' := w5) (sb := sb) (i := i) (s := s) (M := M) (u := v) ?_ HB.out
        exact Kept.trans (Kept.trans HKsb.out (Kept.mono hk4 (fun _ _ x => x.elim)) (fun _ _ x => x)) hk5 (fun _ _ x => x)
      · have h1 := HC.out hc
        subst h1
        have h2 : r = 0 := by rw [HR0.out, calm_run hc]
        subst h2
        exact calm_start hir hc (by simpa using (by assumption : (!hpB (s.extract (i + 0) s.size) ⟨#[40, 42]⟩) = false))
end Go.Proofs.YtfehlbepjmmkeaaGreatDoor
