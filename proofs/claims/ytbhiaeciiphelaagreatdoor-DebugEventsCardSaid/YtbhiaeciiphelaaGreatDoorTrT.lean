/-
  DERIVED. A region that draws its order: its first operations only read, one makes memory beside them, and the rest waits for all of these. Conditions: each theorem's own hypotheses.
-/
import Derived.OrdersHeld
import Derived.StillTail
import Derived.Test.YtbhiaeciiphelaaGreatDoorEnA
namespace Go.Proofs.YtbhiaeciiphelaaGreatDoor
section
variable {P : Program} {ops : Array Oper} {Q : Exit → Act → World → Prop} {md : Region.Mode} {S : World → Prop} {q : Nat}
def wpAnyT (P : Program) (md : Region.Mode) (ops : Array Oper) (Q : Exit → Act → World → Prop) (S : World → Prop) (q : Nat) : Nat → Array Bool → Act → World → Prop
  | 0, listed, a, w => Region.ready md ops listed = [] ∧ Q .normal a w
  | fuel + 1, listed, a, w =>
    (Region.ready md ops listed = [] → Q .normal a w) ∧
    ∀ i ∈ Region.ready md ops listed, wpOp P ops Q i (fun a' w' => (i < q → S w') ∧ wpAnyT P md ops Q S q fuel (listed.setIfInBounds i true) a' w') a w
theorem put_defers (a : Act) (d : Option Tmp) (v : Value) : (a.put d v).defers = a.defers := by cases d <;> rfl
theorem any_of_T : ∀ (fuel : Nat) (listed : Array Bool) (a : Act) (w : World), wpAnyT P md ops Q S q fuel listed a w → wpAny P md ops Q fuel listed a w
  | 0, _, _, _, h => h
  | fuel + 1, _, _, _, h => ⟨h.1, fun i hi => wpOp_mono (fun a' w' h' => any_of_T fuel _ a' w' h'.2) (h.2 i hi)⟩
theorem T_first {i : Nat} {oi : Oper} {v : Value} (hi : ops[i]? = some oi) (hsel : ∀ (j : Nat) (o : Oper) cs b, ops[j]? = some o → o.op ≠ .select cs b)
    (hQ : ∀ c a w, Q (.panic c) (a.put oi.dst v) w → Q (.panic c) a w) (hq : ∀ j oj, ops[j]? = some oj → q ≤ j → ∃ e ∈ oj.after, Region.binds md e = true ∧ e.on = i) (hiq : i < q) :
    ∀ (fuel : Nat) (listed : Array Bool) (a : Act) (w : World),
      (∀ j oj, ops[j]? = some oj → j ≠ i → listed.getD j true = false → (∀ e ∈ oj.after, Region.binds md e = true → e.on ≠ i) → oi.apart ops oj = true) →
      i ∈ Region.ready md ops listed → YieldsIf P ops S oi v a → S w →
      wpAnyT P md ops Q S q fuel (listed.setIfInBounds i true) (a.put oi.dst v) w → wpAnyT P md ops Q S q (fuel + 1) listed a w := by
  intro fuel
  induction fuel with
  | zero =>
    intro listed a w _ hr hy hS H
    refine ⟨fun h => (by rw [h] at hr; cases hr), fun j hj => ?_⟩
    by_cases hji : j = i
    · subst hji; exact hy.wpOp hi hS ⟨fun _ => hS, H⟩
    · have := ready_mono hj hji
      rw [H.1] at this
      cases this
  | succ fuel ih =>
    intro listed a w hfree hr hy hS H
    refine ⟨fun h => (by rw [h] at hr; cases hr), fun j hj => ?_⟩
    by_cases hji : j = i
    · subst hji; exact hy.wpOp hi hS ⟨fun _ => hS, H⟩
    · have h1 := H.2 j (ready_mono hj hji)
      obtain ⟨hjun, oj, hoj, hall⟩ := mem_ready.1 hj
      have hnot : ∀ e ∈ oj.after, Region.binds md e = true → e.on ≠ i := fun e he hb heq => by
        have h1 := hall e he hb
        have h0 := (mem_ready.1 hr).1
        rw [heq] at h1
        rcases Nat.lt_or_ge i listed.size with h' | h'
        · simp [h'] at h0 h1; rw [h0] at h1; cases h1
        · simp [Array.getElem?_eq_none h'] at h1
      have hjq : j < q := by
        rcases Nat.lt_or_ge j q with h | h
        · exact h
        · obtain ⟨e, he, hb, hon⟩ := hq j oj hoj h
          exact absurd hon (hnot e he hb)
      have h2 := wpOp_putIf hoj (hfree j oj hoj hji hjun hnot) (fun cs b => hsel i oi cs b hi) (fun cs b => hsel j oj cs b hoj) hQ hy h1
      have hfree' : ∀ k ok, ops[k]? = some ok → k ≠ i → (listed.setIfInBounds j true).getD k true = false →
          (∀ e ∈ ok.after, Region.binds md e = true → e.on ≠ i) → oi.apart ops ok = true := fun k ok hk hki hun hno => by
        refine hfree k ok hk hki ?_ hno
        by_cases hjk : j = k
        · subst hjk; exact hjun
        · rw [getD_set_ne true hjk] at hun; exact hun
      refine wpOp_mono (fun a' w' h3 => ⟨h3.2.1, ih (listed.setIfInBounds j true) a' w' hfree' (ready_mono hr (Ne.symm hji)) h3.1 (h3.2.1 hjq) ?_⟩) h2
      rw [Array.setIfInBounds_comm _ _ hji]
      exact h3.2.2
theorem T_of_seq : ∀ (l : List Oper) (k : Nat) (listed : Array Bool) (a : Act) (w : World), q ≤ k → (∀ j, l[j]? = ops[k + j]?) →
    Region.seqB md ops l.length k listed = true → wpList P ops Q l a w → wpAnyT P md ops Q S q l.length listed a w
  | [], _, _, _, _, _, _, hB, h => ⟨by simpa [Region.seqB] using hB, h⟩
  | o :: l, k, listed, a, w, hq, hl, hB, h => by
    have h0 : ops[k]? = some o := by simpa using (hl 0).symm
    simp only [List.length_cons, Region.seqB, Bool.and_eq_true, decide_eq_true_eq] at hB
    refine ⟨fun h1 => (by rw [hB.1] at h1; cases h1), fun i hi => ?_⟩
    rw [hB.1] at hi
    have hik : i = k := by simpa using hi
    subst hik
    have hw : wpOp P ops Q i (wpList P ops Q l) a w := by unfold wpOp; simp only [h0]; exact h
    exact wpOp_mono (fun a' w' h' => ⟨fun h => absurd h (Nat.not_lt.2 hq), T_of_seq l (i + 1) _ a' w' (by omega) (fun j => by have := hl (j + 1); simpa [Nat.add_assoc, Nat.add_comm 1 j] using this) hB.2 h'⟩) hw
def wpYields (P : Program) (ops : Array Oper) (S : World → Prop) (L : Act → Prop) : List Oper → Act → Prop
  | [], a => L a
  | o :: l, a => ∃ v, YieldsIf P ops S o v a ∧ wpYields P ops S L l (a.put o.dst v)
def lexT (md : Region.Mode) (ops : Array Oper) (n g : Nat) : Nat → Nat → Array Bool → Bool
  | 0, k, listed => decide (Region.ready md ops listed = [k]) && decide (Region.ready md ops (listed.setIfInBounds k true) = [k + 1]) && Region.seqB md ops g (k + 2) ((listed.setIfInBounds k true).setIfInBounds (k + 1) true)
  | f + 1, k, listed => (Region.ready md ops listed).contains k && Region.free md ops listed k && ((List.range ops.size).all fun j => decide (j ≤ n + 1) || Region.waitsFor md ops j k) && lexT md ops n g f (k + 1) (listed.setIfInBounds k true)
theorem T_lex {n g : Nat} (hsel : Region.noSelect ops = true) {tl : List Oper} (htl : ∀ j, tl[j]? = ops[n + 2 + j]?) (hg : tl.length = g) :
    ∀ (l : List Oper) (k : Nat) (listed : Array Bool) (a : Act) (w : World), (∀ j, j < l.length → l[j]? = ops[k + j]?) → k + l.length = n → (∀ c (a a' : Act) w, a'.defers = a.defers → Q (.panic c) a' w → Q (.panic c) a w) →
    lexT md ops n g l.length k listed = true → S w → wpYields P ops S (fun a' => wpOp P ops Q n (fun a2 w2 => S w2 ∧ wpOp P ops Q (n + 1) (fun a3 w3 => S w3 ∧ wpList P ops Q tl a3 w3) a2 w2) a' w) l a → wpAnyT P md ops Q S (n + 2) (l.length + (g + 2)) listed a w
  | [], k, listed, a, w, _, hk, hQ, hB, hS, h => by
    have hkn : k = n := by simpa using hk
    subst hkn
    simp only [List.length_nil, lexT, Bool.and_eq_true, decide_eq_true_eq] at hB
    rw [List.length_nil, Nat.zero_add]
    refine ⟨fun h1 => (by rw [hB.1.1] at h1; cases h1), fun i hi => ?_⟩
    rw [hB.1.1] at hi
    have hik : i = k := by simpa using hi
    subst hik
    have h9 : wpOp P ops Q i (fun a2 w2 => S w2 ∧ wpOp P ops Q (i + 1) (fun a3 w3 => S w3 ∧ wpList P ops Q tl a3 w3) a2 w2) a w := h
    refine wpOp_mono (fun a' w' h' => ⟨fun _ => h'.1, ?_⟩) h9
    refine ⟨fun h1 => (by rw [hB.1.2] at h1; cases h1), fun j hj => ?_⟩
    rw [hB.1.2] at hj
    have hji : j = i + 1 := by simpa using hj
    subst hji
    refine wpOp_mono (fun a2 w2 h2 => ⟨fun _ => h2.1, ?_⟩) h'.2
    have := T_of_seq (S := S) (q := i + 2) tl (i + 2) _ a2 w2 (Nat.le_refl _) htl (by rw [hg]; exact hB.2) h2.2
    rw [hg] at this
    exact this
  | o :: l, k, listed, a, w, hl, hk, hQ, hB, hS, h => by
    have h0 : ops[k]? = some o := by simpa using (hl 0 (by simp)).symm
    simp only [List.length_cons, lexT, Bool.and_eq_true] at hB
    obtain ⟨⟨⟨hr, hf⟩, hw⟩, hB'⟩ := hB
    obtain ⟨v, hy, hK⟩ := h
    rw [List.length_cons, show l.length + 1 + (g + 2) = (l.length + (g + 2)) + 1 by omega]
    refine T_first (q := n + 2) h0 (Region.noSelect_spec hsel) (fun c a w h => hQ c a _ w (put_defers a _ _) h) (fun j oj hj hjq => ?_) (by simp only [List.length_cons] at hk; omega) _ listed a w (Region.free_spec h0 hf) (by simpa using hr) hy hS
      (T_lex hsel htl hg l (k + 1) _ _ w (fun j hj => by have := hl (j + 1) (by simp; omega); simpa [Nat.add_assoc, Nat.add_comm 1 j] using this) (by simp only [List.length_cons] at hk; omega) hQ hB' hS hK)
    have h1 := List.all_eq_true.1 hw j (List.mem_range.2 (Array.getElem?_eq_some_iff.1 hj).1)
    simp only [Bool.or_eq_true, decide_eq_true_eq] at h1
    rcases h1 with h1 | h1
    · omega
    · obtain ⟨o', ho', e, he, hb, hon⟩ := Region.waitsFor_spec h1
      have : o' = oj := Option.some.inj (ho'.symm.trans hj)
      subst this
      exact ⟨e, he, hb, hon⟩
theorem wpOp_of {i : Nat} {o : Oper} {K : Act → World → Prop} {a : Act} {w : World} (hi : ops[i]? = some o) (hg : o.guard = none) (h : o.wp P a w K Q) : wpOp P ops Q i K a w := by
  have hw : Region.wanted o (yielded ops a.tmps) = true := by simp [Region.wanted, hg]
  unfold wpOp
  simp only [hi]
  rw [if_pos hw]
  exact .inl h
theorem wp_region_lex {id : Nat} {a : Act} {w : World} {l : List Oper} (n : Nat) (S : World → Prop) (hm : P.follows .mixedOrders = true) (hB : (Region.noSelect l.toArray && decide (n + 1 < l.length) && lexT .any l.toArray n (l.length - n - 2) n 0 (Array.replicate l.length false)) = true)
    (hQ : ∀ c (a a' : Act) w, a'.defers = a.defers → Q (.panic c) a' w → Q (.panic c) a w) (hS : S w.drew)
    (h : wpYields P l.toArray S (fun a' => wpOp P l.toArray Q n (fun a2 w2 => S w2 ∧ wpOp P l.toArray Q (n + 1) (fun a3 w3 => S w3 ∧ wpList P l.toArray Q (l.drop (n + 2)) a3 w3) a2 w2) a' w.drew) (l.take n) a) : (Code.region id l.toArray true).wp P Q a w := by
  simp only [Bool.and_eq_true, decide_eq_true_eq] at hB
  obtain ⟨⟨hsel, hn⟩, hlex⟩ := hB
  have htl : (l.take n).length = n := by simp; omega
  have H := T_lex (md := .any) (S := S) (Q := Q) (P := P) (n := n) (g := l.length - n - 2) hsel (tl := l.drop (n + 2)) (fun j => by simp [List.getElem?_drop]) (by simp; omega) (l.take n) 0 (Array.replicate l.length false) a w.drew
    (fun j hj => by
      have hj' : j < n := by rw [htl] at hj; exact hj
      simp [hj']) (by simpa using htl) hQ (by rw [htl]; exact hlex) hS h
  rw [htl, show n + (l.length - n - 2 + 2) = l.length by omega] at H
  refine wp_region_any hm ?_
  have h2 := any_of_T _ _ _ _ H
  simpa using h2
end
end Go.Proofs.YtbhiaeciiphelaaGreatDoor
namespace Go.Proofs.YtbhiaeciiphelaaGreatDoor
open Go.RowKit
def AddPost (w W : World) (bn bo : Nat) (v : Value) (evs : List ET) (k : Nat) (l : List NP) (x : Ending) (W' : World) : Prop :=
  ∃ v', x = .returned (.bool true) ∧ FlatMem w W' bn bo v' (evs ++ flat l) (k + cnt l) ∧ Kept (fun g => g = bn ∨ g = bo ∨ v.ownBlock = some g) W W' ∧ (v'.ownBlock = v.ownBlock ∨ ∃ g, v'.ownBlock = some g ∧ W.heap.size ≤ g)
set_option maxHeartbeats 8000000 in
set_option maxRecDepth 100000 in
theorem refAdd_of (e : Nat) (w : World) (A0 : Nat → Prop) (bn bo : Nat) : ∀ (d : Nat) (l : List NP) (v : Value) (W : World) (vo : Value) (evs : List ET) (k deep : Nat), NPAt w A0 e d l v → FlatMem w W bn bo vo evs k → k + cnt l ≤ 30000 → deep + cnt l ≤ 30000 → evs.length ≤ 2 * k →
    Calls Tryz.prog 62 #[v, .int .i64 deep, .pointer (some ⟨bn, 0, none⟩), .pointer (some ⟨bo, 0, none⟩)] W (AddPost w W bn bo vo evs k l) := by
  intro d
  induction d with
  | zero =>
    intro l v W vo evs k deep h hM hk hdp hev
    obtain ⟨rfl, p, c, rfl⟩ := h
    have HM := Lib.hid hM
    clear hM
    go_enter Tryz.func62, Tryz.ntmps62
    go_wp2_with fail
    go_loopw [9] (fun q W' => q = .int .i64 0 ∧ W' = W) (fun _ _ => 0)
    case atStart => exact ⟨rfl, rfl⟩
    case round =>
      obtain ⟨rfl, rfl⟩ := hrel
      go_wp2_with fail
      go_ret
      exact ⟨vo, rfl, by simpa [flat, cnt] using HM.out, Kept.refl _ _, .inl rfl⟩
  | succ d ih =>
    intro l v W vo evs k deep h hM hk hdp hev
    have HI := Lib.hid ih
    have H := Lib.hid h
    have HM := Lib.hid hM
    obtain ⟨p, c, rfl⟩ := h.form
    have hln := len_cnt l
    obtain ⟨i98, hi98, hz98, hs98, hb98⟩ := info_parts info98
    obtain ⟨n, hn⟩ : ∃ n, n = l.length := ⟨_, rfl⟩
    rw [← hn]
    rw [← hn] at H hln
    have HN := Lib.hid hn
    clear ih h hM hn
    go_enter Tryz.func62, Tryz.ntmps62
    go_wp2_with fail
    go_loopw [9] (fun q W' => ∃ (i : Nat) (vi : Value), i ≤ n ∧ q = .int .i64 i ∧ FlatMem w W' bn bo vi (evs ++ flat (l.take i)) (k + cnt (l.take i)) ∧ Kept (fun g => g = bn ∨ g = bo ∨ vo.ownBlock = some g) W W' ∧ (vi.ownBlock = vo.ownBlock ∨ ∃ g, vi.ownBlock = some g ∧ W.heap.size ≤ g)) (fun q _ => n - (intOf q).toNat)
    case atStart => exact ⟨0, vo, Nat.zero_le _, rfl, by simpa [flat, cnt] using HM.out, Kept.refl _ _, .inl rfl⟩
    case round =>
      obtain ⟨i, vi, hi, rfl, hM, hkw, hat⟩ := hrel
      have HKw := Lib.hid hkw
      have k7 : (0 : Int) ≤ i := by omega
      by_cases hil : i < n
      · obtain ⟨nd, hu⟩ : ∃ nd, l[i]? = some nd := ⟨_, List.getElem?_eq_getElem (by rw [← HN.out]; exact hil)⟩
        obtain ⟨mod, r, kids⟩ := nd
        have k6 : (i : Int) < n := by omega
        obtain ⟨d', g, o, pk, ck, hd, rfl, hg, hc, hta, hts, htw, hkids⟩ := H.out.node hu
        obtain rfl : d' = d := by omega
        have hpart := cnt_part hu
        have hsplit := cnt_take hu
        have HX := Lib.hid (fun (W' : World) (hW : Keeps w W') => show W'.cell? ⟨g, o + i * 13, none⟩ = some (.bool mod) ∧ W'.cell? ⟨g, o + i * 13 + 1, none⟩ = some (.int .i64 r.site) ∧ W'.cell? ⟨g, o + i * 13 + 2, none⟩ = some (.int .i64 r.addr) ∧ W'.cell? ⟨g, o + i * 13 + 3, none⟩ = some (.slice r.pa r.na r.ca) ∧
          W'.cell? ⟨g, o + i * 13 + 4, none⟩ = some (.int .i64 r.sk) ∧ W'.cell? ⟨g, o + i * 13 + 5, none⟩ = some (.int .i64 r.sm) ∧ W'.cell? ⟨g, o + i * 13 + 6, none⟩ = some (.string r.ss) ∧ W'.cell? ⟨g, o + i * 13 + 7, none⟩ = some (.slice r.sp r.sn r.sc) ∧
          W'.cell? ⟨g, o + i * 13 + 8, none⟩ = some (.int .i64 r.wk) ∧ W'.cell? ⟨g, o + i * 13 + 9, none⟩ = some (.int .i64 r.wm) ∧ W'.cell? ⟨g, o + i * 13 + 10, none⟩ = some (.string r.ws) ∧ W'.cell? ⟨g, o + i * 13 + 11, none⟩ = some (.slice r.wp r.wn r.wc) ∧ W'.cell? ⟨g, o + i * 13 + 12, none⟩ = some (.slice pk kids.length ck) from
          ⟨cell_keeps hW (hc 0 _ rfl), cell_keeps hW (hc 1 _ rfl), cell_keeps hW (hc 2 _ rfl), cell_keeps hW (hc 3 _ rfl), cell_keeps hW (hc 4 _ rfl), cell_keeps hW (hc 5 _ rfl), cell_keeps hW (hc 6 _ rfl), cell_keeps hW (hc 7 _ rfl), cell_keeps hW (hc 8 _ rfl), cell_keeps hW (hc 9 _ rfl), cell_keeps hW (hc 10 _ rfl), cell_keeps hW (hc 11 _ rfl), cell_keeps hW (hc 12 _ rfl)⟩)
        generalize hkk : k + cnt (l.take i) = kk at hM
        generalize hee : evs ++ flat (l.take i) = ee at hM
        have hel : ee.length ≤ 2 * kk := by
          have := flat_len (l.take i)
          rw [← hee, List.length_append]
          omega
        have hkb : kk + 1 + cnt kids ≤ 30000 := by omega
        have hdb : deep + 1 + cnt kids ≤ 30000 := by omega
        obtain ⟨qv, cv, rfl⟩ := hM.form
        obtain ⟨nE, hnE⟩ : ∃ nE, nE = ee.length := ⟨_, rfl⟩
        rw [← hnE] at hM hat hel
        have HNE := Lib.hid hnE
        have t0 : wr.cell? ⟨bn, 0, none⟩ = some (.int .i64 kk) := by rw [cell_of_block hM.hbn]; rfl
        have t1 := free_of_block hM.hbn 0
        have j1 : decide ((30000 : Int) < (kk : Int) + 1) = false := by simp; omega
        have j2 : decide ((30000 : Int) < (deep : Int)) = false := by simp; omega
        have hMc := hM.count
        obtain ⟨Wc, hWc⟩ : ∃ Wc, Wc = wr.setCell ⟨bn, 0, none⟩ (.int .i64 ((kk : Int) + 1)) := ⟨_, rfl⟩
        rw [← hWc] at hMc
        obtain ⟨x0, x1, x2, x3, x4, x5, x6, x7, x8, x9, x10, x11, x12⟩ := HX.out _ hMc.1.kept
        have b0 : Wc.cell? ⟨bo, 0, none⟩ = some (.slice qv nE cv) := by rw [cell_of_block hMc.1.hbo]; rfl
        have b1 := free_of_block hMc.1.hbo 0
        rw [hWc] at x0
        have HWc := Lib.hid hWc
        have HU := Lib.hid hu
        have HKids := Lib.hid hkids
        have HEe := Lib.hid hee
        have HKk := Lib.hid hkk
        have HSp := Lib.hid hsplit
        have HAt := Lib.hid hat
        have HMc := Lib.hid hMc.1
        have HKc := Lib.hid hMc.2
        have hlb := heap_lt hM.hbn
        clear hc hg hta hts htw hu hkids hd hee hkk hsplit hM hkw hat hpart hnE hMc hWc
        cases mod with
        | true =>
          go_wp2_with fail
          rw [← HWc.out]
          clear x4 x5 x6 x7 x8 x9 x10 x11 x12 x0 t0 t1
          refine wp_region_lex 20 (fun W' => W'.cell? ⟨bo, 0, none⟩ = some (.slice qv nE cv) ∧ W'.cell? ⟨g, o + i * 13 + 1, none⟩ = some (.int .i64 r.site) ∧ W'.cell? ⟨g, o + i * 13 + 2, none⟩ = some (.int .i64 r.addr) ∧ W'.cell? ⟨g, o + i * 13 + 3, none⟩ = some (.slice r.pa r.na r.ca)) (by kernel_rfl) (by kernel_rfl) (by rintro c ⟨_, _⟩ ⟨_, _⟩ w rfl h; exact h) ⟨b0, x1, x2, x3⟩ ?_
          simp only [List.take_succ_cons, List.take_zero, List.drop_succ_cons, List.drop_zero]
          refine ⟨?_, Or.inl ⟨by rfl, ?_⟩, ?_⟩
          rotate_left
          · intro W2 hW2
            obtain ⟨s0, s1, s2, s3⟩ := hW2
            go_simp
            try with_reducible rfl
          simp only [Act.put, List.setIfInBounds_toArray, List.set_cons_zero, List.set_cons_succ]
          refine ⟨?_, Or.inl ⟨by rfl, ?_⟩, ?_⟩
          rotate_left
          · intro W2 hW2
            obtain ⟨s0, s1, s2, s3⟩ := hW2
            go_simp
            try with_reducible rfl
          simp only [Act.put, List.setIfInBounds_toArray, List.set_cons_zero, List.set_cons_succ]
          refine ⟨?_, Or.inl ⟨by rfl, ?_⟩, ?_⟩
          rotate_left
          · intro W2 hW2
            obtain ⟨s0, s1, s2, s3⟩ := hW2
            go_simp
            try with_reducible rfl
          simp only [Act.put, List.setIfInBounds_toArray, List.set_cons_zero, List.set_cons_succ]
          refine ⟨?_, Or.inl ⟨by rfl, ?_⟩, ?_⟩
          rotate_left
          · intro W2 hW2
            obtain ⟨s0, s1, s2, s3⟩ := hW2
            go_simp
            try with_reducible rfl
          simp only [Act.put, List.setIfInBounds_toArray, List.set_cons_zero, List.set_cons_succ]
          refine ⟨?_, Or.inl ⟨by rfl, ?_⟩, ?_⟩
          rotate_left
          · intro W2 hW2
            obtain ⟨s0, s1, s2, s3⟩ := hW2
            go_simp
            try with_reducible rfl
          simp only [Act.put, List.setIfInBounds_toArray, List.set_cons_zero, List.set_cons_succ]
          refine ⟨?_, Or.inl ⟨by rfl, ?_⟩, ?_⟩
          rotate_left
          · intro W2 hW2
            obtain ⟨s0, s1, s2, s3⟩ := hW2
            go_simp
            try with_reducible rfl
          simp only [Act.put, List.setIfInBounds_toArray, List.set_cons_zero, List.set_cons_succ]
          refine ⟨?_, Or.inl ⟨by rfl, ?_⟩, ?_⟩
          rotate_left
          · intro W2 hW2
            obtain ⟨s0, s1, s2, s3⟩ := hW2
            go_simp
            try with_reducible rfl
          simp only [Act.put, List.setIfInBounds_toArray, List.set_cons_zero, List.set_cons_succ]
          refine ⟨?_, Or.inl ⟨by rfl, ?_⟩, ?_⟩
          rotate_left
          · intro W2 hW2
            obtain ⟨s0, s1, s2, s3⟩ := hW2
            go_simp
            try with_reducible rfl
          simp only [Act.put, List.setIfInBounds_toArray, List.set_cons_zero, List.set_cons_succ]
          refine ⟨?_, Or.inl ⟨by rfl, ?_⟩, ?_⟩
          rotate_left
          · intro W2 hW2
            obtain ⟨s0, s1, s2, s3⟩ := hW2
            go_simp
            try with_reducible rfl
          simp only [Act.put, List.setIfInBounds_toArray, List.set_cons_zero, List.set_cons_succ]
          refine ⟨?_, Or.inl ⟨by rfl, ?_⟩, ?_⟩
          rotate_left
          · intro W2 hW2
            obtain ⟨s0, s1, s2, s3⟩ := hW2
            go_simp
            try with_reducible rfl
          simp only [Act.put, List.setIfInBounds_toArray, List.set_cons_zero, List.set_cons_succ]
          refine ⟨?_, Or.inl ⟨by rfl, ?_⟩, ?_⟩
          rotate_left
          · intro W2 hW2
            obtain ⟨s0, s1, s2, s3⟩ := hW2
            go_simp
            try with_reducible rfl
          simp only [Act.put, List.setIfInBounds_toArray, List.set_cons_zero, List.set_cons_succ]
          refine ⟨?_, Or.inl ⟨by rfl, ?_⟩, ?_⟩
          rotate_left
          · intro W2 hW2
            obtain ⟨s0, s1, s2, s3⟩ := hW2
            go_simp
            try with_reducible rfl
          simp only [Act.put, List.setIfInBounds_toArray, List.set_cons_zero, List.set_cons_succ]
          refine ⟨?_, Or.inl ⟨by rfl, ?_⟩, ?_⟩
          rotate_left
          · intro W2 hW2
            obtain ⟨s0, s1, s2, s3⟩ := hW2
            go_simp
            try with_reducible rfl
          simp only [Act.put, List.setIfInBounds_toArray, List.set_cons_zero, List.set_cons_succ]
          refine ⟨?_, Or.inl ⟨by rfl, ?_⟩, ?_⟩
          rotate_left
          · intro W2 hW2
            obtain ⟨s0, s1, s2, s3⟩ := hW2
            go_simp
            try with_reducible rfl
          simp only [Act.put, List.setIfInBounds_toArray, List.set_cons_zero, List.set_cons_succ]
          refine ⟨?_, Or.inl ⟨by rfl, ?_⟩, ?_⟩
          rotate_left
          · intro W2 hW2
            obtain ⟨s0, s1, s2, s3⟩ := hW2
            go_simp
            try with_reducible rfl
          simp only [Act.put, List.setIfInBounds_toArray, List.set_cons_zero, List.set_cons_succ]
          refine ⟨?_, Or.inl ⟨by rfl, ?_⟩, ?_⟩
          rotate_left
          · intro W2 hW2
            obtain ⟨s0, s1, s2, s3⟩ := hW2
            go_simp
            try with_reducible rfl
          simp only [Act.put, List.setIfInBounds_toArray, List.set_cons_zero, List.set_cons_succ]
          refine ⟨?_, Or.inl ⟨by rfl, ?_⟩, ?_⟩
          rotate_left
          · intro W2 hW2
            obtain ⟨s0, s1, s2, s3⟩ := hW2
            go_simp
            try with_reducible rfl
          simp only [Act.put, List.setIfInBounds_toArray, List.set_cons_zero, List.set_cons_succ]
          refine ⟨?_, Or.inl ⟨by rfl, ?_⟩, ?_⟩
          rotate_left
          · intro W2 hW2
            obtain ⟨s0, s1, s2, s3⟩ := hW2
            go_simp
            try with_reducible rfl
          simp only [Act.put, List.setIfInBounds_toArray, List.set_cons_zero, List.set_cons_succ]
          refine ⟨?_, Or.inl ⟨by rfl, ?_⟩, ?_⟩
          rotate_left
          · intro W2 hW2
            obtain ⟨s0, s1, s2, s3⟩ := hW2
            go_simp
            try with_reducible rfl
          simp only [Act.put, List.setIfInBounds_toArray, List.set_cons_zero, List.set_cons_succ]
          refine ⟨?_, Or.inl ⟨by rfl, ?_⟩, ?_⟩
          rotate_left
          · intro W2 hW2
            obtain ⟨s0, s1, s2, s3⟩ := hW2
            go_simp
            try with_reducible rfl
          simp only [Act.put, List.setIfInBounds_toArray, List.set_cons_zero, List.set_cons_succ]
          unfold wpYields
          refine wpOp_of rfl rfl ?_
          go_simp
          have hka : Keeps Wc (Wc.alloc (.cells #[.int .i64 1, .int .i64 r.site, .int .i64 r.addr, .slice r.pa r.na r.ca, .int .i64 0, .int .i64 0, .string ⟨#[]⟩, .slice none 0 0] 98)).drew := Kept.drew (Keeps.alloc _ _)
          refine ⟨⟨cell_keeps hka b0, cell_keeps hka x1, cell_keeps hka x2, cell_keeps hka x3⟩, wpOp_of rfl rfl ?_⟩
          refine wp_append_lies _ (.tmp 38) (.tmp 55) 22 (by rfl) w.heap.size 98 i98 (.agg #[.int .i64 0, .int .i64 0, .int .i64 0, .slice none 0 0, .int .i64 0, .int .i64 0, .string ⟨#[]⟩, .slice none 0 0]) 8 104 under22 hi98 hz98 hs98 hb98 rfl (by decide) (.slice qv nE cv) nE (evCells ee) (by rfl) ((show Wc.ownsRow w.heap.size 98 8 (.slice qv nE cv) nE (evCells ee) by have h9 := HMc.out.row; rw [← HNE.out] at h9; exact h9).alloc _ |>.drew) ⟨Wc.heap.size, 0, none⟩ 1 1 [.int .i64 1, .int .i64 r.site, .int .i64 r.addr, .slice r.pa r.na r.ca, .int .i64 0, .int .i64 0, .string ⟨#[]⟩, .slice none 0 0] (by rfl) (by rfl)
            (World.news_of_block (cs := #[.int .i64 1, .int .i64 r.site, .int .i64 r.addr, .slice r.pa r.na r.ca, .int .i64 0, .int .i64 0, .string ⟨#[]⟩, .slice none 0 0]) (t := 98) (fr := (0, 0)) (heap_alloc_at Wc (.cells #[.int .i64 1, .int .i64 r.site, .int .i64 r.addr, .slice r.pa r.na r.ca, .int .i64 0, .int .i64 0, .string ⟨#[]⟩, .slice none 0 0] 98))) (by simp [Value.oneCell']) (by omega) (by unfold maxLen; omega) (by omega) (by have := HMc.out.kept.size; show w.heap.size ≤ (Wc.alloc _).heap.size; rw [World.size_alloc]; omega) _ rfl ?_
          intro g5 cap5 w5 hown hgrow hat5 hlt5
          rw [HNE.out] at hown
          obtain ⟨hbo5, hM5, hk5⟩ := HMc.out.push (t := r.mkEv) (O := .cells #[.int .i64 1, .int .i64 r.site, .int .i64 r.addr, .slice r.pa r.na r.ca, .int .i64 0, .int .i64 0, .string ⟨#[]⟩, .slice none 0 0] 98) ⟨hgrow.os, hgrow.tape, hgrow.output, hgrow.size, hgrow.block⟩ hown
          rw [← HNE.out] at hM5 hk5
          have hkw5 : Keeps w w5 := Kept.trans HMc.out.kept (((Kept.refl (fun g => (Value.slice qv nE cv).ownBlock = some g) Wc).alloc (.cells #[.int .i64 1, .int .i64 r.site, .int .i64 r.addr, .slice r.pa r.na r.ca, .int .i64 0, .int .i64 0, .string ⟨#[]⟩, .slice none 0 0] 98)).drew.grown hgrow (fun g hg _ => hg)) (fun g hg hx => by have h9 := (HMc.out.row.lt g hx).1; omega)
          obtain ⟨z0, z1, z2, z3, z4, z5, z6, z7, z8, z9, z10, z11, z12⟩ := HX.out _ hkw5
          have c0 := cell_of_block hbo5 0
          have c1 := free_of_block hbo5 0
          have hlo5 := heap_lt hbo5
          simp at c0
          have HM5 := Lib.hid hM5
          have HK5 := Lib.hid (hk5.mono (T := fun g => g = bn ∨ g = bo ∨ (Value.slice qv nE cv).ownBlock = some g) fun _ _ x => .inr x)
          have HA5 := Lib.hid (show (Value.slice (some ⟨g5, 0, none⟩) (nE + 1) cap5).ownBlock = (Value.slice qv nE cv).ownBlock ∨ ∃ g, (Value.slice (some ⟨g5, 0, none⟩) (nE + 1) cap5).ownBlock = some g ∧ Wc.heap.size ≤ g from by
            rcases hat5 with h | h
            · exact .inl h.symm
            · refine .inr ⟨_, rfl, ?_⟩
              rw [h]
              show Wc.heap.size ≤ (Wc.alloc _).heap.size
              rw [World.size_alloc]
              exact Nat.le_succ _)
          refine ⟨⟨c0, z1, z2, z3⟩, ?_⟩
          clear hown hgrow hat5 hM5 hk5 z0 z1 z2 z3 z4 z5 z6 z7 z8 z9 z10 z11 b0 x1 x2 x3 hka
          have hszW : W.heap.size ≤ Wc.heap.size := Nat.le_trans HKw.out.size HKc.out.size
          have HC := Lib.hid (HI.out kids (.slice pk kids.length ck) _ _ (ee ++ [r.mkEv]) (kk + 1) (deep + 1) HKids.out HM5.out hkb hdb (by rw [List.length_append, ← HNE.out]; simp; omega))
          rw [show ((deep + 1 : Nat) : Int) = (deep : Int) + 1 by omega] at HC
          have z12' := (HX.out _ HM5.out.kept).2.2.2.2.2.2.2.2.2.2.2.2
          have HKc2 := Lib.hid (kept_chain HKw.out HAt.out (HKc.out.mono fun _ _ x => .inl x))
          have HK52 := Lib.hid (kept_chain HKc2.out HAt.out HK5.out)
          have HA52 := Lib.hid (at_chain hszW HAt.out HA5.out)
          clear z12
          go_wp2_with (go_at_call 62; refine holdT ?_)
          refine Lib.hid ?_
          refine HC.out.mono ?_
          rintro _ W7 ⟨v7, rfl, hM7, hk7, hat7⟩
          have HK72 := Lib.hid (kept_chain HK52.out HA52.out hk7)
          have HA72 := Lib.hid (at_chain (Nat.le_trans hszW HK5.out.size) HA52.out hat7)
          obtain ⟨x0, x1, x2, x3, x4, x5, x6, x7, x8, x9, x10, x11, x12⟩ := HX.out _ hM7.kept
          clear c0 c1 z12' hk7 hat7 hbo5 hlo5
          obtain ⟨q7, c7, rfl⟩ := hM7.form
          obtain ⟨nF, hnF⟩ : ∃ nF, nF = (ee ++ [r.mkEv] ++ flat kids).length := ⟨_, rfl⟩
          have hnF6 : nF ≤ 60000 := by
            have h9 := flat_len kids
            rw [hnF, List.length_append, List.length_append, ← HNE.out]
            simp
            omega
          rw [← hnF] at HA72 hM7
          have HNF := Lib.hid hnF
          have HM7 := Lib.hid hM7
          have b0 := cell_of_block hM7.hbo 0
          simp at b0
          have HL := Lib.hid (show ((ee ++ [r.mkEv]) ++ flat kids) ++ [r.wrEv] = evs ++ flat (l.take (i + 1)) by rw [flat_take HU.out, ← HEe.out]; simp)
          have HKt := Lib.hid (show kk + 1 + cnt kids = k + cnt (l.take (i + 1)) by rw [HSp.out, ← HKk.out]; omega)
          clear hM7 hnF
          go_wp2_with fail
          clear x0 x1 x3 x4 x5 x6 x7 x12
          refine wp_region_lex 15 (fun W' => W'.cell? ⟨bo, 0, none⟩ = some (.slice q7 nF c7) ∧ W'.cell? ⟨g, o + i * 13 + 2, none⟩ = some (.int .i64 r.addr) ∧ W'.cell? ⟨g, o + i * 13 + 8, none⟩ = some (.int .i64 r.wk) ∧ W'.cell? ⟨g, o + i * 13 + 9, none⟩ = some (.int .i64 r.wm) ∧ W'.cell? ⟨g, o + i * 13 + 10, none⟩ = some (.string r.ws) ∧ W'.cell? ⟨g, o + i * 13 + 11, none⟩ = some (.slice r.wp r.wn r.wc)) (by kernel_rfl) (by kernel_rfl) (by rintro c ⟨_, _⟩ ⟨_, _⟩ w rfl h; exact h) ⟨b0, x2, x8, x9, x10, x11⟩ ?_
          simp only [List.take_succ_cons, List.take_zero, List.drop_succ_cons, List.drop_zero]
          refine ⟨?_, Or.inl ⟨by rfl, ?_⟩, ?_⟩
          rotate_left
          · intro W2 hW2
            obtain ⟨s0, s1, s2, s3, s4, s5⟩ := hW2
            go_simp
            try with_reducible rfl
          simp only [Act.put, List.setIfInBounds_toArray, List.set_cons_zero, List.set_cons_succ]
          refine ⟨?_, Or.inl ⟨by rfl, ?_⟩, ?_⟩
          rotate_left
          · intro W2 hW2
            obtain ⟨s0, s1, s2, s3, s4, s5⟩ := hW2
            go_simp
            try with_reducible rfl
          simp only [Act.put, List.setIfInBounds_toArray, List.set_cons_zero, List.set_cons_succ]
          refine ⟨?_, Or.inl ⟨by rfl, ?_⟩, ?_⟩
          rotate_left
          · intro W2 hW2
            obtain ⟨s0, s1, s2, s3, s4, s5⟩ := hW2
            go_simp
            try with_reducible rfl
          simp only [Act.put, List.setIfInBounds_toArray, List.set_cons_zero, List.set_cons_succ]
          refine ⟨?_, Or.inl ⟨by rfl, ?_⟩, ?_⟩
          rotate_left
          · intro W2 hW2
            obtain ⟨s0, s1, s2, s3, s4, s5⟩ := hW2
            go_simp
            try with_reducible rfl
          simp only [Act.put, List.setIfInBounds_toArray, List.set_cons_zero, List.set_cons_succ]
          refine ⟨?_, Or.inl ⟨by rfl, ?_⟩, ?_⟩
          rotate_left
          · intro W2 hW2
            obtain ⟨s0, s1, s2, s3, s4, s5⟩ := hW2
            go_simp
            try with_reducible rfl
          simp only [Act.put, List.setIfInBounds_toArray, List.set_cons_zero, List.set_cons_succ]
          refine ⟨?_, Or.inl ⟨by rfl, ?_⟩, ?_⟩
          rotate_left
          · intro W2 hW2
            obtain ⟨s0, s1, s2, s3, s4, s5⟩ := hW2
            go_simp
            try with_reducible rfl
          simp only [Act.put, List.setIfInBounds_toArray, List.set_cons_zero, List.set_cons_succ]
          refine ⟨?_, Or.inl ⟨by rfl, ?_⟩, ?_⟩
          rotate_left
          · intro W2 hW2
            obtain ⟨s0, s1, s2, s3, s4, s5⟩ := hW2
            go_simp
            try with_reducible rfl
          simp only [Act.put, List.setIfInBounds_toArray, List.set_cons_zero, List.set_cons_succ]
          refine ⟨?_, Or.inl ⟨by rfl, ?_⟩, ?_⟩
          rotate_left
          · intro W2 hW2
            obtain ⟨s0, s1, s2, s3, s4, s5⟩ := hW2
            go_simp
            try with_reducible rfl
          simp only [Act.put, List.setIfInBounds_toArray, List.set_cons_zero, List.set_cons_succ]
          refine ⟨?_, Or.inl ⟨by rfl, ?_⟩, ?_⟩
          rotate_left
          · intro W2 hW2
            obtain ⟨s0, s1, s2, s3, s4, s5⟩ := hW2
            go_simp
            try with_reducible rfl
          simp only [Act.put, List.setIfInBounds_toArray, List.set_cons_zero, List.set_cons_succ]
          refine ⟨?_, Or.inl ⟨by rfl, ?_⟩, ?_⟩
          rotate_left
          · intro W2 hW2
            obtain ⟨s0, s1, s2, s3, s4, s5⟩ := hW2
            go_simp
            try with_reducible rfl
          simp only [Act.put, List.setIfInBounds_toArray, List.set_cons_zero, List.set_cons_succ]
          refine ⟨?_, Or.inl ⟨by rfl, ?_⟩, ?_⟩
          rotate_left
          · intro W2 hW2
            obtain ⟨s0, s1, s2, s3, s4, s5⟩ := hW2
            go_simp
            try with_reducible rfl
          simp only [Act.put, List.setIfInBounds_toArray, List.set_cons_zero, List.set_cons_succ]
          refine ⟨?_, Or.inl ⟨by rfl, ?_⟩, ?_⟩
          rotate_left
          · intro W2 hW2
            obtain ⟨s0, s1, s2, s3, s4, s5⟩ := hW2
            go_simp
            try with_reducible rfl
          simp only [Act.put, List.setIfInBounds_toArray, List.set_cons_zero, List.set_cons_succ]
          refine ⟨?_, Or.inl ⟨by rfl, ?_⟩, ?_⟩
          rotate_left
          · intro W2 hW2
            obtain ⟨s0, s1, s2, s3, s4, s5⟩ := hW2
            go_simp
            try with_reducible rfl
          simp only [Act.put, List.setIfInBounds_toArray, List.set_cons_zero, List.set_cons_succ]
          refine ⟨?_, Or.inl ⟨by rfl, ?_⟩, ?_⟩
          rotate_left
          · intro W2 hW2
            obtain ⟨s0, s1, s2, s3, s4, s5⟩ := hW2
            go_simp
            try with_reducible rfl
          simp only [Act.put, List.setIfInBounds_toArray, List.set_cons_zero, List.set_cons_succ]
          refine ⟨?_, Or.inl ⟨by rfl, ?_⟩, ?_⟩
          rotate_left
          · intro W2 hW2
            obtain ⟨s0, s1, s2, s3, s4, s5⟩ := hW2
            go_simp
            try with_reducible rfl
          simp only [Act.put, List.setIfInBounds_toArray, List.set_cons_zero, List.set_cons_succ]
          unfold wpYields
          refine wpOp_of rfl rfl ?_
          go_simp
          have hka : Keeps W7 (W7.alloc (.cells #[.int .i64 3, .int .i64 0, .int .i64 r.addr, .slice none 0 0, .int .i64 r.wk, .int .i64 r.wm, .string r.ws, .slice r.wp r.wn r.wc] 98)).drew := Kept.drew (Keeps.alloc _ _)
          refine ⟨⟨cell_keeps hka b0, cell_keeps hka x2, cell_keeps hka x8, cell_keeps hka x9, cell_keeps hka x10, cell_keeps hka x11⟩, wpOp_of rfl rfl ?_⟩
          refine wp_append_lies _ (.tmp 100) (.tmp 112) 22 (by rfl) w.heap.size 98 i98 (.agg #[.int .i64 0, .int .i64 0, .int .i64 0, .slice none 0 0, .int .i64 0, .int .i64 0, .string ⟨#[]⟩, .slice none 0 0]) 8 104 under22 hi98 hz98 hs98 hb98 rfl (by decide) (.slice q7 nF c7) nF (evCells (ee ++ [r.mkEv] ++ flat kids)) (by rfl) ((show W7.ownsRow w.heap.size 98 8 (.slice q7 nF c7) nF (evCells (ee ++ [r.mkEv] ++ flat kids)) by have h9 := HM7.out.row; rw [← HNF.out] at h9; exact h9).alloc _ |>.drew) ⟨W7.heap.size, 0, none⟩ 1 1 [.int .i64 3, .int .i64 0, .int .i64 r.addr, .slice none 0 0, .int .i64 r.wk, .int .i64 r.wm, .string r.ws, .slice r.wp r.wn r.wc] (by rfl) (by rfl)
            (World.news_of_block (cs := #[.int .i64 3, .int .i64 0, .int .i64 r.addr, .slice none 0 0, .int .i64 r.wk, .int .i64 r.wm, .string r.ws, .slice r.wp r.wn r.wc]) (t := 98) (fr := (0, 0)) (heap_alloc_at W7 (.cells #[.int .i64 3, .int .i64 0, .int .i64 r.addr, .slice none 0 0, .int .i64 r.wk, .int .i64 r.wm, .string r.ws, .slice r.wp r.wn r.wc] 98))) (by simp [Value.oneCell']) (by omega) (by unfold maxLen; omega) (by omega) (by have := HM7.out.kept.size; show w.heap.size ≤ (W7.alloc _).heap.size; rw [World.size_alloc]; omega) _ rfl ?_
          intro g9 cap9 w9 hown hgrow hat5 hlt5
          rw [HNF.out] at hown
          obtain ⟨hbo5, hM5, hk5⟩ := HM7.out.push (t := r.wrEv) (O := .cells #[.int .i64 3, .int .i64 0, .int .i64 r.addr, .slice none 0 0, .int .i64 r.wk, .int .i64 r.wm, .string r.ws, .slice r.wp r.wn r.wc] 98) ⟨hgrow.os, hgrow.tape, hgrow.output, hgrow.size, hgrow.block⟩ hown
          rw [← HNF.out] at hM5 hk5
          have hkw9 : Keeps w w9 := Kept.trans HM7.out.kept (((Kept.refl (fun g => (Value.slice q7 nF c7).ownBlock = some g) W7).alloc (.cells #[.int .i64 3, .int .i64 0, .int .i64 r.addr, .slice none 0 0, .int .i64 r.wk, .int .i64 r.wm, .string r.ws, .slice r.wp r.wn r.wc] 98)).drew.grown hgrow (fun g hg _ => hg)) (fun g hg hx => by have h9 := (HM7.out.row.lt g hx).1; omega)
          obtain ⟨z0, z1, z2, z3, z4, z5, z6, z7, z8, z9, z10, z11, z12⟩ := HX.out _ hkw9
          have c0 := cell_of_block hbo5 0
          have c1 := free_of_block hbo5 0
          have hlo5 := heap_lt hbo5
          simp at c0
          have HM9 := Lib.hid hM5
          have HK9 := Lib.hid (hk5.mono (T := fun g => g = bn ∨ g = bo ∨ (Value.slice q7 nF c7).ownBlock = some g) fun _ _ x => .inr x)
          have HA9 := Lib.hid (show (Value.slice (some ⟨g9, 0, none⟩) (nF + 1) cap9).ownBlock = (Value.slice q7 nF c7).ownBlock ∨ ∃ g, (Value.slice (some ⟨g9, 0, none⟩) (nF + 1) cap9).ownBlock = some g ∧ W7.heap.size ≤ g from by
            rcases hat5 with h | h
            · exact .inl h.symm
            · refine .inr ⟨_, rfl, ?_⟩
              rw [h]
              show W7.heap.size ≤ (W7.alloc _).heap.size
              rw [World.size_alloc]
              exact Nat.le_succ _)
          refine ⟨⟨c0, z2, z8, z9, z10, z11⟩, ?_⟩
          clear hown hgrow hat5 hM5 hk5 z0 z1 z2 z3 z4 z5 z6 z7 z8 z9 z10 z11 b0 x2 x8 x9 x10 x11 hka
          have HK92 := Lib.hid (kept_chain HK72.out HA72.out HK9.out)
          have HA92 := Lib.hid (at_chain HK72.out.size HA72.out HA9.out)
          clear z12
          go_wp2_with fail
          go_roundw
          case rel => exact ⟨i + 1, _, by omega, by go_num, by rw [← HL.out, ← HKt.out]; exact HM9.out, HK92.out, HA92.out⟩
          case measure => simp [intOf] <;> omega
        | false =>
          go_wp2_with fail
          rw [← HWc.out]
          clear x3 x8 x9 x10 x11 x12 x0 t0 t1
          refine wp_region_lex 20 (fun W' => W'.cell? ⟨bo, 0, none⟩ = some (.slice qv nE cv) ∧ W'.cell? ⟨g, o + i * 13 + 1, none⟩ = some (.int .i64 r.site) ∧ W'.cell? ⟨g, o + i * 13 + 2, none⟩ = some (.int .i64 r.addr) ∧ W'.cell? ⟨g, o + i * 13 + 4, none⟩ = some (.int .i64 r.sk) ∧ W'.cell? ⟨g, o + i * 13 + 5, none⟩ = some (.int .i64 r.sm) ∧ W'.cell? ⟨g, o + i * 13 + 6, none⟩ = some (.string r.ss) ∧ W'.cell? ⟨g, o + i * 13 + 7, none⟩ = some (.slice r.sp r.sn r.sc)) (by kernel_rfl) (by kernel_rfl) (by rintro c ⟨_, _⟩ ⟨_, _⟩ w rfl h; exact h) ⟨b0, x1, x2, x4, x5, x6, x7⟩ ?_
          simp only [List.take_succ_cons, List.take_zero, List.drop_succ_cons, List.drop_zero]
          refine ⟨?_, Or.inl ⟨by rfl, ?_⟩, ?_⟩
          rotate_left
          · intro W2 hW2
            obtain ⟨s0, s1, s2, s3, s4, s5, s6⟩ := hW2
            go_simp
            try with_reducible rfl
          simp only [Act.put, List.setIfInBounds_toArray, List.set_cons_zero, List.set_cons_succ]
          refine ⟨?_, Or.inl ⟨by rfl, ?_⟩, ?_⟩
          rotate_left
          · intro W2 hW2
            obtain ⟨s0, s1, s2, s3, s4, s5, s6⟩ := hW2
            go_simp
            try with_reducible rfl
          simp only [Act.put, List.setIfInBounds_toArray, List.set_cons_zero, List.set_cons_succ]
          refine ⟨?_, Or.inl ⟨by rfl, ?_⟩, ?_⟩
          rotate_left
          · intro W2 hW2
            obtain ⟨s0, s1, s2, s3, s4, s5, s6⟩ := hW2
            go_simp
            try with_reducible rfl
          simp only [Act.put, List.setIfInBounds_toArray, List.set_cons_zero, List.set_cons_succ]
          refine ⟨?_, Or.inl ⟨by rfl, ?_⟩, ?_⟩
          rotate_left
          · intro W2 hW2
            obtain ⟨s0, s1, s2, s3, s4, s5, s6⟩ := hW2
            go_simp
            try with_reducible rfl
          simp only [Act.put, List.setIfInBounds_toArray, List.set_cons_zero, List.set_cons_succ]
          refine ⟨?_, Or.inl ⟨by rfl, ?_⟩, ?_⟩
          rotate_left
          · intro W2 hW2
            obtain ⟨s0, s1, s2, s3, s4, s5, s6⟩ := hW2
            go_simp
            try with_reducible rfl
          simp only [Act.put, List.setIfInBounds_toArray, List.set_cons_zero, List.set_cons_succ]
          refine ⟨?_, Or.inl ⟨by rfl, ?_⟩, ?_⟩
          rotate_left
          · intro W2 hW2
            obtain ⟨s0, s1, s2, s3, s4, s5, s6⟩ := hW2
            go_simp
            try with_reducible rfl
          simp only [Act.put, List.setIfInBounds_toArray, List.set_cons_zero, List.set_cons_succ]
          refine ⟨?_, Or.inl ⟨by rfl, ?_⟩, ?_⟩
          rotate_left
          · intro W2 hW2
            obtain ⟨s0, s1, s2, s3, s4, s5, s6⟩ := hW2
            go_simp
            try with_reducible rfl
          simp only [Act.put, List.setIfInBounds_toArray, List.set_cons_zero, List.set_cons_succ]
          refine ⟨?_, Or.inl ⟨by rfl, ?_⟩, ?_⟩
          rotate_left
          · intro W2 hW2
            obtain ⟨s0, s1, s2, s3, s4, s5, s6⟩ := hW2
            go_simp
            try with_reducible rfl
          simp only [Act.put, List.setIfInBounds_toArray, List.set_cons_zero, List.set_cons_succ]
          refine ⟨?_, Or.inl ⟨by rfl, ?_⟩, ?_⟩
          rotate_left
          · intro W2 hW2
            obtain ⟨s0, s1, s2, s3, s4, s5, s6⟩ := hW2
            go_simp
            try with_reducible rfl
          simp only [Act.put, List.setIfInBounds_toArray, List.set_cons_zero, List.set_cons_succ]
          refine ⟨?_, Or.inl ⟨by rfl, ?_⟩, ?_⟩
          rotate_left
          · intro W2 hW2
            obtain ⟨s0, s1, s2, s3, s4, s5, s6⟩ := hW2
            go_simp
            try with_reducible rfl
          simp only [Act.put, List.setIfInBounds_toArray, List.set_cons_zero, List.set_cons_succ]
          refine ⟨?_, Or.inl ⟨by rfl, ?_⟩, ?_⟩
          rotate_left
          · intro W2 hW2
            obtain ⟨s0, s1, s2, s3, s4, s5, s6⟩ := hW2
            go_simp
            try with_reducible rfl
          simp only [Act.put, List.setIfInBounds_toArray, List.set_cons_zero, List.set_cons_succ]
          refine ⟨?_, Or.inl ⟨by rfl, ?_⟩, ?_⟩
          rotate_left
          · intro W2 hW2
            obtain ⟨s0, s1, s2, s3, s4, s5, s6⟩ := hW2
            go_simp
            try with_reducible rfl
          simp only [Act.put, List.setIfInBounds_toArray, List.set_cons_zero, List.set_cons_succ]
          refine ⟨?_, Or.inl ⟨by rfl, ?_⟩, ?_⟩
          rotate_left
          · intro W2 hW2
            obtain ⟨s0, s1, s2, s3, s4, s5, s6⟩ := hW2
            go_simp
            try with_reducible rfl
          simp only [Act.put, List.setIfInBounds_toArray, List.set_cons_zero, List.set_cons_succ]
          refine ⟨?_, Or.inl ⟨by rfl, ?_⟩, ?_⟩
          rotate_left
          · intro W2 hW2
            obtain ⟨s0, s1, s2, s3, s4, s5, s6⟩ := hW2
            go_simp
            try with_reducible rfl
          simp only [Act.put, List.setIfInBounds_toArray, List.set_cons_zero, List.set_cons_succ]
          refine ⟨?_, Or.inl ⟨by rfl, ?_⟩, ?_⟩
          rotate_left
          · intro W2 hW2
            obtain ⟨s0, s1, s2, s3, s4, s5, s6⟩ := hW2
            go_simp
            try with_reducible rfl
          simp only [Act.put, List.setIfInBounds_toArray, List.set_cons_zero, List.set_cons_succ]
          refine ⟨?_, Or.inl ⟨by rfl, ?_⟩, ?_⟩
          rotate_left
          · intro W2 hW2
            obtain ⟨s0, s1, s2, s3, s4, s5, s6⟩ := hW2
            go_simp
            try with_reducible rfl
          simp only [Act.put, List.setIfInBounds_toArray, List.set_cons_zero, List.set_cons_succ]
          refine ⟨?_, Or.inl ⟨by rfl, ?_⟩, ?_⟩
          rotate_left
          · intro W2 hW2
            obtain ⟨s0, s1, s2, s3, s4, s5, s6⟩ := hW2
            go_simp
            try with_reducible rfl
          simp only [Act.put, List.setIfInBounds_toArray, List.set_cons_zero, List.set_cons_succ]
          refine ⟨?_, Or.inl ⟨by rfl, ?_⟩, ?_⟩
          rotate_left
          · intro W2 hW2
            obtain ⟨s0, s1, s2, s3, s4, s5, s6⟩ := hW2
            go_simp
            try with_reducible rfl
          simp only [Act.put, List.setIfInBounds_toArray, List.set_cons_zero, List.set_cons_succ]
          refine ⟨?_, Or.inl ⟨by rfl, ?_⟩, ?_⟩
          rotate_left
          · intro W2 hW2
            obtain ⟨s0, s1, s2, s3, s4, s5, s6⟩ := hW2
            go_simp
            try with_reducible rfl
          simp only [Act.put, List.setIfInBounds_toArray, List.set_cons_zero, List.set_cons_succ]
          refine ⟨?_, Or.inl ⟨by rfl, ?_⟩, ?_⟩
          rotate_left
          · intro W2 hW2
            obtain ⟨s0, s1, s2, s3, s4, s5, s6⟩ := hW2
            go_simp
            try with_reducible rfl
          simp only [Act.put, List.setIfInBounds_toArray, List.set_cons_zero, List.set_cons_succ]
          unfold wpYields
          refine wpOp_of rfl rfl ?_
          go_simp
          have hka : Keeps Wc (Wc.alloc (.cells #[.int .i64 2, .int .i64 r.site, .int .i64 r.addr, .slice none 0 0, .int .i64 r.sk, .int .i64 r.sm, .string r.ss, .slice r.sp r.sn r.sc] 98)).drew := Kept.drew (Keeps.alloc _ _)
          refine ⟨⟨cell_keeps hka b0, cell_keeps hka x1, cell_keeps hka x2, cell_keeps hka x4, cell_keeps hka x5, cell_keeps hka x6, cell_keeps hka x7⟩, wpOp_of rfl rfl ?_⟩
          refine wp_append_lies _ (.tmp 61) (.tmp 78) 22 (by rfl) w.heap.size 98 i98 (.agg #[.int .i64 0, .int .i64 0, .int .i64 0, .slice none 0 0, .int .i64 0, .int .i64 0, .string ⟨#[]⟩, .slice none 0 0]) 8 104 under22 hi98 hz98 hs98 hb98 rfl (by decide) (.slice qv nE cv) nE (evCells ee) (by rfl) ((show Wc.ownsRow w.heap.size 98 8 (.slice qv nE cv) nE (evCells ee) by have h9 := HMc.out.row; rw [← HNE.out] at h9; exact h9).alloc _ |>.drew) ⟨Wc.heap.size, 0, none⟩ 1 1 [.int .i64 2, .int .i64 r.site, .int .i64 r.addr, .slice none 0 0, .int .i64 r.sk, .int .i64 r.sm, .string r.ss, .slice r.sp r.sn r.sc] (by rfl) (by rfl)
            (World.news_of_block (cs := #[.int .i64 2, .int .i64 r.site, .int .i64 r.addr, .slice none 0 0, .int .i64 r.sk, .int .i64 r.sm, .string r.ss, .slice r.sp r.sn r.sc]) (t := 98) (fr := (0, 0)) (heap_alloc_at Wc (.cells #[.int .i64 2, .int .i64 r.site, .int .i64 r.addr, .slice none 0 0, .int .i64 r.sk, .int .i64 r.sm, .string r.ss, .slice r.sp r.sn r.sc] 98))) (by simp [Value.oneCell']) (by omega) (by unfold maxLen; omega) (by omega) (by have := HMc.out.kept.size; show w.heap.size ≤ (Wc.alloc _).heap.size; rw [World.size_alloc]; omega) _ rfl ?_
          intro g5 cap5 w5 hown hgrow hat5 hlt5
          rw [HNE.out] at hown
          obtain ⟨hbo5, hM5, hk5⟩ := HMc.out.push (t := r.rdEv) (O := .cells #[.int .i64 2, .int .i64 r.site, .int .i64 r.addr, .slice none 0 0, .int .i64 r.sk, .int .i64 r.sm, .string r.ss, .slice r.sp r.sn r.sc] 98) ⟨hgrow.os, hgrow.tape, hgrow.output, hgrow.size, hgrow.block⟩ hown
          rw [← HNE.out] at hM5 hk5
          have hkw5 : Keeps w w5 := Kept.trans HMc.out.kept (((Kept.refl (fun g => (Value.slice qv nE cv).ownBlock = some g) Wc).alloc (.cells #[.int .i64 2, .int .i64 r.site, .int .i64 r.addr, .slice none 0 0, .int .i64 r.sk, .int .i64 r.sm, .string r.ss, .slice r.sp r.sn r.sc] 98)).drew.grown hgrow (fun g hg _ => hg)) (fun g hg hx => by have h9 := (HMc.out.row.lt g hx).1; omega)
          obtain ⟨z0, z1, z2, z3, z4, z5, z6, z7, z8, z9, z10, z11, z12⟩ := HX.out _ hkw5
          have c0 := cell_of_block hbo5 0
          have c1 := free_of_block hbo5 0
          have hlo5 := heap_lt hbo5
          simp at c0
          have HM5 := Lib.hid hM5
          have HK5 := Lib.hid (hk5.mono (T := fun g => g = bn ∨ g = bo ∨ (Value.slice qv nE cv).ownBlock = some g) fun _ _ x => .inr x)
          have HA5 := Lib.hid (show (Value.slice (some ⟨g5, 0, none⟩) (nE + 1) cap5).ownBlock = (Value.slice qv nE cv).ownBlock ∨ ∃ g, (Value.slice (some ⟨g5, 0, none⟩) (nE + 1) cap5).ownBlock = some g ∧ Wc.heap.size ≤ g from by
            rcases hat5 with h | h
            · exact .inl h.symm
            · refine .inr ⟨_, rfl, ?_⟩
              rw [h]
              show Wc.heap.size ≤ (Wc.alloc _).heap.size
              rw [World.size_alloc]
              exact Nat.le_succ _)
          refine ⟨⟨c0, z1, z2, z4, z5, z6, z7⟩, ?_⟩
          clear hown hgrow hat5 hM5 hk5 z0 z1 z2 z3 z4 z5 z6 z7 z8 z9 z10 z11 b0 x1 x2 x4 x5 x6 x7 hka
          have hszW : W.heap.size ≤ Wc.heap.size := Nat.le_trans HKw.out.size HKc.out.size
          have HC := Lib.hid (HI.out kids (.slice pk kids.length ck) _ _ (ee ++ [r.rdEv]) (kk + 1) (deep + 1) HKids.out HM5.out hkb hdb (by rw [List.length_append, ← HNE.out]; simp; omega))
          rw [show ((deep + 1 : Nat) : Int) = (deep : Int) + 1 by omega] at HC
          have z12' := (HX.out _ HM5.out.kept).2.2.2.2.2.2.2.2.2.2.2.2
          have HKc2 := Lib.hid (kept_chain HKw.out HAt.out (HKc.out.mono fun _ _ x => .inl x))
          have HK52 := Lib.hid (kept_chain HKc2.out HAt.out HK5.out)
          have HA52 := Lib.hid (at_chain hszW HAt.out HA5.out)
          clear z12
          go_wp2_with (go_at_call 62; refine holdT ?_)
          refine Lib.hid ?_
          refine HC.out.mono ?_
          rintro _ W7 ⟨v7, rfl, hM7, hk7, hat7⟩
          have HK72 := Lib.hid (kept_chain HK52.out HA52.out hk7)
          have HA72 := Lib.hid (at_chain (Nat.le_trans hszW HK5.out.size) HA52.out hat7)
          obtain ⟨x0, x1, x2, x3, x4, x5, x6, x7, x8, x9, x10, x11, x12⟩ := HX.out _ hM7.kept
          clear c0 c1 z12' hk7 hat7 hbo5 hlo5
          have HM7 := Lib.hid hM7
          have HL := Lib.hid (show (ee ++ [r.rdEv]) ++ flat kids = evs ++ flat (l.take (i + 1)) by rw [flat_take HU.out, ← HEe.out]; simp)
          have HKt := Lib.hid (show kk + 1 + cnt kids = k + cnt (l.take (i + 1)) by rw [HSp.out, ← HKk.out]; omega)
          clear hM7
          go_wp2_with fail
          go_roundw
          case rel => exact ⟨i + 1, v7, by omega, by go_num, by rw [← HL.out, ← HKt.out]; exact HM7.out, HK72.out, HA72.out⟩
          case measure => simp [intOf] <;> omega
      · obtain rfl : i = n := by omega
        have hM' := hM
        rw [HN.out, List.take_length] at hM'
        have HMe := Lib.hid hM'
        have HAt := Lib.hid hat
        have k6 : ¬ (i : Int) < i := by omega
        clear hM hM' hkw hat
        go_wp2_with fail
        go_ret
        exact ⟨vi, rfl, HMe.out, HKw.out, HAt.out⟩
end Go.Proofs.YtbhiaeciiphelaaGreatDoor
