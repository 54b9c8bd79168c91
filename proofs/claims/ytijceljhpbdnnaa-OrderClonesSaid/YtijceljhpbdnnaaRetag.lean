/-
  retag: the minor tags of a group spread anew. Conditions: each theorem's own hypotheses on memory.
-/
import Derived.Test.YtijceljhpbdnnaaRead2
namespace Go.Proofs.Ytijceljhpbdnnaa
open Go.RowKit

set_option maxHeartbeats 400000 in
theorem set55 (i bx gb sb : Nat) (was tag : Int) (w : World) (hi : i < 32)
    (hb : w.cell? ⟨bx, 0, none⟩ = some (.pointer (some ⟨gb, 0, none⟩))) (hx : w.cell? ⟨gb, 2 + i, none⟩ = some (.pointer (some ⟨sb, 0, none⟩)))
    (hm : w.cell? ⟨sb, 1, none⟩ = some (.int .i64 was)) (hf : w.frozen? ⟨sb, 1, none⟩ = false) :
    Calls Try.prog 55 #[.int .i64 i, .int .i64 tag, .pointer (some ⟨bx, 0, none⟩)] w fun e w' => e = .returned (.bool (was != tag)) ∧ w' = w.setCell ⟨sb, 1, none⟩ (.int .i64 tag) := by
  go_enter Try.func55, Try.ntmps55
  go_wp2
  go_ret
  exact ⟨rfl, rfl⟩

/-- The tag that spread gives to place j of n. -/
def tagOf (n j : Nat) : Nat := (j + 1) * (1099511627776 / (n + 1))

theorem tagOf_le {n j : Nat} (h : j < n) : tagOf n j ≤ 1099511627776 := by
  unfold tagOf
  calc (j + 1) * (1099511627776 / (n + 1)) ≤ (n + 1) * (1099511627776 / (n + 1)) := Nat.mul_le_mul_right _ (by omega)
    _ ≤ 1099511627776 := Nat.mul_div_le _ _
theorem tagOf_wrap {n j : Nat} (h : j < n) : wrap64 (((j : Int) + 1) * (1099511627776 / ((n : Int) + 1))) = ((tagOf n j : Nat) : Int) := by
  have e : ((j : Int) + 1) * (1099511627776 / ((n : Int) + 1)) = ((tagOf n j : Nat) : Int) := by
    unfold tagOf
    simp only [Int.natCast_mul, Int.natCast_ediv, Int.natCast_add, Int.cast_ofNat_Int]
  have := tagOf_le h
  rw [e, IntWalk.wrap64_in _ ⟨by omega, by omega⟩]

structure RetagRel (w : World) (lb bx gb : Nat) (ss : List Stp) (first : Option Nat) (many moves : Nat) (all : Value) (nn k : Nat) (wr : World) : Prop where
  kept : Kept (fun b => b = lb ∨ ∃ s, s ∈ ss ∧ s.b = b) w wr
  list : ∃ mv, mv ≤ moves + k ∧ wr.heap[lb]? = some (listObj first many mv all nn)
  stamps : ∀ (j : Nat) s, ss[j]? = some s → wr.heap[s.b]? = some (stampObj s.id (if j < k then tagOf ss.length j else s.minor) gb)

theorem RetagRel.step {w : World} {lb bx gb : Nat} {ss : List Stp} {first : Option Nat} {many moves : Nat} {all : Value} {nn k : Nat} {wr : World}
    (h : RetagRel w lb bx gb ss first many moves all nn k wr) {s : Stp} (hs : ss[k]? = some s) (hap : Apart ss) {b : Nat} {was : Nat} {mv : Nat}
    (hl : wr.heap[lb]? = some (listObj first many mv all nn)) (hmv : mv ≤ moves + k) :
    RetagRel w lb bx gb ss first many moves all nn (k + 1) (wr.setCell ⟨s.b, 1, none⟩ (.int .i64 (tagOf ss.length k))) ∧
    RetagRel w lb bx gb ss first many moves all nn (k + 1) ((wr.setCell ⟨s.b, 1, none⟩ (.int .i64 (tagOf ss.length k))).setCell ⟨lb, 2, none⟩ (.int .i64 ((mv + 1 : Nat) : Int))) := by
  have hst := h.stamps k s hs
  have hne := ne_list_stamp hl hst
  have hl1 : (wr.setCell ⟨s.b, 1, none⟩ (.int .i64 (tagOf ss.length k))).heap[lb]? = some (listObj first many mv all nn) := by rw [heap_set_other _ hne]; exact hl
  have hk1 : Kept (fun b => b = lb ∨ ∃ s, s ∈ ss ∧ s.b = b) w (wr.setCell ⟨s.b, 1, none⟩ (.int .i64 (tagOf ss.length k))) := h.kept.setCell (fun _ => Or.inr ⟨s, List.mem_of_getElem? hs, rfl⟩) _
  have hs1 : ∀ (j : Nat) s', ss[j]? = some s' → (wr.setCell ⟨s.b, 1, none⟩ (.int .i64 (tagOf ss.length k))).heap[s'.b]? = some (stampObj s'.id (if j < k + 1 then tagOf ss.length j else s'.minor) gb) := by
    intro j s' hj
    by_cases hjk : j = k
    · subst hjk
      obtain rfl : s = s' := by rw [hs] at hj; simpa using hj
      rw [stamp_set1 hst]; simp
    · have hne' : s'.b ≠ s.b := fun e => hjk (hap j k s' s hj hs e)
      rw [heap_set_other _ hne', h.stamps j s' hj]
      by_cases hlt : j < k
      · simp [hlt, Nat.lt_succ_of_lt hlt]
      · simp [hlt, show ¬ j < k + 1 from by omega]
  refine ⟨⟨hk1, ⟨mv, by omega, hl1⟩, hs1⟩, ⟨hk1.setCell (fun _ => Or.inl rfl) _, ⟨mv + 1, by omega, list_set2 hl1 (mv + 1)⟩, ?_⟩⟩
  intro j s' hj
  have hj' := hs1 j s' hj
  rw [heap_set_other _ (Ne.symm (ne_list_stamp hl1 hj'))]
  exact hj'

set_option maxHeartbeats 1000000 in
theorem spread55 (w : World) (lb bx gb : Nat) (g : Grp) (pv nx : Option Nat) (first : Option Nat) (many moves : Nat) (all : Value) (nn : Nat)
    (hgb : g.b = gb) (hG : GroupAt w pv nx g) (hap : Apart g.ss) (hl : w.heap[lb]? = some (listObj first many moves all nn)) (hbx : w.heap[bx]? = some (.cells #[ptr gb] 61 (0, 0)))
    (hmv : moves ≤ 1000000000000) :
    Calls Try.prog 54 #[.pointer (some ⟨lb, 0, none⟩), .int .i64 g.ss.length, .func (.func 55) #[] #[.pointer (some ⟨bx, 0, none⟩)]] w
      fun e w' => e = .returned (.tuple #[]) ∧ RetagRel w lb bx gb g.ss first many moves all nn g.ss.length w' := by
  obtain ⟨hG1, hG2, hG3⟩ := hG
  have hL : g.ss.length ≤ 32 := by simp [Grp.arr] at hG2; omega
  have Hb := Lib.hid hgb
  have HL := Lib.hid hl
  have HG1 := Lib.hid hG1
  have HG2 := Lib.hid hG2
  have HG3 := Lib.hid hG3
  have HX := Lib.hid hbx
  have HA := Lib.hid hap
  clear hgb hl hG1 hG2 hG3 hbx hap
  obtain ⟨L, hLL⟩ : ∃ L, L = g.ss.length := ⟨_, rfl⟩
  rw [← hLL] at hL ⊢
  have HLL := Lib.hid hLL
  clear hLL
  go_enter Try.func54, Try.ntmps54
  go_wp2
  go_loopw [6, 8] (fun _ c wr => ∃ k : Nat, k ≤ L ∧ c = .int .i64 k ∧ RetagRel w lb bx gb g.ss first many moves all nn k wr) (fun _ c _ => L - (intOf c).toNat)
  case atStart => exact ⟨0, Nat.zero_le _, rfl, ⟨Kept.refl _ _, ⟨moves, by omega, HL.out⟩, fun j s hj => by have := HG3.out s (List.mem_of_getElem? hj); rw [StampAt, Hb.out] at this; simpa using this⟩⟩
  case round =>
    obtain ⟨k, hk, rfl, hr⟩ := hrel
    by_cases hlt : k < L
    · have HR := Lib.hid hr
      clear hr
      obtain ⟨s, hs⟩ : ∃ s, g.ss[k]? = some s := ⟨g.ss[k]'(by rw [← HLL.out]; exact hlt), List.getElem?_eq_getElem _⟩
      have hst := HR.out.stamps k s hs
      obtain ⟨mv, hm1, hm2⟩ := HR.out.list
      have HS := Lib.hid hs
      have hbx0 : wr.heap[bx]? = some (.cells #[ptr gb] 61 (0, 0)) := by
        rw [HR.out.kept.block bx (heap_lt HX.out), HX.out]
        rintro (e | ⟨s', hs', e⟩)
        · subst e; have := HX.out; rw [HL.out] at this; simp [listObj] at this
        · subst e; have := HG3.out s' hs'; rw [StampAt, HX.out] at this; simp [stampObj] at this
      have hg0 : wr.heap[gb]? = some (groupObj g.tag g.ss.length g.arr pv nx) := by
        rw [← Hb.out, HR.out.kept.block g.b (heap_lt HG1.out), HG1.out]
        rintro (e | ⟨s', hs', e⟩)
        · have := HG1.out; rw [e, HL.out] at this; simp [listObj, groupObj] at this
        · have := HG3.out s' hs'; rw [StampAt, e, HG1.out] at this; simp [stampObj, groupObj] at this
      have c1 : wr.cell? ⟨bx, 0, none⟩ = some (ptr gb) := by rw [cell_of_block hbx0]; rfl
      have c2 : wr.cell? ⟨gb, 2 + k, none⟩ = some (.pointer (some ⟨s.b, 0, none⟩)) := by
        refine group_ca hg0 ?_
        have h1 := List.getElem?_eq_some_iff.1 hs
        obtain ⟨h1, h2⟩ := h1
        simp [Grp.arr, List.getElem?_append, h1, h2]
      have c3 := stamp_c1 hst
      have c4 := stamp_fr hst 1
      have c5 := list_c2 hm2
      have c6 := list_fr hm2 2
      have hne := ne_list_stamp hm2 hst
      generalize hwas : (if k < k then tagOf g.ss.length k else s.minor) = was at *
      have hS := HR.out.step (b := lb) (was := was) hs HA.out hm2 hm1
      rw [← HLL.out] at hS
      have HSt := Lib.hid hS
      clear hS hwas hst hbx0 hg0 hs hm2
      go_wp2_with fail
      rw [tagOf_wrap hlt]
      refine (set55 k bx gb s.b was (tagOf L k) wr (by omega) c1 c2 c3 c4).mono ?_
      rintro e w' ⟨rfl, rfl⟩
      go_wp2
      · go_roundw
        case rel => exact ⟨k + 1, by omega, by go_num, HSt.out.2⟩
        case measure => simp [intOf]; omega
      · go_roundw
        case rel => exact ⟨k + 1, by omega, by go_num, HSt.out.1⟩
        case measure => simp [intOf]; omega
    · obtain rfl : k = L := by omega
      have HR := Lib.hid hr
      clear hr
      go_wp2
      go_end0
      exact ⟨rfl, HR.out⟩

theorem kept_alloc_only (S : Nat → Prop) (w : World) (o : Obj) : Kept S w (w.alloc o) := (Kept.refl S w).alloc o
set_option maxHeartbeats 400000 in
/-- retag: every stamp of the group has the tag that spread gives to its place; at most so many moves more. -/
theorem retag_of (w : World) (lb : Nat) (g : Grp) (pv nx : Option Nat) (first : Option Nat) (many moves : Nat) (all : Value) (nn : Nat)
    (hG : GroupAt w pv nx g) (hap : Apart g.ss) (hl : w.heap[lb]? = some (listObj first many moves all nn)) (hmv : moves ≤ 1000000000000) :
    Calls Try.prog 37 #[.pointer (some ⟨lb, 0, none⟩), .pointer (some ⟨g.b, 0, none⟩)] w
      fun e w' => e = .returned (.tuple #[]) ∧ RetagRel w lb w.heap.size g.b g.ss first many moves all nn g.ss.length w' := by
  have hlG := heap_lt hG.1
  have h1 : GroupAt (w.alloc (.cells #[ptr g.b] 61)) pv nx g := ⟨heap_alloc_old _ hG.1, hG.2.1, fun s hs => heap_alloc_old _ (hG.2.2 s hs)⟩
  have h2 := spread55 (w.alloc (.cells #[ptr g.b] 61)) lb w.heap.size g.b g pv nx first many moves all nn rfl h1 hap (heap_alloc_old _ hl) (heap_alloc_at _ _) hmv
  have hn := group_c1 hG.1
  have H2 := Lib.hid h2
  clear h1 h2
  have HG := Lib.hid hG
  have HL := Lib.hid hl
  clear hG hl hap
  obtain ⟨L, hL⟩ : ∃ L, L = g.ss.length := ⟨_, rfl⟩
  obtain ⟨gb, hgb⟩ : ∃ gb, gb = g.b := ⟨_, rfl⟩
  rw [← hL] at H2 hn ⊢
  rw [← hgb] at H2 hn hlG ⊢
  have HH := Lib.hid hL
  have HB := Lib.hid hgb
  clear hL hgb
  go_enter Try.func37, Try.ntmps37
  go_wp2_with (go_at_call 54; refine H2.out.mono ?_; rintro e w' ⟨rfl, hr⟩; have HR := Lib.hid hr; clear hr)
  go_end0
  refine ⟨rfl, ?_⟩
  obtain ⟨k, l, s⟩ := HR.out
  exact ⟨⟨k.os, k.tape, k.output, Nat.le_trans (by simp) k.size, fun i hi hn => (k.block i (by simp; omega) hn).trans (Below.heap_alloc _ _ _ hi)⟩, l, s⟩
end Go.Proofs.Ytijceljhpbdnnaa
