/-
  The closures of after, and spread over the groups. Conditions: each theorem's own hypotheses on memory.
-/
import Derived.Test.YtijceljhpbdnnaaCollect
import Derived.Test.YtijceljhpbdnnaaDelete
namespace Go.Proofs.Ytijceljhpbdnnaa
open Go.RowKit

set_option maxHeartbeats 400000 in
theorem room_last (bx gb tag : Nat) (w : World) (ht : tag < space)
    (c1 : w.cell? ⟨bx, 0, none⟩ = some (.pointer (some ⟨gb, 0, none⟩))) (c2 : w.cell? ⟨gb, 35, none⟩ = some (.pointer none)) (c3 : w.cell? ⟨gb, 0, none⟩ = some (.int .i64 tag)) :
    Calls Try.prog 58 #[.pointer (some ⟨bx, 0, none⟩)] w fun e w' => e = .returned (.tuple #[.int .i64 ((tag + (space - tag) / 2 : Nat) : Int), .bool (decide (2 ≤ space - tag))]) ∧ ∃ m, w' = w.drewN m := by
  have h1 : (1099511627776 - (tag : Int)) / 2 = (((space - tag) / 2 : Nat) : Int) := by unfold space at *; omega
  have H1 := Lib.hid h1
  clear h1
  unfold space at ht
  go_enter Try.func58, Try.ntmps58
  go_wp2
  go_quiet (fail)
  go_wp2
  go_ret2
  refine ⟨?_, _, rfl⟩
  have e1 : ((tag + (space - tag) / 2 : Nat) : Int) = (tag : Int) + (1099511627776 - (tag : Int)) / 2 := by rw [H1.out]; push_cast; rfl
  have e2 : decide (2 ≤ space - tag) = decide ((2 : Int) ≤ 1099511627776 - (tag : Int)) := by
    rw [decide_eq_decide]; unfold space; omega
  rw [e1, e2]; rfl
set_option maxHeartbeats 400000 in
theorem room_next (bx gb nb tag nt : Nat) (w : World) (ht : tag < nt) (hn : nt < space)
    (c1 : w.cell? ⟨bx, 0, none⟩ = some (.pointer (some ⟨gb, 0, none⟩))) (c2 : w.cell? ⟨gb, 35, none⟩ = some (.pointer (some ⟨nb, 0, none⟩))) (c3 : w.cell? ⟨gb, 0, none⟩ = some (.int .i64 tag))
    (c4 : w.cell? ⟨nb, 0, none⟩ = some (.int .i64 nt)) :
    Calls Try.prog 58 #[.pointer (some ⟨bx, 0, none⟩)] w fun e w' => e = .returned (.tuple #[.int .i64 ((tag + (nt - tag) / 2 : Nat) : Int), .bool (decide (2 ≤ nt - tag))]) ∧ ∃ m, w' = w.drewN m := by
  have h1 : ((nt : Int) - (tag : Int)) / 2 = (((nt - tag) / 2 : Nat) : Int) := by omega
  have H1 := Lib.hid h1
  clear h1
  unfold space at hn
  go_enter Try.func58, Try.ntmps58
  go_wp2
  go_quiet (fail)
  go_wp2
  go_ret2
  refine ⟨?_, _, rfl⟩
  have e1 : ((tag + (nt - tag) / 2 : Nat) : Int) = (tag : Int) + ((nt : Int) - (tag : Int)) / 2 := by rw [H1.out]; push_cast; rfl
  have e2 : decide (2 ≤ nt - tag) = decide ((2 : Int) ≤ (nt : Int) - (tag : Int)) := by
    rw [decide_eq_decide]; omega
  rw [e1, e2]; rfl
set_option maxHeartbeats 400000 in
theorem set60 (i bx rb n cap gb : Nat) (was tag : Int) (w : World) (hi : i < n)
    (hb : w.cell? ⟨bx, 0, none⟩ = some (.slice (some ⟨rb, 0, none⟩) n cap)) (hx : w.cell? ⟨rb, i, none⟩ = some (.pointer (some ⟨gb, 0, none⟩)))
    (hm : w.cell? ⟨gb, 0, none⟩ = some (.int .i64 was)) (hf : w.frozen? ⟨gb, 0, none⟩ = false) :
    Calls Try.prog 60 #[.int .i64 i, .int .i64 tag, .pointer (some ⟨bx, 0, none⟩)] w fun e w' => e = .returned (.bool (was != tag)) ∧ w' = w.setCell ⟨gb, 0, none⟩ (.int .i64 tag) := by
  go_enter Try.func60, Try.ntmps60
  go_wp2
  go_ret
  exact ⟨rfl, rfl⟩

theorem seg_at {w : World} {gs : List Grp} {pv nx : Option Nat} (h : Seg w pv gs nx) {j : Nat} {g : Grp} (hj : gs[j]? = some g) : GroupAt w (lastB pv (gs.take j)) (headB nx (gs.drop (j + 1))) g := by
  have hi := List.getElem?_eq_some_iff.1 hj
  obtain ⟨hi, e⟩ := hi
  have hsp : gs = gs.take j ++ g :: gs.drop (j + 1) := by rw [← e, ← List.drop_eq_getElem_cons hi, List.take_append_drop]
  rw [hsp, seg_append] at h
  exact h.2.1
theorem seg_of_at {w : World} {gs : List Grp} {nx : Option Nat} : ∀ {pv : Option Nat}, (∀ (j : Nat) g, gs[j]? = some g → GroupAt w (lastB pv (gs.take j)) (headB nx (gs.drop (j + 1))) g) → Seg w pv gs nx := by
  induction gs with
  | nil => intro pv _; trivial
  | cons g gs ih =>
    intro pv h
    exact ⟨by simpa [lastB] using h 0 g rfl, ih (fun j x hj => by simpa [lastB] using h (j + 1) x (by simpa using hj))⟩

structure SpreadRel (w : World) (lb : Nat) (gs : List Grp) (first : Option Nat) (many moves : Nat) (all : Value) (nn k : Nat) (wr : World) : Prop where
  kept : Kept (fun b => b = lb ∨ ∃ g, g ∈ gs ∧ g.b = b) w wr
  list : ∃ mv, mv ≤ moves + k ∧ wr.heap[lb]? = some (listObj first many mv all nn)
  groups : ∀ (j : Nat) g, gs[j]? = some g → wr.heap[g.b]? = some (groupObj (if j < k then tagOf gs.length j else g.tag) g.ss.length g.arr (lastB none (gs.take j)) (headB none (gs.drop (j + 1))))
def Gapart (gs : List Grp) : Prop := ∀ (j k : Nat) x y, gs[j]? = some x → gs[k]? = some y → x.b = y.b → j = k
theorem SpreadRel.step {w : World} {lb : Nat} {gs : List Grp} {first : Option Nat} {many moves : Nat} {all : Value} {nn k : Nat} {wr : World}
    (h : SpreadRel w lb gs first many moves all nn k wr) {g : Grp} (hg : gs[k]? = some g) (hap : Gapart gs) {mv : Nat}
    (hl : wr.heap[lb]? = some (listObj first many mv all nn)) (hmv : mv ≤ moves + k) :
    SpreadRel w lb gs first many moves all nn (k + 1) (wr.setCell ⟨g.b, 0, none⟩ (.int .i64 (tagOf gs.length k))) ∧
    SpreadRel w lb gs first many moves all nn (k + 1) ((wr.setCell ⟨g.b, 0, none⟩ (.int .i64 (tagOf gs.length k))).setCell ⟨lb, 2, none⟩ (.int .i64 ((mv + 1 : Nat) : Int))) := by
  have hgr := h.groups k g hg
  have hne := ne_list_group hl hgr
  have hl1 : (wr.setCell ⟨g.b, 0, none⟩ (.int .i64 (tagOf gs.length k))).heap[lb]? = some (listObj first many mv all nn) := by rw [heap_set_other _ hne]; exact hl
  have hk1 : Kept (fun b => b = lb ∨ ∃ g, g ∈ gs ∧ g.b = b) w (wr.setCell ⟨g.b, 0, none⟩ (.int .i64 (tagOf gs.length k))) := h.kept.setCell (fun _ => Or.inr ⟨g, List.mem_of_getElem? hg, rfl⟩) _
  have hs1 : ∀ (j : Nat) x, gs[j]? = some x → (wr.setCell ⟨g.b, 0, none⟩ (.int .i64 (tagOf gs.length k))).heap[x.b]? = some (groupObj (if j < k + 1 then tagOf gs.length j else x.tag) x.ss.length x.arr (lastB none (gs.take j)) (headB none (gs.drop (j + 1)))) := by
    intro j x hj
    by_cases hjk : j = k
    · subst hjk
      obtain rfl : g = x := by rw [hg] at hj; simpa using hj
      rw [group_set0 hgr]; simp
    · have hne' : x.b ≠ g.b := fun e => hjk (hap j k x g hj hg e)
      rw [heap_set_other _ hne', h.groups j x hj]
      by_cases hlt : j < k
      · simp [hlt, Nat.lt_succ_of_lt hlt]
      · simp [hlt, show ¬ j < k + 1 from by omega]
  refine ⟨⟨hk1, ⟨mv, by omega, hl1⟩, hs1⟩, ⟨hk1.setCell (fun _ => Or.inl rfl) _, ⟨mv + 1, by omega, list_set2 hl1 (mv + 1)⟩, ?_⟩⟩
  intro j x hj
  have hj' := hs1 j x hj
  rw [heap_set_other _ (Ne.symm (ne_list_group hl1 hj'))]
  exact hj'

set_option maxHeartbeats 1000000 in
theorem spread60 (w : World) (lb bx rb cap : Nat) (gs : List Grp) (cur : Array Value) (first : Option Nat) (many moves : Nat) (all : Value) (nn : Nat)
    (hS : Seg w none gs none) (hap : Gapart gs) (hl : w.heap[lb]? = some (listObj first many moves all nn)) (hbx : w.heap[bx]? = some (.cells #[.slice (some ⟨rb, 0, none⟩) gs.length cap] 106 (0, 0)))
    (hrb : w.heap[rb]? = some (.cells cur 61 (0, 0))) (hcur : ∀ (j : Nat) g, gs[j]? = some g → cur[j]? = some (ptr g.b))
    (hmv : moves ≤ 1000000000000) (hlen : gs.length ≤ 100000) :
    Calls Try.prog 54 #[.pointer (some ⟨lb, 0, none⟩), .int .i64 gs.length, .func (.func 60) #[] #[.pointer (some ⟨bx, 0, none⟩)]] w
      fun e w' => e = .returned (.tuple #[]) ∧ SpreadRel w lb gs first many moves all nn gs.length w' := by
  have HL := Lib.hid hl
  have HS := Lib.hid hS
  have HX := Lib.hid hbx
  have HRb := Lib.hid hrb
  have HC := Lib.hid hcur
  have HA := Lib.hid hap
  clear hl hS hbx hrb hcur hap
  obtain ⟨L, hLL⟩ : ∃ L, L = gs.length := ⟨_, rfl⟩
  rw [← hLL] at hlen HX ⊢
  have HLL := Lib.hid hLL
  clear hLL
  go_enter Try.func54, Try.ntmps54
  go_wp2
  go_loopw [6, 8] (fun _ c wr => ∃ k : Nat, k ≤ L ∧ c = .int .i64 k ∧ SpreadRel w lb gs first many moves all nn k wr) (fun _ c _ => L - (intOf c).toNat)
  case atStart => exact ⟨0, Nat.zero_le _, rfl, ⟨Kept.refl _ _, ⟨moves, by omega, HL.out⟩, fun j g hj => by simpa using (seg_at HS.out hj).1⟩⟩
  case round =>
    obtain ⟨k, hk, rfl, hr⟩ := hrel
    by_cases hlt : k < L
    · have HR := Lib.hid hr
      clear hr
      obtain ⟨g, hg⟩ : ∃ g, gs[k]? = some g := ⟨gs[k]'(by rw [← HLL.out]; exact hlt), List.getElem?_eq_getElem _⟩
      have hgr := HR.out.groups k g hg
      obtain ⟨mv, hm1, hm2⟩ := HR.out.list
      have hnot : ∀ (b : Nat) (c : Array Value) (t : TypeId), w.heap[b]? = some (.cells c t (0, 0)) → t ≠ 66 → t ≠ 71 → wr.heap[b]? = some (.cells c t (0, 0)) := by
        intro b c t hb h66 h71
        rw [HR.out.kept.block b (heap_lt hb)]
        · exact hb
        · rintro (e | ⟨g', hg', e⟩)
          · subst e; have := HL.out; rw [hb] at this; simp [listObj] at this; exact h66 this.2
          · obtain ⟨p, n, hG⟩ := seg_group HS.out hg'
            subst e; have := hG.1; rw [hb] at this; simp [groupObj] at this; exact h71 this.2
      have hbx0 := hnot bx _ _ HX.out (by decide) (by decide)
      have hrb0 := hnot rb _ _ HRb.out (by decide) (by decide)
      have c1 : wr.cell? ⟨bx, 0, none⟩ = some (.slice (some ⟨rb, 0, none⟩) L cap) := by rw [cell_of_block hbx0]; rfl
      have c2 : wr.cell? ⟨rb, k, none⟩ = some (.pointer (some ⟨g.b, 0, none⟩)) := by rw [cell_of_block hrb0]; exact HC.out k g hg
      have c3 := group_c0 hgr
      have c4 := group_fr hgr 0
      have c5 := list_c2 hm2
      have c6 := list_fr hm2 2
      have hne := ne_list_group hm2 hgr
      generalize hwas : (if k < k then tagOf gs.length k else g.tag) = was at *
      have hSt := HR.out.step hg HA.out hm2 hm1
      rw [← HLL.out] at hSt
      have HSt := Lib.hid hSt
      clear hSt hwas hgr hbx0 hrb0 hg hm2 hnot
      go_wp2_with fail
      rw [tagOf_wrap hlt]
      refine (set60 k bx rb L cap g.b was (tagOf L k) wr hlt c1 c2 c3 c4).mono ?_
      rintro e w' ⟨rfl, rfl⟩
      go_wp2
      · go_roundw
        case rel => exact ⟨k + 1, by omega, by go_num, HSt.out.2⟩
        case measure => simp [intOf]; omega
      · go_roundw
        case rel => exact ⟨k + 1, by omega, by go_num, HSt.out.1⟩
        case measure => simp [intOf]; omega
    · obtain rfl : k = L := by omega
      have HR := Lib.hid hr
      clear hr
      go_wp2
      go_end0
      exact ⟨rfl, HR.out⟩
end Go.Proofs.Ytijceljhpbdnnaa
