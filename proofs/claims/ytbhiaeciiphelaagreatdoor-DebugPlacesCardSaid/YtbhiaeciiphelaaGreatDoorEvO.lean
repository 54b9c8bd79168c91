/-
  DERIVED. Contracts of Readers, of package debug and of the reference, and of the comparing of numbers. Condition: the events lie in a row; there are at most sixty thousand.
-/
import Derived.Test.YtbhiaeciiphelaaGreatDoorEvN
import Derived.RangeFuncBox
namespace Go.Proofs.YtbhiaeciiphelaaGreatDoor
open Go.RowKit Go.Shelf
attribute [local go_sem] Oper.semAt_some
/-- The places of the reads of an address. -/
def rdsOf (y : Int) (i : Nat) : List Ev → List Nat
  | [] => []
  | e :: l => if e.kind = 2 ∧ e.addr = y then i :: rdsOf y (i + 1) l else rdsOf y (i + 1) l
theorem rdsOf_append (y : Int) (i : Nat) (l l' : List Ev) : rdsOf y i (l ++ l') = rdsOf y i l ++ rdsOf y (i + l.length) l' := by
  induction l generalizing i with
  | nil => rfl
  | cons e l ih =>
    simp only [List.cons_append, rdsOf, ih, List.length_cons]
    rw [show i + 1 + l.length = i + (l.length + 1) by omega]
    split <;> simp
theorem rdsOf_take {y : Int} {evs : List Ev} {i : Nat} {e : Ev} (he : evs[i]? = some e) : rdsOf y 0 (evs.take (i + 1)) = rdsOf y 0 (evs.take i) ++ (if e.kind = 2 ∧ e.addr = y then [i] else []) := by
  obtain ⟨hi, e1⟩ := List.getElem?_eq_some_iff.1 he
  rw [List.take_succ_eq_append_getElem hi, rdsOf_append, e1]
  simp only [List.length_take, Nat.zero_add, Nat.min_eq_left (Nat.le_of_lt hi), rdsOf]
theorem rdsOf_len (y : Int) (i : Nat) (l : List Ev) : (rdsOf y i l).length ≤ l.length := by
  induction l generalizing i with
  | nil => exact Nat.le_refl _
  | cons e l ih =>
    simp only [rdsOf]
    have := ih (i + 1)
    split <;> simp <;> omega
/-- What Readers reports. -/
def outReaders (evs : List Ev) (y : Int) : List Nat := if (readOf evs).isSome then rdsOf y 0 evs else []
def outErr (evs : List Ev) : Int := if (readOf evs).isSome then 0 else 250
set_option maxHeartbeats 4000000 in
set_option maxRecDepth 100000 in
theorem refReaders_of (w : World) (a : Option Addr) (n c : Nat) (evs : List Ev) (h : EvIn w a n evs) (y : Int) :
    Calls Tryz.prog 19 #[.slice a n c, .int .i64 y] w fun e w' => ∃ v, e = .returned (.tuple #[v, .int .i64 (outErr evs)]) ∧ w'.ownsRow w.heap.size 3 1 v (outReaders evs y).length (nums (outReaders evs y)) ∧ Keeps w w' := by
  have hr := right_is (c := c) h
  have HI := Lib.hid h
  have hfew := h.few
  obtain ⟨i3, hi3, hz3, hs3, hb3⟩ := info_parts info3
  cases hro : readOf evs with
  | none =>
    have HO := Lib.hid (show outReaders evs y = [] ∧ outErr evs = 250 by unfold outReaders outErr; rw [hro]; exact ⟨rfl, rfl⟩)
    rw [hro] at hr
    have Hr := Lib.hid hr
    clear hr h hro
    go_enter Tryz.func19, Tryz.ntmps19
    go_wp2_with (go_at_call 24; refine Hr.out.mono ?_; rintro _ w1 ⟨rfl, hk⟩; have HK := Lib.hid hk; clear hk)
    go_ret2
    exact ⟨.slice none 0 0, by rw [HO.out.2]; rfl, by rw [HO.out.1]; exact World.ownsRow_nil _ _ _ _, HK.out⟩
  | some s =>
    have HO := Lib.hid (show outReaders evs y = rdsOf y 0 evs ∧ outErr evs = 0 by unfold outReaders outErr; rw [hro]; exact ⟨rfl, rfl⟩)
    rw [hro] at hr
    have Hr := Lib.hid hr
    clear hr h hro
    go_enter Tryz.func19, Tryz.ntmps19
    go_wp2_with (go_at_call 24; refine Hr.out.mono ?_; rintro _ w1 ⟨rfl, hk⟩; have HK := Lib.hid hk; clear hk)
    go_loopw [6, 7] (fun v q wr => ∃ i : Nat, i ≤ n ∧ q = .int .i64 i ∧ Keeps w wr ∧ wr.ownsRow w.heap.size 3 1 v (rdsOf y 0 (evs.take i)).length (nums (rdsOf y 0 (evs.take i)))) (fun _ q _ => n - (intOf q).toNat)
    case atStart => exact ⟨0, Nat.zero_le _, rfl, HK.out, World.ownsRow_nil _ _ _ _⟩
    case round =>
      obtain ⟨i, hi, rfl, hk, hrow⟩ := hrel
      have HK := Lib.hid hk
      have HR := Lib.hid hrow
      have hle : (rdsOf y 0 (evs.take i)).length ≤ i := by have := rdsOf_len y 0 (evs.take i); simp at this; omega
      clear hk hrow
      by_cases hin : i < n
      · obtain ⟨e, he⟩ : ∃ e, evs[i]? = some e := ⟨evs[i]'(by rw [← HI.out.len]; omega), List.getElem?_eq_getElem _⟩
        obtain ⟨eb, eo, rfl, hlt, c0, _, c2, _⟩ := (HI.out.ev.keeps HK.out).cells he
        have HE := Lib.hid (rdsOf_take (y := y) he)
        clear he
        have k1 : (i : Int) < n := by omega
        have k2 : (0 : Int) ≤ i := by omega
        by_cases hay : e.addr = y
        · by_cases q2 : e.kind = 2
          · rw [q2] at c0
            have hS : rdsOf y 0 (evs.take (i + 1)) = rdsOf y 0 (evs.take i) ++ [i] := by rw [HE.out, if_pos ⟨q2, hay⟩]
            have HS := Lib.hid hS
            clear hS
            go_wp2_with (at_builtin; (refine wpList_append_own_at _ rfl (.tmp 32) (.tmp 34) 35 rfl w.heap.size 3 i3 (.int .i64 0) 1 8 under35 hi3 hz3 hs3 hb3 rfl (by decide) u6 (rdsOf y 0 (evs.take i)).length (nums (rdsOf y 0 (evs.take i))) rfl (HR.out.alloc _) ⟨wr.heap.size, 0, none⟩ 1 1 [.int .i64 i] rfl rfl (cell_one_new _ _ _) (by simp [Value.oneCell']) (by unfold maxLen; omega) (by omega) (by have h9 := HK.out.size; rw [World.size_alloc]; exact Nat.le_succ_of_le h9) ?_; intro v5 w5 hown5 hgrow5 hnil5 hat5; have hk5 : Keeps w w5 := Kept.grown (Kept.alloc HK.out _) hgrow5 (fun b hb hl => by have := (HR.out.lt b hb).1; omega); have HK5 := Lib.hid hk5; have HR5 := Lib.hid hown5; clear hk5 hown5 hgrow5 hnil5 hat5))
            go_roundw
            case rel => exact ⟨i + 1, by omega, by go_num, HK5.out, by rw [HS.out]; simpa [nums] using HR5.out⟩
            case measure => simp [intOf] <;> omega
          · have HS := Lib.hid (show rdsOf y 0 (evs.take (i + 1)) = rdsOf y 0 (evs.take i) by rw [HE.out, if_neg (fun h => q2 h.1), List.append_nil])
            go_wp2
            go_roundw
            case rel => exact ⟨i + 1, by omega, by go_num, HK.out, by rw [HS.out]; exact HR.out⟩
            case measure => simp [intOf] <;> omega
        · have HS := Lib.hid (show rdsOf y 0 (evs.take (i + 1)) = rdsOf y 0 (evs.take i) by rw [HE.out, if_neg (fun h => hay h.2), List.append_nil])
          go_wp2
          go_roundw
          case rel => exact ⟨i + 1, by omega, by go_num, HK.out, by rw [HS.out]; exact HR.out⟩
          case measure => simp [intOf] <;> omega
      · obtain rfl : i = n := by omega
        go_wp2
        go_ret2
        refine ⟨_, by rw [HO.out.2]; rfl, ?_, HK.out⟩
        rw [HO.out.1]
        have := HR.out
        rw [HI.out.len, List.take_length] at this
        exact this
end Go.Proofs.YtbhiaeciiphelaaGreatDoor
