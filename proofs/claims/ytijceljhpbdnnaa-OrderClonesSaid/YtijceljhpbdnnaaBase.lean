/-
  What the walks of this seat lean on: equality of two pointers to whole blocks, blocks as cells. No condition.
-/
import Derived.Test.YtijceljhpbdnnaaProg
import Derived.WalkKit
import Derived.WalkSpells
import Derived.WalkLawsBesides
import Derived.Handy
import Derived.Deep.QuietTactic
import Derived.BigQuiet
import Derived.LaidEqlPtr
import Derived.Lib.Hide
namespace Go.Proofs.Ytijceljhpbdnnaa
open Go.RowKit

/-- A block of plain cells of which none is frozen. -/
def clean (w : World) (b : Nat) : Prop := ∃ c t, w.heap[b]? = some (.cells c t (0, 0))
theorem clean_of {w : World} {b : Nat} {c : Array Value} {t : TypeId} (h : w.heap[b]? = some (.cells c t (0, 0))) : clean w b := ⟨c, t, h⟩
@[go_sem] theorem clean_drewN (w : World) (n b : Nat) : clean (w.drewN n) b = clean w b := propext Iff.rfl
@[go_sem] theorem clean_drew (w : World) (b : Nat) : clean w.drew b = clean w b := propext Iff.rfl

theorem info_ptr61 : (Try.prog.info? 71).map (fun i => i.size) = some 36 := by kernel_rfl
theorem info_ptr67 : (Try.prog.info? 73).map (fun i => i.size) = some 3 := by kernel_rfl

theorem run_eql_pp {P : Program} (w : World) {t e : TypeId} {n : Nat} (hp : P.underlying t = some (.pointer e)) (hs : (P.info? e).map (fun i => i.size) = some (n + 1))
    (a b : Nat) (ha : clean w a) (hb : clean w b) :
    (binOp .eql t (.pointer (some ⟨a, 0, none⟩)) (.pointer (some ⟨b, 0, none⟩))).run P w = .ok (.bool (decide (a = b))) w := by
  obtain ⟨ca, ta, ha⟩ := ha
  obtain ⟨cb, tb, hb⟩ := hb
  cases hi : P.info? e with
  | none => simp [hi] at hs
  | some j =>
    simp [hi] at hs
    by_cases hab : a = b
    · subst hab
      rw [run_eql_ptr_same w ⟨a, 0, none⟩ hp hi]
      simp
    · rw [run_eql_ptr_other w (a := ⟨a, 0, none⟩) (b := ⟨b, 0, none⟩) hp hi (by omega) (by simp [hab]) ha hb]
      simp [hab]
theorem run_neq_pp {P : Program} (w : World) {t e : TypeId} {n : Nat} (hp : P.underlying t = some (.pointer e)) (hs : (P.info? e).map (fun i => i.size) = some (n + 1))
    (a b : Nat) (ha : clean w a) (hb : clean w b) :
    (binOp .neq t (.pointer (some ⟨a, 0, none⟩)) (.pointer (some ⟨b, 0, none⟩))).run P w = .ok (.bool (decide (a ≠ b))) w := by
  have h := run_eql_pp w hp hs a b ha hb
  simp only [binOp] at h ⊢
  cases hr : (Op.equal t (.pointer (some ⟨a, 0, none⟩)) (.pointer (some ⟨b, 0, none⟩))).run P w with
  | ok v w' => simp [hr] at h ⊢; obtain ⟨h1, h2⟩ := h; subst h2; simp [h1]
  | halt v w' => simp [hr] at h
@[go_sem] theorem run_eql_67 (w : World) (a b : Nat) (ha : clean w a) (hb : clean w b) :
    (binOp .eql 67 (.pointer (some ⟨a, 0, none⟩)) (.pointer (some ⟨b, 0, none⟩))).run Try.prog w = .ok (.bool (decide (a = b))) w := run_eql_pp w Try.underlying67 info_ptr67 a b ha hb
@[go_sem] theorem run_neq_67 (w : World) (a b : Nat) (ha : clean w a) (hb : clean w b) :
    (binOp .neq 67 (.pointer (some ⟨a, 0, none⟩)) (.pointer (some ⟨b, 0, none⟩))).run Try.prog w = .ok (.bool (decide (a ≠ b))) w := run_neq_pp w Try.underlying67 info_ptr67 a b ha hb
@[go_sem] theorem run_eql_61 (w : World) (a b : Nat) (ha : clean w a) (hb : clean w b) :
    (binOp .eql 61 (.pointer (some ⟨a, 0, none⟩)) (.pointer (some ⟨b, 0, none⟩))).run Try.prog w = .ok (.bool (decide (a = b))) w := run_eql_pp w Try.underlying61 info_ptr61 a b ha hb
@[go_sem] theorem run_neq_61 (w : World) (a b : Nat) (ha : clean w a) (hb : clean w b) :
    (binOp .neq 61 (.pointer (some ⟨a, 0, none⟩)) (.pointer (some ⟨b, 0, none⟩))).run Try.prog w = .ok (.bool (decide (a ≠ b))) w := run_neq_pp w Try.underlying61 info_ptr61 a b ha hb

theorem elem69 : Try.prog.elem 69 = 67 := by kernel_rfl
theorem arrayLen69 : Try.prog.arrayLen 69 = 32 := by kernel_rfl
theorem under69 : Try.prog.underlying 69 = some (.array (Try.prog.arrayLen 69) (Try.prog.elem 69)) := by kernel_rfl
theorem size67 (w : World) : (sizeOf 67).run Try.prog w = .ok 1 w := by kernel_rfl
/-- Where a cut of a group's array from place i on begins. (A definition of its own, so that no walk parts on it.) -/
def cutOff (i : Nat) : Nat := if i = 32 then 2 else 2 + i
theorem cutOff_lt {i : Nat} (h : i < 32) : cutOff i = 2 + i := by unfold cutOff; rw [if_neg (by omega)]
/-- A group's array cut: from the front. -/
@[go_sem high] theorem cut_h (w : World) (b n : Nat) (h : n ≤ 32) :
    (Instr.sliceAt 69 (.pointer (some ⟨b, 2, none⟩)) none (some (.int .i64 n)) none).run Try.prog w = .ok (.slice (some ⟨b, 2, none⟩) n 32) w := by
  rw [run_sliceAt_array_h w 69 _ under69 .i64 n (by omega) (by rw [arrayLen69]; omega), arrayLen69, elem69, size67]
  simp [slicedAt, Result.andThen, Addr.add]
/-- .. from a place on. -/
@[go_sem high] theorem cut_l (w : World) (b : Nat) (i : Int) (h0 : 0 ≤ i) (h : i ≤ 32) :
    (Instr.sliceAt 69 (.pointer (some ⟨b, 2, none⟩)) (some (.int .i64 i)) none none).run Try.prog w = .ok (.slice (some ⟨b, cutOff i.toNat, none⟩) (32 - i.toNat) (32 - i.toNat)) w := by
  rw [run_sliceAt_array_l w 69 _ under69 .i64 i h0 (by rw [arrayLen69]; omega), arrayLen69, elem69, size67]
  simp only [slicedAt, Result.andThen, Addr.add, cutOff]
  by_cases h1 : 32 = i.toNat
  · simp [← h1]
  · have h2 : ¬ i.toNat = 32 := fun e => h1 e.symm
    by_cases h3 : i.toNat = 0
    · simp [h3]
    · simp [h1, h2, h3]
/-- .. from a place to a place. -/
@[go_sem high] theorem cut_lh (w : World) (b n : Nat) (i : Int) (h0 : 0 ≤ i) (h1 : i ≤ n) (h : n ≤ 32) :
    (Instr.sliceAt 69 (.pointer (some ⟨b, 2, none⟩)) (some (.int .i64 i)) (some (.int .i64 n)) none).run Try.prog w =
      .ok (.slice (some ⟨b, cutOff i.toNat, none⟩) (n - i.toNat) (32 - i.toNat)) w := by
  rw [run_sliceAt_array_lh w 69 _ under69 .i64 .i64 i n h0 h1 (by rw [arrayLen69]; omega), arrayLen69, elem69, size67]
  simp only [slicedAt, Result.andThen, Addr.add, cutOff]
  by_cases h1 : 32 = i.toNat
  · simp [← h1]
  · have h2 : ¬ i.toNat = 32 := fun e => h1 e.symm
    by_cases h3 : i.toNat = 0
    · simp [h3]
    · simp [h1, h2, h3]
end Go.Proofs.Ytijceljhpbdnnaa
