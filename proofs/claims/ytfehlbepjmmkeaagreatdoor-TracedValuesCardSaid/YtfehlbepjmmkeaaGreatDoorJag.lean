/-
  DERIVED. A new scanner, with its words. No condition.
-/
import Derived.Test.YtfehlbepjmmkeaaGreatDoorJab
import Derived.Test.YtfehlbepjmmkeaaGreatDoorJac
import Derived.Test.YtfehlbepjmmkeaaGreatDoorJaa
import Derived.RangeFuncNested
import Derived.RangeFuncBound
import Derived.RangeFuncCalls
import Derived.RangeFuncLeaves
import Derived.Shelf.Abstract
import Derived.Shelf.RegionOpen
import Derived.OwnWalkIn
import Derived.TacticsInMore
import Derived.LoopNIn
import Derived.LoopIn
import Derived.Test.YtfehlbepjmmkeaaGreatDoorLxK
import Derived.StillTailTactics
namespace Go.Proofs.YtfehlbepjmmkeaaGreatDoor
open Go.RowKit
theorem holdS {p : Prop} (h : Hid p) : p := h.out
set_option maxHeartbeats 8000000 in
set_option maxRecDepth 100000 in
theorem newScanner_of (s : ByteArray) (w : World) :
    Calls Tryz.prog 147 #[.string s] w fun e w' => ∃ sb M, e = .returned (.pointer (some ⟨sb, 0, none⟩)) ∧ ScAt w.heap.size sb M s 0 w' ∧ WordsAt w' M 15 ∧ M < w'.heap.size ∧ w.heap.size ≤ M ∧ Keeps w w' := by
  have hmm := @run_makeMap Tryz.prog
  go_enter Tryz.func147, Tryz.ntmps147
  go_wp2_with fail
  obtain ⟨W0, hW0⟩ : ∃ W0, W0 = (w.alloc (.map #[] 0)).alloc (.cells #[.string s, .int .i64 0, .map (some w.heap.size), .slice none 0 0] 286) := ⟨_, rfl⟩
  rw [← hW0]
  have hM0 : W0.heap[w.heap.size]? = some (.map #[] 0) := by rw [hW0]; exact heap_alloc_old _ (heap_alloc_at _ _)
  have hb0 : W0.heap[w.heap.size + 1]? = some (scObj s 0 w.heap.size (.slice none 0 0)) := by
    rw [hW0]
    have := heap_alloc_at (w.alloc (.map #[] 0)) (.cells #[.string s, .int .i64 0, .map (some w.heap.size), .slice none 0 0] 286)
    rw [World.size_alloc] at this
    exact this
  have hk0 : Keeps w W0 := by rw [hW0]; exact Kept.alloc (Keeps.alloc _ _) _
  clear hW0 hmm
  go_loopw [12] (fun q W => ∃ n : Nat, n ≤ 15 ∧ q = .int .i64 n ∧ WordsAt W w.heap.size n ∧ W.heap[w.heap.size + 1]? = some (scObj s 0 w.heap.size (.slice none 0 0)) ∧ Keeps w W) (fun q _ => 15 - (intOf q).toNat)
  case atStart => exact ⟨0, by omega, rfl, ⟨#[], 0, hM0, rfl⟩, hb0, hk0⟩
  case round =>
    clear hM0 hb0 hk0
    obtain ⟨n, hn, rfl, hwd, hb, hk⟩ := hrel
    by_cases hlt : n < 15
    · have h15 : n = 0 ∨ n = 1 ∨ n = 2 ∨ n = 3 ∨ n = 4 ∨ n = 5 ∨ n = 6 ∨ n = 7 ∨ n = 8 ∨ n = 9 ∨ n = 10 ∨ n = 11 ∨ n = 12 ∨ n = 13 ∨ n = 14 := by omega
      obtain ⟨-, -, c2, -⟩ := sc_cells hb
      have HB := Lib.hid hb
      have HK := Lib.hid hk
      clear hb hk
      generalize hz : (n : Int) = z
      rcases h15 with rfl | rfl | rfl | rfl | rfl | rfl | rfl | rfl | rfl | rfl | rfl | rfl | rfl | rfl | rfl
      · obtain rfl : z = 0 := by omega
        have hx : ∀ w, (Instr.index 287 (.agg #[.string ⟨#[97, 110, 100]⟩, .string ⟨#[99, 97, 115, 101]⟩, .string ⟨#[100, 97, 116, 97]⟩, .string ⟨#[101, 108, 115, 101]⟩, .string ⟨#[101, 110, 100]⟩, .string ⟨#[102, 110]⟩, .string ⟨#[102, 117, 110]⟩, .string ⟨#[105, 102]⟩, .string ⟨#[105, 110]⟩, .string ⟨#[105, 110, 112, 117, 116]⟩, .string ⟨#[108, 101, 116]⟩, .string ⟨#[111, 102]⟩, .string ⟨#[111, 117, 116, 112, 117, 116]⟩, .string ⟨#[116, 104, 101, 110]⟩, .string ⟨#[118, 97, 108]⟩]) (.int .i64 0)).run Tryz.prog w = .ok (.string ⟨#[97, 110, 100]⟩) w := fun _ => by kernel_rfl
        obtain ⟨w2, hr, hk2, hwd2⟩ := hwd.add ⟨#[97, 110, 100]⟩ rfl
        have HW := Lib.hid hwd2
        have HK2 := Lib.hid hk2
        clear hk2 hwd2 hwd hz
        go_wp2_with fail
        refine ⟨⟨1, by omega, rfl, HW.out, ?_, ?_⟩, by simp [intOf]⟩
        · exact HK2.out.at HB.out (by omega)
        · exact Kept.trans HK.out HK2.out (fun x hx e => by subst e; omega)
      · obtain rfl : z = 1 := by omega
        have hx : ∀ w, (Instr.index 287 (.agg #[.string ⟨#[97, 110, 100]⟩, .string ⟨#[99, 97, 115, 101]⟩, .string ⟨#[100, 97, 116, 97]⟩, .string ⟨#[101, 108, 115, 101]⟩, .string ⟨#[101, 110, 100]⟩, .string ⟨#[102, 110]⟩, .string ⟨#[102, 117, 110]⟩, .string ⟨#[105, 102]⟩, .string ⟨#[105, 110]⟩, .string ⟨#[105, 110, 112, 117, 116]⟩, .string ⟨#[108, 101, 116]⟩, .string ⟨#[111, 102]⟩, .string ⟨#[111, 117, 116, 112, 117, 116]⟩, .string ⟨#[116, 104, 101, 110]⟩, .string ⟨#[118, 97, 108]⟩]) (.int .i64 1)).run Tryz.prog w = .ok (.string ⟨#[99, 97, 115, 101]⟩) w := fun _ => by kernel_rfl
        obtain ⟨w2, hr, hk2, hwd2⟩ := hwd.add ⟨#[99, 97, 115, 101]⟩ rfl
        have HW := Lib.hid hwd2
        have HK2 := Lib.hid hk2
        clear hk2 hwd2 hwd hz
        go_wp2_with fail
        refine ⟨⟨2, by omega, rfl, HW.out, ?_, ?_⟩, by simp [intOf]⟩
        · exact HK2.out.at HB.out (by omega)
        · exact Kept.trans HK.out HK2.out (fun x hx e => by subst e; omega)
      · obtain rfl : z = 2 := by omega
        have hx : ∀ w, (Instr.index 287 (.agg #[.string ⟨#[97, 110, 100]⟩, .string ⟨#[99, 97, 115, 101]⟩, .string ⟨#[100, 97, 116, 97]⟩, .string ⟨#[101, 108, 115, 101]⟩, .string ⟨#[101, 110, 100]⟩, .string ⟨#[102, 110]⟩, .string ⟨#[102, 117, 110]⟩, .string ⟨#[105, 102]⟩, .string ⟨#[105, 110]⟩, .string ⟨#[105, 110, 112, 117, 116]⟩, .string ⟨#[108, 101, 116]⟩, .string ⟨#[111, 102]⟩, .string ⟨#[111, 117, 116, 112, 117, 116]⟩, .string ⟨#[116, 104, 101, 110]⟩, .string ⟨#[118, 97, 108]⟩]) (.int .i64 2)).run Tryz.prog w = .ok (.string ⟨#[100, 97, 116, 97]⟩) w := fun _ => by kernel_rfl
        obtain ⟨w2, hr, hk2, hwd2⟩ := hwd.add ⟨#[100, 97, 116, 97]⟩ rfl
        have HW := Lib.hid hwd2
        have HK2 := Lib.hid hk2
        clear hk2 hwd2 hwd hz
        go_wp2_with fail
        refine ⟨⟨3, by omega, rfl, HW.out, ?_, ?_⟩, by simp [intOf]⟩
        · exact HK2.out.at HB.out (by omega)
        · exact Kept.trans HK.out HK2.out (fun x hx e => by subst e; omega)
      · obtain rfl : z = 3 := by omega
        have hx : ∀ w, (Instr.index 287 (.agg #[.string ⟨#[97, 110, 100]⟩, .string ⟨#[99, 97, 115, 101]⟩, .string ⟨#[100, 97, 116, 97]⟩, .string ⟨#[101, 108, 115, 101]⟩, .string ⟨#[101, 110, 100]⟩, .string ⟨#[102, 110]⟩, .string ⟨#[102, 117, 110]⟩, .string ⟨#[105, 102]⟩, .string ⟨#[105, 110]⟩, .string ⟨#[105, 110, 112, 117, 116]⟩, .string ⟨#[108, 101, 116]⟩, .string ⟨#[111, 102]⟩, .string ⟨#[111, 117, 116, 112, 117, 116]⟩, .string ⟨#[116, 104, 101, 110]⟩, .string ⟨#[118, 97, 108]⟩]) (.int .i64 3)).run Tryz.prog w = .ok (.string ⟨#[101, 108, 115, 101]⟩) w := fun _ => by kernel_rfl
        obtain ⟨w2, hr, hk2, hwd2⟩ := hwd.add ⟨#[101, 108, 115, 101]⟩ rfl
        have HW := Lib.hid hwd2
        have HK2 := Lib.hid hk2
        clear hk2 hwd2 hwd hz
        go_wp2_with fail
        refine ⟨⟨4, by omega, rfl, HW.out, ?_, ?_⟩, by simp [intOf]⟩
        · exact HK2.out.at HB.out (by omega)
        · exact Kept.trans HK.out HK2.out (fun x hx e => by subst e; omega)
      · obtain rfl : z = 4 := by omega
        have hx : ∀ w, (Instr.index 287 (.agg #[.string ⟨#[97, 110, 100]⟩, .string ⟨#[99, 97, 115, 101]⟩, .string ⟨#[100, 97, 116, 97]⟩, .string ⟨#[101, 108, 115, 101]⟩, .string ⟨#[101, 110, 100]⟩, .string ⟨#[102, 110]⟩, .string ⟨#[102, 117, 110]⟩, .string ⟨#[105, 102]⟩, .string ⟨#[105, 110]⟩, .string ⟨#[105, 110, 112, 117, 116]⟩, .string ⟨#[108, 101, 116]⟩, .string ⟨#[111, 102]⟩, .string ⟨#[111, 117, 116, 112, 117, 116]⟩, .string ⟨#[116, 104, 101, 110]⟩, .string ⟨#[118, 97, 108]⟩]) (.int .i64 4)).run Tryz.prog w = .ok (.string ⟨#[101, 110, 100]⟩) w := fun _ => by kernel_rfl
        obtain ⟨w2, hr, hk2, hwd2⟩ := hwd.add ⟨#[101, 110, 100]⟩ rfl
        have HW := Lib.hid hwd2
        have HK2 := Lib.hid hk2
        clear hk2 hwd2 hwd hz
        go_wp2_with fail
        refine ⟨⟨5, by omega, rfl, HW.out, ?_, ?_⟩, by simp [intOf]⟩
        · exact HK2.out.at HB.out (by omega)
        · exact Kept.trans HK.out HK2.out (fun x hx e => by subst e; omega)
      · obtain rfl : z = 5 := by omega
        have hx : ∀ w, (Instr.index 287 (.agg #[.string ⟨#[97, 110, 100]⟩, .string ⟨#[99, 97, 115, 101]⟩, .string ⟨#[100, 97, 116, 97]⟩, .string ⟨#[101, 108, 115, 101]⟩, .string ⟨#[101, 110, 100]⟩, .string ⟨#[102, 110]⟩, .string ⟨#[102, 117, 110]⟩, .string ⟨#[105, 102]⟩, .string ⟨#[105, 110]⟩, .string ⟨#[105, 110, 112, 117, 116]⟩, .string ⟨#[108, 101, 116]⟩, .string ⟨#[111, 102]⟩, .string ⟨#[111, 117, 116, 112, 117, 116]⟩, .string ⟨#[116, 104, 101, 110]⟩, .string ⟨#[118, 97, 108]⟩]) (.int .i64 5)).run Tryz.prog w = .ok (.string ⟨#[102, 110]⟩) w := fun _ => by kernel_rfl
        obtain ⟨w2, hr, hk2, hwd2⟩ := hwd.add ⟨#[102, 110]⟩ rfl
        have HW := Lib.hid hwd2
        have HK2 := Lib.hid hk2
        clear hk2 hwd2 hwd hz
        go_wp2_with fail
        refine ⟨⟨6, by omega, rfl, HW.out, ?_, ?_⟩, by simp [intOf]⟩
        · exact HK2.out.at HB.out (by omega)
        · exact Kept.trans HK.out HK2.out (fun x hx e => by subst e; omega)
      · obtain rfl : z = 6 := by omega
        have hx : ∀ w, (Instr.index 287 (.agg #[.string ⟨#[97, 110, 100]⟩, .string ⟨#[99, 97, 115, 101]⟩, .string ⟨#[100, 97, 116, 97]⟩, .string ⟨#[101, 108, 115, 101]⟩, .string ⟨#[101, 110, 100]⟩, .string ⟨#[102, 110]⟩, .string ⟨#[102, 117, 110]⟩, .string ⟨#[105, 102]⟩, .string ⟨#[105, 110]⟩, .string ⟨#[105, 110, 112, 117, 116]⟩, .string ⟨#[108, 101, 116]⟩, .string ⟨#[111, 102]⟩, .string ⟨#[111, 117, 116, 112, 117, 116]⟩, .string ⟨#[116, 104, 101, 110]⟩, .string ⟨#[118, 97, 108]⟩]) (.int .i64 6)).run Tryz.prog w = .ok (.string ⟨#[102, 117, 110]⟩) w := fun _ => by kernel_rfl
        obtain ⟨w2, hr, hk2, hwd2⟩ := hwd.add ⟨#[102, 117, 110]⟩ rfl
        have HW := Lib.hid hwd2
        have HK2 := Lib.hid hk2
        clear hk2 hwd2 hwd hz
        go_wp2_with fail
        refine ⟨⟨7, by omega, rfl, HW.out, ?_, ?_⟩, by simp [intOf]⟩
        · exact HK2.out.at HB.out (by omega)
        · exact Kept.trans HK.out HK2.out (fun x hx e => by subst e; omega)
      · obtain rfl : z = 7 := by omega
        have hx : ∀ w, (Instr.index 287 (.agg #[.string ⟨#[97, 110, 100]⟩, .string ⟨#[99, 97, 115, 101]⟩, .string ⟨#[100, 97, 116, 97]⟩, .string ⟨#[101, 108, 115, 101]⟩, .string ⟨#[101, 110, 100]⟩, .string ⟨#[102, 110]⟩, .string ⟨#[102, 117, 110]⟩, .string ⟨#[105, 102]⟩, .string ⟨#[105, 110]⟩, .string ⟨#[105, 110, 112, 117, 116]⟩, .string ⟨#[108, 101, 116]⟩, .string ⟨#[111, 102]⟩, .string ⟨#[111, 117, 116, 112, 117, 116]⟩, .string ⟨#[116, 104, 101, 110]⟩, .string ⟨#[118, 97, 108]⟩]) (.int .i64 7)).run Tryz.prog w = .ok (.string ⟨#[105, 102]⟩) w := fun _ => by kernel_rfl
        obtain ⟨w2, hr, hk2, hwd2⟩ := hwd.add ⟨#[105, 102]⟩ rfl
        have HW := Lib.hid hwd2
        have HK2 := Lib.hid hk2
        clear hk2 hwd2 hwd hz
        go_wp2_with fail
        refine ⟨⟨8, by omega, rfl, HW.out, ?_, ?_⟩, by simp [intOf]⟩
        · exact HK2.out.at HB.out (by omega)
        · exact Kept.trans HK.out HK2.out (fun x hx e => by subst e; omega)
      · obtain rfl : z = 8 := by omega
        have hx : ∀ w, (Instr.index 287 (.agg #[.string ⟨#[97, 110, 100]⟩, .string ⟨#[99, 97, 115, 101]⟩, .string ⟨#[100, 97, 116, 97]⟩, .string ⟨#[101, 108, 115, 101]⟩, .string ⟨#[101, 110, 100]⟩, .string ⟨#[102, 110]⟩, .string ⟨#[102, 117, 110]⟩, .string ⟨#[105, 102]⟩, .string ⟨#[105, 110]⟩, .string ⟨#[105, 110, 112, 117, 116]⟩, .string ⟨#[108, 101, 116]⟩, .string ⟨#[111, 102]⟩, .string ⟨#[111, 117, 116, 112, 117, 116]⟩, .string ⟨#[116, 104, 101, 110]⟩, .string ⟨#[118, 97, 108]⟩]) (.int .i64 8)).run Tryz.prog w = .ok (.string ⟨#[105, 110]⟩) w := fun _ => by kernel_rfl
        obtain ⟨w2, hr, hk2, hwd2⟩ := hwd.add ⟨#[105, 110]⟩ rfl
        have HW := Lib.hid hwd2
        have HK2 := Lib.hid hk2
        clear hk2 hwd2 hwd hz
        go_wp2_with fail
        refine ⟨⟨9, by omega, rfl, HW.out, ?_, ?_⟩, by simp [intOf]⟩
        · exact HK2.out.at HB.out (by omega)
        · exact Kept.trans HK.out HK2.out (fun x hx e => by subst e; omega)
      · obtain rfl : z = 9 := by omega
        have hx : ∀ w, (Instr.index 287 (.agg #[.string ⟨#[97, 110, 100]⟩, .string ⟨#[99, 97, 115, 101]⟩, .string ⟨#[100, 97, 116, 97]⟩, .string ⟨#[101, 108, 115, 101]⟩, .string ⟨#[101, 110, 100]⟩, .string ⟨#[102, 110]⟩, .string ⟨#[102, 117, 110]⟩, .string ⟨#[105, 102]⟩, .string ⟨#[105, 110]⟩, .string ⟨#[105, 110, 112, 117, 116]⟩, .string ⟨#[108, 101, 116]⟩, .string ⟨#[111, 102]⟩, .string ⟨#[111, 117, 116, 112, 117, 116]⟩, .string ⟨#[116, 104, 101, 110]⟩, .string ⟨#[118, 97, 108]⟩]) (.int .i64 9)).run Tryz.prog w = .ok (.string ⟨#[105, 110, 112, 117, 116]⟩) w := fun _ => by kernel_rfl
        obtain ⟨w2, hr, hk2, hwd2⟩ := hwd.add ⟨#[105, 110, 112, 117, 116]⟩ rfl
        have HW := Lib.hid hwd2
        have HK2 := Lib.hid hk2
        clear hk2 hwd2 hwd hz
        go_wp2_with fail
        refine ⟨⟨10, by omega, rfl, HW.out, ?_, ?_⟩, by simp [intOf]⟩
        · exact HK2.out.at HB.out (by omega)
        · exact Kept.trans HK.out HK2.out (fun x hx e => by subst e; omega)
      · obtain rfl : z = 10 := by omega
        have hx : ∀ w, (Instr.index 287 (.agg #[.string ⟨#[97, 110, 100]⟩, .string ⟨#[99, 97, 115, 101]⟩, .string ⟨#[100, 97, 116, 97]⟩, .string ⟨#[101, 108, 115, 101]⟩, .string ⟨#[101, 110, 100]⟩, .string ⟨#[102, 110]⟩, .string ⟨#[102, 117, 110]⟩, .string ⟨#[105, 102]⟩, .string ⟨#[105, 110]⟩, .string ⟨#[105, 110, 112, 117, 116]⟩, .string ⟨#[108, 101, 116]⟩, .string ⟨#[111, 102]⟩, .string ⟨#[111, 117, 116, 112, 117, 116]⟩, .string ⟨#[116, 104, 101, 110]⟩, .string ⟨#[118, 97, 108]⟩]) (.int .i64 10)).run Tryz.prog w = .ok (.string ⟨#[108, 101, 116]⟩) w := fun _ => by kernel_rfl
        obtain ⟨w2, hr, hk2, hwd2⟩ := hwd.add ⟨#[108, 101, 116]⟩ rfl
        have HW := Lib.hid hwd2
        have HK2 := Lib.hid hk2
        clear hk2 hwd2 hwd hz
        go_wp2_with fail
        refine ⟨⟨11, by omega, rfl, HW.out, ?_, ?_⟩, by simp [intOf]⟩
        · exact HK2.out.at HB.out (by omega)
        · exact Kept.trans HK.out HK2.out (fun x hx e => by subst e; omega)
      · obtain rfl : z = 11 := by omega
        have hx : ∀ w, (Instr.index 287 (.agg #[.string ⟨#[97, 110, 100]⟩, .string ⟨#[99, 97, 115, 101]⟩, .string ⟨#[100, 97, 116, 97]⟩, .string ⟨#[101, 108, 115, 101]⟩, .string ⟨#[101, 110, 100]⟩, .string ⟨#[102, 110]⟩, .string ⟨#[102, 117, 110]⟩, .string ⟨#[105, 102]⟩, .string ⟨#[105, 110]⟩, .string ⟨#[105, 110, 112, 117, 116]⟩, .string ⟨#[108, 101, 116]⟩, .string ⟨#[111, 102]⟩, .string ⟨#[111, 117, 116, 112, 117, 116]⟩, .string ⟨#[116, 104, 101, 110]⟩, .string ⟨#[118, 97, 108]⟩]) (.int .i64 11)).run Tryz.prog w = .ok (.string ⟨#[111, 102]⟩) w := fun _ => by kernel_rfl
        obtain ⟨w2, hr, hk2, hwd2⟩ := hwd.add ⟨#[111, 102]⟩ rfl
        have HW := Lib.hid hwd2
        have HK2 := Lib.hid hk2
        clear hk2 hwd2 hwd hz
        go_wp2_with fail
        refine ⟨⟨12, by omega, rfl, HW.out, ?_, ?_⟩, by simp [intOf]⟩
        · exact HK2.out.at HB.out (by omega)
        · exact Kept.trans HK.out HK2.out (fun x hx e => by subst e; omega)
      · obtain rfl : z = 12 := by omega
        have hx : ∀ w, (Instr.index 287 (.agg #[.string ⟨#[97, 110, 100]⟩, .string ⟨#[99, 97, 115, 101]⟩, .string ⟨#[100, 97, 116, 97]⟩, .string ⟨#[101, 108, 115, 101]⟩, .string ⟨#[101, 110, 100]⟩, .string ⟨#[102, 110]⟩, .string ⟨#[102, 117, 110]⟩, .string ⟨#[105, 102]⟩, .string ⟨#[105, 110]⟩, .string ⟨#[105, 110, 112, 117, 116]⟩, .string ⟨#[108, 101, 116]⟩, .string ⟨#[111, 102]⟩, .string ⟨#[111, 117, 116, 112, 117, 116]⟩, .string ⟨#[116, 104, 101, 110]⟩, .string ⟨#[118, 97, 108]⟩]) (.int .i64 12)).run Tryz.prog w = .ok (.string ⟨#[111, 117, 116, 112, 117, 116]⟩) w := fun _ => by kernel_rfl
        obtain ⟨w2, hr, hk2, hwd2⟩ := hwd.add ⟨#[111, 117, 116, 112, 117, 116]⟩ rfl
        have HW := Lib.hid hwd2
        have HK2 := Lib.hid hk2
        clear hk2 hwd2 hwd hz
        go_wp2_with fail
        refine ⟨⟨13, by omega, rfl, HW.out, ?_, ?_⟩, by simp [intOf]⟩
        · exact HK2.out.at HB.out (by omega)
        · exact Kept.trans HK.out HK2.out (fun x hx e => by subst e; omega)
      · obtain rfl : z = 13 := by omega
        have hx : ∀ w, (Instr.index 287 (.agg #[.string ⟨#[97, 110, 100]⟩, .string ⟨#[99, 97, 115, 101]⟩, .string ⟨#[100, 97, 116, 97]⟩, .string ⟨#[101, 108, 115, 101]⟩, .string ⟨#[101, 110, 100]⟩, .string ⟨#[102, 110]⟩, .string ⟨#[102, 117, 110]⟩, .string ⟨#[105, 102]⟩, .string ⟨#[105, 110]⟩, .string ⟨#[105, 110, 112, 117, 116]⟩, .string ⟨#[108, 101, 116]⟩, .string ⟨#[111, 102]⟩, .string ⟨#[111, 117, 116, 112, 117, 116]⟩, .string ⟨#[116, 104, 101, 110]⟩, .string ⟨#[118, 97, 108]⟩]) (.int .i64 13)).run Tryz.prog w = .ok (.string ⟨#[116, 104, 101, 110]⟩) w := fun _ => by kernel_rfl
        obtain ⟨w2, hr, hk2, hwd2⟩ := hwd.add ⟨#[116, 104, 101, 110]⟩ rfl
        have HW := Lib.hid hwd2
        have HK2 := Lib.hid hk2
        clear hk2 hwd2 hwd hz
        go_wp2_with fail
        refine ⟨⟨14, by omega, rfl, HW.out, ?_, ?_⟩, by simp [intOf]⟩
        · exact HK2.out.at HB.out (by omega)
        · exact Kept.trans HK.out HK2.out (fun x hx e => by subst e; omega)
      · obtain rfl : z = 14 := by omega
        have hx : ∀ w, (Instr.index 287 (.agg #[.string ⟨#[97, 110, 100]⟩, .string ⟨#[99, 97, 115, 101]⟩, .string ⟨#[100, 97, 116, 97]⟩, .string ⟨#[101, 108, 115, 101]⟩, .string ⟨#[101, 110, 100]⟩, .string ⟨#[102, 110]⟩, .string ⟨#[102, 117, 110]⟩, .string ⟨#[105, 102]⟩, .string ⟨#[105, 110]⟩, .string ⟨#[105, 110, 112, 117, 116]⟩, .string ⟨#[108, 101, 116]⟩, .string ⟨#[111, 102]⟩, .string ⟨#[111, 117, 116, 112, 117, 116]⟩, .string ⟨#[116, 104, 101, 110]⟩, .string ⟨#[118, 97, 108]⟩]) (.int .i64 14)).run Tryz.prog w = .ok (.string ⟨#[118, 97, 108]⟩) w := fun _ => by kernel_rfl
        obtain ⟨w2, hr, hk2, hwd2⟩ := hwd.add ⟨#[118, 97, 108]⟩ rfl
        have HW := Lib.hid hwd2
        have HK2 := Lib.hid hk2
        clear hk2 hwd2 hwd hz
        go_wp2_with fail
        refine ⟨⟨15, by omega, rfl, HW.out, ?_, ?_⟩, by simp [intOf]⟩
        · exact HK2.out.at HB.out (by omega)
        · exact Kept.trans HK.out HK2.out (fun x hx e => by subst e; omega)
    · obtain rfl : n = 15 := by omega
      go_wp2_with fail
      go_ret
      exact ⟨_, _, rfl, ⟨⟨_, 0, [], hb, World.ownsRow_nil _ _ _ _, Nat.le_refl _⟩, by omega, Nat.zero_le _⟩, hwd, Nat.lt_of_succ_lt (heap_lt hb), Nat.le_refl _, hk⟩
end Go.Proofs.YtfehlbepjmmkeaaGreatDoor
namespace Go.Proofs.YtfehlbepjmmkeaaGreatDoor
open Go.RowKit Go.Shelf

/-- What a round of a loop never turns: blocks that are no cells, and the boxes of chains and yields; but for the blocks of X. -/
def Obj.firm : Obj → Bool
  | .cells _ _ _ => false
  | _ => true
structure KeepNC (X : Nat → Prop) (W W' : World) : Prop where
  size : W.heap.size ≤ W'.heap.size
  same : ∀ b o, ¬ X b → W.heap[b]? = some o → Obj.firm o = true → W'.heap[b]? = some o
theorem KeepNC.refl (X : Nat → Prop) (W : World) : KeepNC X W W := ⟨Nat.le_refl _, fun _ _ _ h _ => h⟩
theorem KeepNC.trans {X : Nat → Prop} {A B C : World} (h : KeepNC X A B) (k : KeepNC X B C) : KeepNC X A C :=
  ⟨Nat.le_trans h.size k.size, fun b o hx hb ho => k.same b o hx (h.same b o hx hb ho) ho⟩
theorem KeepNC.mono {X Y : Nat → Prop} {A B : World} (h : KeepNC X A B) (hXY : ∀ b, X b → Y b) : KeepNC Y A B := ⟨h.size, fun b o hy => h.same b o (fun hx => hy (hXY b hx))⟩
theorem KeepNC.drewN {X : Nat → Prop} {A B : World} (h : KeepNC X A B) (n : Nat) : KeepNC X A (B.drewN n) := ⟨h.size, h.same⟩
theorem KeepNC.drew {X : Nat → Prop} {A B : World} (h : KeepNC X A B) : KeepNC X A B.drew := ⟨h.size, h.same⟩
theorem KeepNC.alloc {X : Nat → Prop} {A B : World} (h : KeepNC X A B) (o : Obj) : KeepNC X A (B.alloc o) :=
  ⟨Nat.le_trans h.size (by simp), fun b o' hx hb ho => by have := h.same b o' hx hb ho; rw [Below.heap_alloc _ _ _ (lt_of_block this)]; exact this⟩
theorem KeepNC.setCell {X : Nat → Prop} {A B : World} (h : KeepNC X A B) (p : Addr) (v : Value) (hp : ∀ o, B.heap[p.block]? = some o → Obj.firm o = false) : KeepNC X A (B.setCell p v) := by
  refine ⟨Nat.le_trans h.size (by simp [World.setCell]), fun b o hx hb ho => ?_⟩
  have h1 := h.same b o hx hb ho
  rw [Below.heap_setCell _ _ _ _ (fun e => by subst e; have := hp _ h1; rw [ho] at this; cases this)]; exact h1
theorem KeepNC.grown {X : Nat → Prop} {A B C : World} (h : KeepNC X A B) {row : Option Nat} (hg : B.grownBy C row) (hr : ∀ k, row = some k → ∀ o, B.heap[k]? = some o → Obj.firm o = false) : KeepNC X A C := by
  refine ⟨Nat.le_trans h.size hg.size, fun b o hx hb ho => ?_⟩
  have h1 := h.same b o hx hb ho
  rw [hg.block b (lt_of_block h1) (fun e => by have := hr b e.symm _ h1; rw [ho] at this; cases this)]
  exact h1
theorem KeepNC.kept {X S : Nat → Prop} {A B C : World} (h : KeepNC X A B) (hk : Kept S B C) (hS : ∀ b, S b → ∀ o, B.heap[b]? = some o → Obj.firm o = false) : KeepNC X A C := by
  refine ⟨Nat.le_trans h.size hk.size, fun b o hx hb ho => ?_⟩
  have h1 := h.same b o hx hb ho
  rw [hk.block b (lt_of_block h1) (fun e => by have := hS b e _ h1; rw [ho] at this; cases this)]
  exact h1
/-- One round of loop l: yield called with args. (At the wide fence no number of frames matters.) -/
def Yields (l : Nat) (args : Array Value) (W : World) (R : Ending → World → Prop) : Prop := YieldAt Fence.wide 0 Tryz.prog l args W R
theorem roundIn_any {m : Nat} (m' : Nat) {l : Nat} {f : FuncId} {tmps : Array Value} {assign body : Code} {w : World} {R : Ending → World → Prop}
    (h : RoundIn Fence.wide m Tryz.prog l f tmps assign body w R) : RoundIn Fence.wide m' Tryz.prog l f tmps assign body w R := ⟨trivial, fun c cs _ => h.2 c cs (room_wide _)⟩
theorem roundIn_inRound {m : Nat} (l' : Nat) {l : Nat} {f : FuncId} {tmps : Array Value} {assign body : Code} {w : World} {R : Ending → World → Prop}
    (h : RoundIn Fence.wide m Tryz.prog l f tmps assign body w R) : RoundIn (Fence.wide.inRound l') m Tryz.prog l f tmps assign body w R := h

/-- What a round's body must come to. -/
def goesOn (l : Nat) (rec : Loop) (X : Nat → Prop) (J : World → Prop) (W : World) : Exit → Act → World → Prop
  | .normal, _, W' => W'.heap[l]? = some (.loop rec) ∧ W'.heap[rec.defers]? = some (.deferred (some [])) ∧ KeepNC X W W' ∧ J W'
  | _, _, _ => False

end Go.Proofs.YtfehlbepjmmkeaaGreatDoor
namespace Go.Proofs.YtfehlbepjmmkeaaGreatDoor
open Go.RowKit Go.Shelf

/-- What a round's body must come to: it goes on. -/
def goesOnJ (l : Nat) (rec : Loop) (J : World → Prop) : Exit → Act → World → Prop
  | .normal, _, W' => W'.heap[l]? = some (.loop rec) ∧ W'.heap[rec.defers]? = some (.deferred (some [])) ∧ J W'
  | _, _, _ => False

theorem wpIn_rangeP {ι : Type} {g : Operand} {ps : Array Tmp} {assign body : Code} {Q : Exit → Act → World → Prop} {a : Act} {w : World} {n : Nat}
    {gf : Nat} {lb : Array Value} (hg : a.eval g = .func (.func gf) #[] lb) (eg : ∀ args w, (callFunc gf args).run Tryz.prog w = .ok (.enter gf args) w)
    (ok : Array Value → ι → ι → Prop) (J : ι → World → Prop) (M : ι → ι → World → World → Prop) (PC : ι → List PanicEntry → Prop) (i0 : ι)
    (hps : ∀ x i j, ok x i j → x.size = ps.size)
    (hM : ∀ i j W W', J i W → M i j W W' → J j W')
    (hMk : ∀ i j W W', J i W → M i j W W' → KeepNC (fun _ => False) W W')
    (hJa : ∀ i W o, J i W → J i (W.alloc o))
    (hJp : ∀ i W b o o', J i W → w.heap.size ≤ b → W.heap[b]? = some o → o.isCells = false → J i (W.putObj b o'))
    (h0 : J i0 w) (end_ : ι → Prop)
    (hiter : ∀ (l : Nat) (J' : ι → World → Prop) (W : World), (∀ i W', J' i W' → J i W') → J' i0 W → l < W.heap.size → w.heap.size ≤ W.heap.size →
      (∀ i j W' W'', J' i W' → M i j W' W'' → J' j W'') →
      (∀ x i j W1, ok x i j → J' i W1 → Yields l x W1 fun e W' => e = .returned (.bool true) ∧ J' j W') →
      CallsIn Fence.wide (n - 1) Tryz.prog gf (#[.func (.yield l) #[] #[]] ++ lb) W fun e W' => ∃ i, J' i W' ∧ (((∃ v, e = .returned v) ∧ end_ i) ∨ ∃ ch, e = .panicked ch ∧ PC i ch))
    (a₁ : Array Value → Nat → Act) (ob : Array Value → Obj)
    (hassign : ∀ (l : Nat) (i j : ι) (x : Array Value) (W : World) (K : Act → World → Prop), ok x i j → K (a₁ x W.heap.size) (W.alloc (ob x)) →
      assign.wpIn (Fence.wide.inRound l) 0 Tryz.prog (Exit.then K (fun _ _ _ => False)) { tmps := (ps.zip x).foldl (fun t (p, v) => t.setIfInBounds p v) a.tmps, defers := [] } W)
    (hbody : ∀ (l : Nat) (i j : ι) (x : Array Value) (p : Nat) (rec : Loop) (W : World), ok x i j → W.heap[p]? = some (ob x) → w.heap.size < l → rec.defers = w.heap.size → W.heap[l]? = some (.loop rec) → W.heap[w.heap.size]? = some (.deferred (some [])) → J i W →
      body.wpIn (Fence.wide.inRound l) 0 Tryz.prog (goesOnJ l rec (J j)) (a₁ x p) W)
    (hdone : ∀ (i : ι) (D : Nat) (W : World), w.heap.size ≤ D → J i W → end_ i → W.heap[D]? = some (.deferred (some [])) → Q .normal { a with defers := { target := .collected D, args := #[] } :: a.defers } W)
    (hpan : ∀ (i : ι) (D : Nat) (W : World) (ch : List PanicEntry), w.heap.size ≤ D → J i W → PC i ch → W.heap[D]? = some (.deferred (some [])) → Q (.panic ch) { a with defers := { target := .collected D, args := #[] } :: a.defers } W) :
    (Code.rangeFunc g ps assign body).wpIn Fence.wide n Tryz.prog Q a w := by
  refine wpIn_rangeFunc ?_
  intro fn hfn
  obtain ⟨rec, hrec⟩ : ∃ rec : LoopState → Option Code → Loop, rec = fun st pe => { state := st, pending := pe, fn, tmps := a.tmps, params := ps, assign, body, defers := w.heap.size } := ⟨_, rfl⟩
  obtain ⟨l, hl⟩ : ∃ l, l = w.heap.size + 1 := ⟨_, rfl⟩
  obtain ⟨W1, hW1⟩ : ∃ W1, W1 = (w.alloc (.deferred (some []))).alloc (.loop (rec .ready none)) := ⟨_, rfl⟩
  have hsz : W1.heap.size = w.heap.size + 2 := by rw [hW1]; simp
  have hL1 : W1.heap[l]? = some (.loop (rec .ready none)) := by
    have := heap_alloc_at (w.alloc (.deferred (some []))) (.loop (rec .ready none))
    rw [World.size_alloc] at this
    rw [hW1, hl]; exact this
  have hD1 : W1.heap[w.heap.size]? = some (.deferred (some [])) := by rw [hW1]; exact heap_alloc_old _ (heap_alloc_at w _)
  refine ⟨l, [{ target := .collected w.heap.size, args := #[] }], W1, { target := .fn (.func gf) lb, args := #[.func (.yield l) #[] #[]] }, W1, gf,
    #[.func (.yield l) #[] #[]] ++ lb, W1, ?_, ?_, ?_, ?_, fun h => by simp [Fence.wide] at h, ?_⟩
  · rw [hW1, hrec, hl]; exact run_enterLoop_outer _ _ _ _ _
  · simp only [resolve, hg]
    simp [go_sem]
  · intro f' hf'; trivial
  · simp [invoke, go_sem, eg]
  · have hnd : (rec .ready none).defers = w.heap.size := by rw [hrec]
    refine (hiter l (fun i W => J i W ∧ W.heap[l]? = some (.loop (rec .ready none)) ∧ W.heap[w.heap.size]? = some (.deferred (some []))) W1 (fun i W' h => h.1)
      ⟨by rw [hW1]; exact hJa _ _ _ (hJa _ _ _ h0), hL1, hD1⟩ (by omega) (by omega)
      (fun i j W' W'' h hm => ⟨hM i j _ _ h.1 hm, (hMk i j _ _ h.1 hm).same _ _ (fun x => x) h.2.1 rfl, (hMk i j _ _ h.1 hm).same _ _ (fun x => x) h.2.2 rfl⟩) ?_).mono ?_
    · rintro x i j W hx ⟨hJ, hlW, hdW⟩
      have hy := run_yield (P := Tryz.prog) (args := x) hlW (by rw [hrec]; exact hps x i j hx)
      refine ⟨fn, _, assign, body, by rw [hy, hrec], ?_⟩
      obtain ⟨Wa, hWa⟩ : ∃ Wa, Wa = W.alloc (ob x) := ⟨_, rfl⟩
      have hJa' : J i Wa := by rw [hWa]; exact hJa _ _ _ hJ
      have hpa : Wa.heap[W.heap.size]? = some (ob x) := by rw [hWa]; exact heap_alloc_at _ _
      have hlWa : Wa.heap[l]? = some (.loop (rec .ready none)) := by rw [hWa]; exact heap_alloc_old _ hlW
      have hdWa : Wa.heap[w.heap.size]? = some (.deferred (some [])) := by rw [hWa]; exact heap_alloc_old _ hdW
      have hb := run_beginRound (P := Tryz.prog) hlWa (by rw [hrec])
      have hll : l < W.heap.size := lt_of_block hlW
      have hlla : l < Wa.heap.size := lt_of_block hlWa
      refine roundIn_of_wpIn trivial (wpIn_mono (hassign l i j x W _ hx ?_) (fun e a' w' h => h))
      rw [← hWa]
      refine ⟨_, hb, ?_⟩
      have hlW2 : (Wa.putObj l (.loop { rec .ready none with state := .busy })).heap[l]? = some (.loop { rec .ready none with state := .busy }) := World.putObj_heap_same hlla
      have hdW2 : (Wa.putObj l (.loop { rec .ready none with state := .busy })).heap[w.heap.size]? = some (.deferred (some [])) := by rw [World.putObj_heap_other (by omega)]; exact hdWa
      have hJ2 := hJp i Wa l _ (.loop { rec .ready none with state := .busy }) hJa' (by omega) hlWa rfl
      have hp2 : (Wa.putObj l (.loop { rec .ready none with state := .busy })).heap[W.heap.size]? = some (ob x) := by rw [World.putObj_heap_other (by omega)]; exact hpa
      refine wpIn_mono (hbody l i j x _ _ _ hx hp2 (by omega) (by rw [hrec]) hlW2 hdW2 hJ2) ?_
      intro e a' W' he
      cases e with
      | normal =>
        obtain ⟨k1, k2, k4⟩ := he
        rw [show ({ rec .ready none with state := .busy } : Loop).defers = w.heap.size from by rw [hrec]] at k2
        have hend := run_endRound (P := Tryz.prog) none k1
        have hback : ({ ({ rec .ready none with state := .busy } : Loop) with state := .ready, pending := none } : Loop) = rec .ready none := by rw [hrec]
        simp only [Option.isNone_none, if_true, hback] at hend
        refine ⟨.bool true, _, hend, rfl, hJp j W' l _ _ k4 (by omega) k1 rfl, World.putObj_heap_same (lt_of_block k1), ?_⟩
        rw [World.putObj_heap_other (by omega)]; exact k2
      | ret => exact he.elim
      | exit id => exact he.elim
      | goto t => exact he.elim
      | panic chain => exact he.elim
      | outgrown => exact he.elim
    · rintro e W ⟨i, ⟨hJ, hlW, hdW⟩, h⟩
      rcases h with ⟨⟨v, rfl⟩, he⟩ | ⟨ch, rfl, hp⟩
      · have hend := run_endLoop (P := Tryz.prog) hlW (by rw [hrec]; simp)
        refine ⟨_, _, hend, ?_⟩
        have hp : (rec .ready none).pending = none := by rw [hrec]
        rw [hp]
        refine hdone i w.heap.size _ (Nat.le_refl _) (hJp i W l _ _ hJ (by omega) hlW rfl) he ?_
        rw [World.putObj_heap_other (by omega)]; exact hdW
      · exact hpan i w.heap.size _ ch (Nat.le_refl _) hJ hp hdW
end Go.Proofs.YtfehlbepjmmkeaaGreatDoor
namespace Go.Proofs.YtfehlbepjmmkeaaGreatDoor
open Go.RowKit Go.Shelf
attribute [local go_sem] Oper.semAt_some
/-- Nothing is passed over here. -/
abbrev Calm (s : ByteArray) (i : Nat) : Prop := i = s.size ∨ greatC (byteC s i) = true
theorem ScAt.keep {B sb M i : Nat} {s : ByteArray} {w w' : World} (h : ScAt B sb M s i w) (hk : Keeps w w') : ScAt B sb M s i w' := by
  obtain ⟨⟨v, n, xs, hb, ho, hn⟩, hle, hlt⟩ := h
  exact ⟨⟨v, n, xs, hk.at hb (fun x => x), own_keep ho (Kept.mono hk (fun _ _ x => x.elim)) hb, hn⟩, hle, hlt⟩
theorem ScAt.move {B sb M i : Nat} {s : ByteArray} {w : World} (h : ScAt B sb M s i w) (j : Nat) (hij : i ≤ j) (hj : j ≤ s.size) (x : Int) (hx : x = j) : ScAt B sb M s j (w.setCell ⟨sb, 1, none⟩ (.int .i64 x)) := by
  obtain ⟨⟨v, n, xs, hb, ho, hn⟩, hle, hlt⟩ := h
  exact ⟨⟨v, n, xs, sc_set hb x j hx, own_keep ho (Kept.setCell (S := fun b => b = sb) (Kept.refl _ w) (p := ⟨sb, 1, none⟩) (fun _ => rfl) _) hb, by omega⟩, hle, hj⟩
set_option maxHeartbeats 8000000 in
set_option maxRecDepth 100000 in
theorem tokens1_in (nn l tb sb M m B : Nat) (s : ByteArray) (hs : s.size ≤ 24) (J : Nat × Nat → World → Prop) (W : World) (i0 : Nat)
    (hm : ∀ x W', J x W' → ScAt B sb M s x.2 W' ∧ WordsAt W' M m ∧ Vars W' ∧ W'.heap[tb]? = some (.cells #[.pointer (some ⟨sb, 0, none⟩)] 191 (0, 0)))
    (hM : ∀ p i p' i' W' W'', J (p, i) W' → ScK B W' W'' → ScAt B sb M s i' W'' → (p' = p ∨ (p' = i' ∧ i = p ∧ p ≤ p' ∧ (Calm s p → p' = p))) → J (p', i') W'')
    (h0 : J (i0, i0) W)
    (hY : ∀ p t n W1, TokAt s p t n → p < s.size → J (p, p + n) W1 → Yields l #[.agg (Tk.cells t).toArray] W1 fun e W' => e = .returned (.bool true) ∧ J (p + n, p + n) W') :
    CallsIn Fence.wide nn Tryz.prog 193 #[.func (.yield l) #[] #[], .pointer (some ⟨tb, 0, none⟩)] W fun e W' => ∃ x, J x W' ∧ (((∃ v, e = .returned v) ∧ x.1 = s.size) ∨ ∃ a k, e = .panicked [wrongE a k] ∧ k ≠ 0 ∧ ¬ Calm s x.1) := by
  have HMm := Lib.hid hm
  have HM := Lib.hid hM
  have HY := Lib.hid hY
  obtain ⟨hsc, -, -, htb⟩ := hm _ _ h0
  have H0 := Lib.hid h0
  have e0 := cell_of_block htb 0
  simp at e0
  clear hm hM hY h0 htb
  refine callsIn_of_wp Tryz.func193 rfl trivial ?_ rfl
  simp only [Tryz.ntmps193, List.size_toArray, List.length_cons, List.length_nil, Nat.reduceAdd, Nat.reduceSub, Array.replicate_succ, Array.replicate_zero, List.push_toArray, List.append_toArray, List.nil_append, List.cons_append]
  refine wpIn_wide.2 ?_
  go_wp2_with (go_at_call 194; refine holdL ?_)
  refine Lib.hid ?_
  refine (pass_of B sb M s i0 _ hsc (by omega)).mono ?_
  rintro _ w2 ⟨i, hi, hsc2, hk2, (⟨rfl, hcalm⟩ | ⟨a, k, rfl, hk0, hnc⟩)⟩
  · have HJ0 := Lib.hid (HM.out i0 i0 i i _ _ H0.out hk2 hsc2 (.inr ⟨rfl, rfl, hi, hcalm⟩))
    clear e0 hsc hk2 hsc2 hcalm hi H0
    go_wp2_with fail
    go_loopw [] (fun W => ∃ i : Nat, J (i, i) W) (fun W => s.size - atC sb W)
    case atStart => exact ⟨i, HJ0.out⟩
    case round =>
      obtain ⟨i, hJ⟩ := hrel
      obtain ⟨hsc, hwd, hv, htb⟩ := HMm.out _ _ hJ
      have hsc' := hsc
      obtain ⟨⟨v, n0, xs, hb, hown, hn0⟩, hle, his⟩ := hsc'
      obtain ⟨c0, c1, -, -⟩ := sc_cells hb
      have e0 := cell_of_block htb 0
      simp at e0
      have hat := atC_of hb
      have HJ := Lib.hid hJ
      have HSc := Lib.hid hsc
      have HB := Lib.hid hb
      have HAt := Lib.hid hat
      clear hJ hsc hat htb hown
      by_cases hlt : i < s.size
      · have hlt' : (i : Int) < s.size := by omega
        go_wp2_with fail
        go_region_held3 (fun W' => W'.cell? ⟨tb, 0, none⟩ = some (.pointer (some ⟨sb, 0, none⟩)) ∧ W'.cell? ⟨sb, 0, none⟩ = some (.string s) ∧ W'.cell? ⟨sb, 1, none⟩ = some (.int .i64 i)) (go_keep) (first | fail)
        go_wp2_with (go_at_call 195; refine holdL ?_)
        refine Lib.hid ?_
        refine (token_of s i sb M m v wr.drew hb (hwd.same rfl) (hv.keep (Keeps.drew _)) hs hlt).mono ?_
        rintro _ w2 ⟨(⟨t, n, rfl, htok⟩ | ⟨hng, a, k, rfl, hk0⟩), hk2⟩
        · replace hk2 := Keeps.trans (Keeps.drew wr) hk2
          have hsc2 := HSc.out.keep hk2
          have HJ2 := Lib.hid (HM.out i i i i _ _ HJ.out hk2.sck hsc2 (.inl rfl))
          simp only [Tk.cells]
          clear c0 c1 e0 hwd hv
          go_wp2_with fail
          rename_i K9 hK9
          have HK9 := Lib.hid hK9
          clear hK9
          have hbt := heap_alloc_at w2 (.cells #[.int .i64 t.kind, .int .i64 t.num, .string t.text, .int .i64 t.at_] 213)
          have hKt : Keeps w2 (w2.alloc (.cells #[.int .i64 t.kind, .int .i64 t.num, .string t.text, .int .i64 t.at_] 213)) := Keeps.alloc _ _
          obtain ⟨W3, hW3⟩ : ∃ W3, W3 = w2.alloc (.cells #[.int .i64 t.kind, .int .i64 t.num, .string t.text, .int .i64 t.at_] 213) := ⟨_, rfl⟩
          obtain ⟨p3, hp3⟩ : ∃ p3, p3 = w2.heap.size := ⟨_, rfl⟩
          rw [← hW3] at hbt hKt
          rw [← hp3] at hbt
          rw [← hW3, ← hp3]
          clear hW3 hp3
          have hsc3 := hsc2.keep hKt
          have HJ3 := Lib.hid (HM.out i i i i _ _ HJ2.out hKt.sck hsc3 (.inl rfl))
          obtain ⟨-, -, -, htb3⟩ := HMm.out _ _ HJ3.out
          have hsc3' := hsc3
          obtain ⟨⟨v3, n3, xs3, hb3, -, -⟩, -, -⟩ := hsc3'
          obtain ⟨c0, c1, -, -⟩ := sc_cells hb3
          have f1 := sc_free hb3 1
          have e0 := cell_of_block htb3 0
          have d0 := cell_of_block hbt 0
          have d1 := cell_of_block hbt 1
          have d2 := cell_of_block hbt 2
          have d3 := cell_of_block hbt 3
          simp at e0 d0 d1 d2 d3
          have hts : ((t.text.size : Nat) : Int) = n := by rw [htok.text, extract_size htok.le]; omega
          have hnp := htok.pos
          have hnl := htok.le
          have hwr : IntKind.i64.wrap ((i : Int) + t.text.size) = i + t.text.size := by rw [IntKind.wrap_i64]; omega
          have hsc4 := hsc3.move (i + n) (by omega) htok.le ((i : Int) + t.text.size) (by omega)
          have hk4 : ScK B W3 (W3.setCell ⟨sb, 1, none⟩ (.int .i64 ((i : Int) + t.text.size))) := (Kept.setCell (S := fun b => b = sb) (Kept.refl _ W3) (p := ⟨sb, 1, none⟩) (fun _ => rfl) _).scOne hle hb3
          have HJ4 := Lib.hid (HM.out i i i (i + n) _ _ HJ3.out hk4 hsc4 (.inl rfl))
          have HT := Lib.hid htok
          have HTs := Lib.hid hts
          have HB3 := Lib.hid hb3
          clear htok hts hsc4 hk4 hsc3 hb3 htb3 hsc2
          refine wp_region_still_tail 9 (by kernel_rfl) (by kernel_rfl) ?_
          simp only [List.take_succ_cons, List.take_zero, List.drop_succ_cons, List.drop_zero]
          repeat still_step
          refine wpStill_nil ?_
          change wpList _ _ _ _ _ (World.drew W3)
          go_wp2_with fail
          have hne3 : p3 ≠ sb := fun e => by
            have h8 := hbt
            rw [e] at h8
            have h9 := HB3.out
            rw [h9] at h8
            unfold scObj at h8
            simp at h8
          obtain ⟨W4, hW4⟩ : ∃ W4, W4 = (W3.setCell ⟨sb, 1, none⟩ (.int .i64 ((i : Int) + t.text.size))).drew := ⟨_, rfl⟩
          have hbt4 : W4.heap[p3]? = some (.cells #[.int .i64 t.kind, .int .i64 t.num, .string t.text, .int .i64 t.at_] 213 (0, 0)) := by
            rw [hW4]
            exact (heap_set_other _ hne3).trans hbt
          have hJ5 : J (i, i + n) W4 := by
            rw [hW4]
            exact HM.out i (i + n) i (i + n) _ _ HJ4.out (Keeps.sck (Keeps.drew _)) ((HMm.out _ _ HJ4.out).1.keep (Keeps.drew _)) (.inl rfl)
          rw [← hW4]
          clear hW4
          clear d0 d1 d2 d3 c0 c1 e0
          have d0 := cell_of_block hbt4 0
          have d1 := cell_of_block hbt4 1
          have d2 := cell_of_block hbt4 2
          have d3 := cell_of_block hbt4 3
          simp at d0 d1 d2 d3
          have hy := HY.out i t n W4 HT.out hlt hJ5
          obtain ⟨fn, tmps, assign, body, hy1, hR⟩ := hy
          have HR := Lib.hid hR
          simp only [Tk.cells] at hy1
          clear hR hJ5
          refine HK9.out _ _ ?_
          refine (wpIn_wide (n := 0)).1 ?_
          gi_wp2
          refine ⟨rfl, (roundIn_any _ HR.out).mono ?_⟩
          rintro _ W6 ⟨rfl, hJ6⟩
          obtain ⟨hsc6, -, -, htb6⟩ := HMm.out _ _ hJ6
          have e0 := cell_of_block htb6 0
          simp at e0
          have HJ6 := Lib.hid hJ6
          have HSc6 := Lib.hid hsc6
          clear hJ6 htb6 hsc6 d0 d1 d2 d3
          gi_wp2
          go_wp2_with (go_at_call 194; refine holdL ?_)
          refine Lib.hid ?_
          refine (pass_of B sb M s (i + n) _ HSc6.out (by omega)).mono ?_
          rintro _ W7 ⟨j, hj, hsc7, hk7, (⟨rfl, hcalm⟩ | ⟨a, k, rfl, hk0, hnc⟩)⟩
          · have HJ7 := Lib.hid (HM.out (i + n) (i + n) j j _ _ HJ6.out hk7 hsc7 (.inr ⟨rfl, rfl, hj, hcalm⟩))
            have hat7 : atC sb W7 = j := by
              obtain ⟨⟨v7, n7, xs7, hb7, -, -⟩, -, -⟩ := hsc7
              exact atC_of hb7
            have hj7 := hsc7.lt
            clear hk7 hsc7 hcalm
            go_wp2_with fail
            exact ⟨⟨j, HJ7.out⟩, by rw [hat7, HAt.out]; omega⟩
          · exact ⟨rfl, (i + n, j), HM.out _ _ _ _ _ _ HJ6.out hk7 hsc7 (.inl rfl), .inr ⟨a, k, rfl, hk0, hnc⟩⟩
        · replace hk2 := Keeps.trans (Keeps.drew wr) hk2
          have hsc2 := HSc.out.keep hk2
          exact ⟨rfl, (i, i), HM.out i i i i _ _ HJ.out hk2.sck hsc2 (.inl rfl), .inr ⟨a, k, rfl, hk0, fun hc => by
            rcases hc with h | h
            · exact absurd h (by show ¬ i = s.size; omega)
            · rw [show greatC (byteC s ((i, i) : Nat × Nat).1) = greatC (byteC s i) from rfl, hng] at h; cases h⟩⟩
      · obtain rfl : i = s.size := by omega
        go_wp2_with fail
        go_region_held3 (fun W' => W'.cell? ⟨tb, 0, none⟩ = some (.pointer (some ⟨sb, 0, none⟩)) ∧ W'.cell? ⟨sb, 0, none⟩ = some (.string s) ∧ W'.cell? ⟨sb, 1, none⟩ = some (.int .i64 s.size)) (go_keep) (first | fail)
        go_wp2_with fail
        go_end0
        exact ⟨(s.size, s.size), HM.out _ _ _ _ _ _ HJ.out (Keeps.sck (Keeps.drew _)) (HSc.out.keep (Keeps.drew _)) (.inl rfl), .inl ⟨⟨_, rfl⟩, rfl⟩⟩
  · exact ⟨rfl, (i0, i), HM.out _ _ _ _ _ _ H0.out hk2 hsc2 (.inl rfl), .inr ⟨a, k, rfl, hk0, hnc⟩⟩
end Go.Proofs.YtfehlbepjmmkeaaGreatDoor
