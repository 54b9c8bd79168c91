/-
  same: the order and the reference have the same stamps. Conditions: each theorem's own hypotheses on memory.
-/
import Derived.Test.YtijceljhpbdnnaaPlayed
namespace Go.Proofs.Ytijceljhpbdnnaa
open Go.RowKit

theorem Kept.of_new {w w' : World} (h : Below w.heap.size w w') : Kept (fun _ => False) w w' :=
  (Kept.of_below h).mono (fun k hk hh => absurd hh (by omega))
theorem ids_pos0 {w : World} {O : Ord} (h : Inv w O) : 0 < O.ids.length := (List.getElem?_eq_some_iff.1 (first_id h.wf)).1
theorem ids_le {w : World} {O : Ord} (h : Inv w O) : O.ids.length ≤ 100000 := by
  have h1 := h.wf.stamps_le
  have h2 := h.wf.made
  rw [len_ids] at h1
  omega
theorem stamps_lies {w : World} {O : Ord} (h : Inv w O) : Calls Try.prog 19 #[lptr O] w fun e w' => ∃ g cap, e = .returned (.slice (some ⟨g, 0, none⟩) O.ids.length cap) ∧ Lies w' g cap O.ids ∧ w.heap.size ≤ g ∧ Kept (fun _ => False) w w' := by
  refine (stamps_ord h).mono ?_
  rintro _ w' ⟨v, rfl, hrow, hB⟩
  rw [len_ids] at hrow
  obtain ⟨g, cap, rfl, hg, _⟩ := hrow.form (ids_pos0 h)
  exact ⟨g, cap, rfl, lies_of_row hrow (ids_le h), hg, Kept.of_new hB⟩
set_option maxRecDepth 100000 in
set_option maxHeartbeats 4000000 in
theorem same_of {w : World} {xb : Nat} {O : Ord} {g cap : Nat} (h : Both w xb O g cap) : Calls Try.prog 18 #[.pointer (some ⟨xb, 0, none⟩)] w fun e w' => e = .returned (.bool true) ∧ Kept (fun _ => False) w w' := by
  have hs := fun (W : World) (hK : Kept (fun _ => False) w W) => stamps_lies (h.inv.frame hK (fun _ _ x => x))
  have hl := fun (W : World) (hK : Kept (fun _ => False) w W) => len_pos (h.inv.frame hK (fun _ _ x => x))
  have hm := fun (W : World) (hK : Kept (fun _ => False) w W) => made_pos (h.inv.frame hK (fun _ _ x => x))
  have hq := fun (W : World) (g1 cap1 : Nat) (h1 : Lies W g1 cap1 O.ids) (hK : Kept (fun _ => False) w W) => ref_same W g1 g cap1 cap O.ids h1 (h.lies.same (hK.block g h.lies.lt (fun x => x)))
  obtain ⟨c0, c1, c2, _, _⟩ := h.cells
  dsimp only [lptr] at hs
  have hcl := fun (W : World) (hK : Kept (fun _ => False) w W) => xcells ((hK.block xb (heap_lt h.box) (fun x => x)).trans h.box)
  obtain ⟨n, hn⟩ : ∃ n, n = O.ids.length := ⟨_, rfl⟩
  obtain ⟨made, hmd⟩ : ∃ m, m = O.P.length := ⟨_, rfl⟩
  obtain ⟨lb, hlb⟩ : ∃ l, l = O.lb := ⟨_, rfl⟩
  simp only [← hn, ← hmd, ← hlb] at hs hl hm hq hcl c0 c1 c2
  have HS := Lib.hid hs
  have HL := Lib.hid hl
  have HM := Lib.hid hm
  have HQ := Lib.hid hq
  have HCL := Lib.hid hcl
  clear hs hl hm hq hcl h hn hmd hlb
  go_enter Try.func18, Try.ntmps18
  go_wp2
  go_region_held3 (fun w' => w'.cell? ⟨xb, 0, none⟩ = some (.pointer (some ⟨lb, 0, none⟩)) ∧ w'.cell? ⟨xb, 1, none⟩ = some (.slice (some ⟨g, 0, none⟩) n cap) ∧ w'.cell? ⟨xb, 2, none⟩ = some (.int .i64 made))
    (first | exact ⟨c0, c1, c2⟩ | exact ⟨d0, d1, d2⟩ | go_keep)
    (first
      | (go_at_call 19; (refine (HS.out _ (Kept.refl _ _).drew).mono ?_; rintro _ w1 ⟨g1, cap1, rfl, hL1, hg1, hK1⟩; have hKw := Kept.trans ((Kept.refl _ _).drew) hK1 (fun _ _ x => x); obtain ⟨d0, d1, d2⟩ := HCL.out _ hKw; have HL1 := Lib.hid hL1; have HKW := Lib.hid hKw; clear hL1 hg1 hK1 hKw))
      | (go_at_call 30; (refine (HQ.out _ _ _ HL1.out HKW.out).mono ?_; rintro _ w2 ⟨rfl, m, rfl⟩))
      | (go_at_call 23; (refine (HL.out _ (HKW.out.drewN _)).mono ?_; rintro _ w2 ⟨rfl, rfl⟩))
      | (go_at_call 14; (refine (HM.out _ (HKW.out.drewN _)).mono ?_; rintro _ w2 ⟨rfl, rfl⟩)))
  go_wp2
  go_ret
  exact ⟨rfl, HKW.out.drewN _⟩
end Go.Proofs.Ytijceljhpbdnnaa
