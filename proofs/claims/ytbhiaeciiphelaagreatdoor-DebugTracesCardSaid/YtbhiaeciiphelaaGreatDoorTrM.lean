/-
  DERIVED. The reference's Trace. Condition: the events lie in memory with all their values.
-/
import Derived.Test.YtbhiaeciiphelaaGreatDoorTrJ
import Derived.Test.YtbhiaeciiphelaaGreatDoorTrK
namespace Go.Proofs.YtbhiaeciiphelaaGreatDoor
open Go.RowKit
theorem size44 : (Tryz.prog.info? 44).map (·.size) = some 2 := by kernel_rfl
theorem results_tr {fn : Func} {p : Tmp} (h : fn.results = #[.cell p 44]) (tmps : Array Value) (w : World) (g : Nat) (x y : Value) (hp : tmps.getD p undef = .pointer (some ⟨g, 0, none⟩)) (hg : w.heap[g]? = some (.cells #[x, y] 44 (0, 0))) :
    (results fn tmps).run Tryz.prog w = .ok (.agg #[x, y]) w :=
  results_cell_row h tmps w g 44 _ _ _ hp hg Tryz.underlying44 rfl size44
theorem two_sets44 {W : World} {B : Nat} {x y x' y' : Value} (h : W.heap[B]? = some (.cells #[x, y] 44 (0, 0))) : ((W.setCell ⟨B, 0, none⟩ x').setCell ⟨B, 1, none⟩ y').heap[B]? = some (.cells #[x', y'] 44 (0, 0)) := by
  rw [heap_set_same (heap_set_same h _) _]; rfl
def RefTracePost (w : World) (e n : Nat) (ets : List ET) (x : Ending) (w' : World) : Prop := Keeps w w' ∧ match readOf (ets.map ET.ev) with
  | none => x = .returned (.agg #[.slice none 0 0, .int .i64 250])
  | some _ => ∃ F v, tmRun ([], []) ets = some (F, []) ∧ x = .returned (.agg #[v, .int .i64 0]) ∧ NodesAt w' (fun _ => False) e (n + 1) F v
set_option maxHeartbeats 8000000 in
set_option maxRecDepth 100000 in
theorem refTrace_of (e : Nat) (w : World) (A : Nat → Prop) (a : Option Addr) (n c : Nat) (ets : List ET) (hE : EtsAt w A (e + 1) a ets) (hn : n = ets.length) :
    Calls Tryz.prog 22 #[.slice a n c] w (RefTracePost w (e + 1) n ets) := by
  have HE := Lib.hid hE
  have HN := Lib.hid hn
  have hk0 := Keeps.alloc w (.cells #[.slice none 0 0, .int .i64 0] 44)
  have HR := Lib.hid (right_any _ a n c (ets.map ET.ev) (hE.evs.keeps hk0) (by rw [List.length_map]; exact hn))
  have HZ := Lib.hid (heap_alloc_at w (.cells #[.slice none 0 0, .int .i64 0] 44))
  have HK0 := Lib.hid hk0
  clear hE hn hk0
  cases ho : readOf (ets.map ET.ev) with
  | none =>
    rw [ho] at HR
    simp only [Option.isSome_none] at HR
    have HO := Lib.hid ho
    clear ho
    go_enter Tryz.func22, Tryz.ntmps22
    go_wp2_with (go_at_call 24; refine HR.out.mono ?_; rintro _ w1 ⟨rfl, hk⟩; have HB := Lib.hid (hk.at HZ.out (fun x => x)); have b0 := cell_of_block HB.out 0; have b1 := cell_of_block HB.out 1; have f0 := free_of_block HB.out 0; have f1 := free_of_block HB.out 1; have l0 := heap_lt HB.out; simp at b0 b1; have HK := Lib.hid hk; clear hk)
    refine bodyPost_ret (results_tr rfl _ _ w.heap.size _ _ rfl (two_sets44 HB.out)) rfl ⟨Kept.one0 (Kept.one0 (Keeps.trans HK0.out HK.out) (Nat.le_refl _) _ _) (Nat.le_refl _) _ _, ?_⟩
    rw [HO.out]
  | some s =>
    obtain ⟨F, hprs, htm⟩ := prs_all ho
    have hn6 : n ≤ 60000 := by
      have h1 := right_len (l := ets.map ET.ev) (by rw [right_read, ho]; rfl)
      rw [List.length_map, ← HN.out] at h1
      exact h1
    rw [ho] at HR
    simp only [Option.isSome_some] at HR
    have HO := Lib.hid ho
    have HTm := Lib.hid htm
    have HPr := Lib.hid hprs
    clear ho htm hprs
    go_enter Tryz.func22, Tryz.ntmps22
    go_wp2_with (first
      | (go_at_call 24; refine HR.out.mono ?_; rintro _ w1 ⟨rfl, hk⟩; have HB := Lib.hid (hk.at HZ.out (fun x => x)); have l0 := heap_lt HB.out; have HK := Lib.hid hk; clear hk)
      | (go_at_call 56; refine holdT ?_))
    refine Lib.hid ?_
    have HC := Lib.hid (refNodes_of e a n c ets HN.out hn6 (n + 1) 0 n F (w1.alloc (.cells #[.int .i64 0] 3)) (fun g => g = w1.heap.size ∨ g = w.heap.size) w1.heap.size (by omega) (by rw [HN.out]; exact HPr.out)
      (HE.out.keep fun g o hg hx => ⟨(Keeps.alloc w1 _).at ((Keeps.trans HK0.out HK.out).at hg (fun x => x)) (fun x => x), fun h => by
        have h1 := heap_lt hg
        rcases h with h | h
        · omega
        · omega⟩) (.inl rfl) (fun g hg => by
        rw [World.size_alloc]
        rcases hg with h | h
        · omega
        · omega) (heap_alloc_at _ _) (Nat.le_refl _))
    refine HC.out.mono ?_
    rintro _ w2 ⟨v, rfl, hk2, _, hnv⟩
    obtain ⟨pv, cv, rfl⟩ := hnv.form
    have HB2 := Lib.hid (hk2.at (heap_alloc_old (.cells #[.int .i64 0] 3) HB.out) (by omega))
    have b0 := cell_of_block HB2.out 0
    have b1 := cell_of_block HB2.out 1
    have f0 := free_of_block HB2.out 0
    have f1 := free_of_block HB2.out 1
    have l2 := heap_lt HB2.out
    simp at b0 b1
    have HK2 := Lib.hid (show Keeps w w2 from Kept.trans (Keeps.trans HK0.out (Keeps.trans HK.out (Keeps.alloc _ _))) hk2 fun g hg hx => by
      subst hx
      have := (Keeps.trans HK0.out HK.out).size
      omega)
    have HNv := Lib.hid hnv
    clear hk2 hnv
    go_wp2_with fail
    refine bodyPost_ret (results_tr rfl _ _ w.heap.size _ _ rfl (two_sets44 HB2.out)) rfl ⟨Kept.one0 (Kept.one0 HK2.out (Nat.le_refl _) _ _) (Nat.le_refl _) _ _, ?_⟩
    rw [HO.out]
    refine ⟨F, _, HTm.out, rfl, HNv.out.keep fun g o hg hx => ⟨?_, fun h => h⟩⟩
    rw [heap_set_other _ fun h => hx (.inr h), heap_set_other _ fun h => hx (.inr h)]
    exact hg
end Go.Proofs.YtbhiaeciiphelaaGreatDoor
namespace Go.Proofs.YtbhiaeciiphelaaGreatDoor
open Go.RowKit
set_option maxHeartbeats 8000000 in
set_option maxRecDepth 100000 in
theorem traces_of (e : Nat) {w : World} (hs : Calls Tryz.prog 9 #[] w fun e w' => e = .returned (.bool true) ∧ Keeps w w') (A : Nat → Prop) (a : Option Addr) (n c : Nat) (ets : List ET) (hE : EtsAt w A (e + 1) a ets) (hn : n = ets.length) (hlen : n ≤ 2000000000000) :
    Calls Tryz.prog 4 #[.slice a n c] w fun x w' => x = .returned (.bool true) ∧ Keeps w w' := by
  have HS := Lib.hid hs
  have H21 := Lib.hid (fun (W : World) (hK : Keeps w W) => trace_of e W A a n c ets (hE.keep (keeps_hk hK)) hn hlen)
  have H22 := Lib.hid (fun (W : World) (hK : Keeps w W) => refTrace_of e W A a n c ets (hE.keep (keeps_hk hK)) hn)
  have H23 := Lib.hid (fun (W : World) (hK : Keeps w W) => check_of W a n c (ets.map ET.ev) (hE.evs.keeps hK) (by rw [List.length_map]; exact hn) hlen)
  have H24 := Lib.hid (fun (W : World) (hK : Keeps w W) => right_any W a n c (ets.map ET.ev) (hE.evs.keeps hK) (by rw [List.length_map]; exact hn))
  clear hs hE hn
  cases ho : readOf (ets.map ET.ev) with
  | none =>
    have he : outErr (ets.map ET.ev) = 250 := by unfold outErr; rw [ho]; rfl
    simp only [ho, he, Option.isSome_none] at H23 H24
    have HO := Lib.hid ho
    clear ho he
    go_enter Tryz.func4, Tryz.ntmps4
    go_wp2_with fail
    refine HS.out.mono ?_
    rintro _ w1 ⟨rfl, hk⟩
    have HK1 := Lib.hid hk
    clear hk
    go_wp2_with fail
    refine (H21.out _ HK1.out).mono ?_
    rintro _ w2 ⟨hk, hp⟩
    rw [HO.out] at hp
    subst hp
    have HK2 := Lib.hid (Keeps.trans HK1.out hk)
    clear hk
    go_wp2_with fail
    refine (H22.out _ HK2.out).mono ?_
    rintro _ w3 ⟨hk, hp⟩
    rw [HO.out] at hp
    subst hp
    have HK3 := Lib.hid (Keeps.trans HK2.out hk)
    clear hk
    go_wp2_with (first
      | (go_at_call 23; refine (H23.out _ (Keeps.trans HK3.out (Keeps.alloc _ _))).mono ?_; rintro _ w4 ⟨rfl, hk⟩; have HB4 := Lib.hid (hk.at (heap_alloc_at _ _) (fun x => x)); have HK4 := Lib.hid (Keeps.trans (Keeps.trans HK3.out (Keeps.alloc _ _)) hk); clear hk)
      | (go_at_call 24; refine (H24.out _ HK4.out).mono ?_; rintro _ w5 ⟨rfl, hk⟩; have HB5 := Lib.hid (hk.at HB4.out (fun x => x)); have HK5 := Lib.hid (Keeps.trans HK4.out hk); have b0 := cell_of_block HB5.out 0; have b1 := cell_of_block HB5.out 1; simp at b0 b1; clear hk)
      | (go_at_call 25; refine (alikeNodes_of (e + 1) 0 _ (fun _ => False) (fun _ => False) [] _ _ (NodesAt.nil _ _ _ _ _ _) (NodesAt.nil _ _ _ _ _ _)).mono ?_; rintro _ w6 ⟨rfl, hk⟩; have HK6 := Lib.hid (Keeps.trans HK5.out hk); clear hk))
    go_ret
    exact ⟨rfl, HK6.out⟩
  | some s =>
    have he : outErr (ets.map ET.ev) = 0 := by unfold outErr; rw [ho]; rfl
    simp only [ho, he, Option.isSome_some] at H23 H24
    have HO := Lib.hid ho
    clear ho he
    go_enter Tryz.func4, Tryz.ntmps4
    go_wp2_with fail
    refine HS.out.mono ?_
    rintro _ w1 ⟨rfl, hk⟩
    have HK1 := Lib.hid hk
    clear hk
    go_wp2_with fail
    refine (H21.out _ HK1.out).mono ?_
    rintro _ w2 ⟨hk, hp⟩
    rw [HO.out] at hp
    obtain ⟨F, v, hF, rfl, hnv⟩ := hp
    obtain ⟨pv, cv, rfl⟩ := hnv.form
    have HK2 := Lib.hid (Keeps.trans HK1.out hk)
    have HNv := Lib.hid hnv
    have HF := Lib.hid hF
    clear hk hnv hF
    go_wp2_with fail
    refine (H22.out _ HK2.out).mono ?_
    rintro _ w3 ⟨hk, hp⟩
    rw [HO.out] at hp
    obtain ⟨F', v', hF', rfl, hnv'⟩ := hp
    obtain ⟨pv', cv', rfl⟩ := hnv'.form
    obtain rfl : F' = F := by
      have h1 := HF.out
      rw [hF'] at h1
      injection h1 with h1
      injection h1
    have HK3 := Lib.hid (Keeps.trans HK2.out hk)
    have HK23 := Lib.hid hk
    have HNv' := Lib.hid hnv'
    clear hk hnv' hF'
    go_wp2_with (first
      | (go_at_call 23; refine (H23.out _ (Keeps.trans HK3.out (Keeps.alloc _ _))).mono ?_; rintro _ w4 ⟨rfl, hk⟩; have HB4 := Lib.hid (hk.at (heap_alloc_at _ _) (fun x => x)); have HK34 := Lib.hid (Keeps.trans (Keeps.alloc w3 _) hk); have HK4 := Lib.hid (Keeps.trans HK3.out HK34.out); clear hk)
      | (go_at_call 24; refine (H24.out _ HK4.out).mono ?_; rintro _ w5 ⟨rfl, hk⟩; have HB5 := Lib.hid (hk.at HB4.out (fun x => x)); have HK5 := Lib.hid (Keeps.trans HK4.out hk); have HK35 := Lib.hid (Keeps.trans HK34.out hk); have b0 := cell_of_block HB5.out 0; have b1 := cell_of_block HB5.out 1; simp at b0 b1; clear hk)
      | (go_at_call 25; refine (alikeNodes_of (e + 1) (n + 1) _ (fun _ => False) (fun _ => False) F' _ _ (HNv.out.keep (keeps_hk (Keeps.trans HK23.out HK35.out))) (HNv'.out.keep (keeps_hk HK35.out))).mono ?_; rintro _ w6 ⟨rfl, hk⟩; have HK6 := Lib.hid (Keeps.trans HK5.out hk); clear hk))
    go_ret
    exact ⟨rfl, HK6.out⟩
end Go.Proofs.YtbhiaeciiphelaaGreatDoor
