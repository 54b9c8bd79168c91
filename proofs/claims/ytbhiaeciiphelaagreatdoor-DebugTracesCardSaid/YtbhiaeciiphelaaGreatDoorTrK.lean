/-
  DERIVED. The function close on nodes under way. Condition: they lie in memory.
-/
import Derived.Test.YtbhiaeciiphelaaGreatDoorTrI
import Derived.StillTailTactics
import Derived.Test.YtbhiaeciiphelaaGreatDoorTrP
import Derived.Test.YtbhiaeciiphelaaGreatDoorTrA
import Derived.Deep.RegionHeld3
namespace Go.Proofs.YtbhiaeciiphelaaGreatDoor
open Go.RowKit
set_option maxHeartbeats 8000000 in
set_option maxRecDepth 100000 in
theorem close_of {w W : World} {e D b : Nat} {K L : List ND} {n : ND} {S : List (List ND × ND)} {v : Value} {xs : List Value} {p' : Option Addr} (h : NestAt w W e D K ((L, n) :: S) b v xs p') (hK : K.length * 184 ≤ 140737488355328) :
    Calls Tryz.prog 55 #[.pointer (some ⟨b, 0, none⟩)] W fun x W' => ∃ b1 v1 xs1 p1, x = .returned (.pointer (some ⟨b1, 0, none⟩)) ∧ NestAt w W' e D (L ++ [n.kid K]) S b1 v1 xs1 p1 ∧ ∀ (k : Nat) (c : Array Value), W.heap[k]? = some (.cells c 98 (0, 0)) → W'.heap[k]? = some (.cells c 98 (0, 0)) := by
  obtain ⟨b1, v1, g1, cap, xs1, p1, cur, rfl, hb1, rfl, hg1, hc0, hcs, hcap, hmx, hN⟩ := h.close hK
  have x0 : W.cell? ⟨b, 0, none⟩ = some v := by rw [cell_of_block h.blk]; rfl
  have x1 : W.cell? ⟨b, 1, none⟩ = some (.pointer (some ⟨b1, 0, none⟩)) := by rw [cell_of_block h.blk]; rfl
  have y0 : W.cell? ⟨b1, 0, none⟩ = some (.slice (some ⟨g1, 0, none⟩) (L.length + 1) cap) := by rw [cell_of_block hb1]; rfl
  obtain ⟨N, hNn⟩ : ∃ N, N = L.length := ⟨_, rfl⟩
  have hz : ∃ z, W.cell? ⟨g1, L.length * 13 + 12, none⟩ = some z := by
    rw [cell_of_block hg1]
    exact ⟨_, Array.getElem?_eq_getElem (by omega)⟩
  obtain ⟨z, hz⟩ := hz
  have hf := free_of_block hg1 (L.length * 13 + 12)
  have HNe := Lib.hid hN
  have HG := Lib.hid hg1
  rw [← hNn] at y0 hz hf
  unfold maxLen at hmx
  have k1 : IntKind.i64.wrap ((N : Int) + 1 - 1) = N := by rw [IntKind.wrap_i64]; omega
  have k1' : IntKind.i64.wrap (N : Int) = N := by rw [IntKind.wrap_i64]; omega
  have k2 : (0 : Int) ≤ N := by omega
  have k3 : (N : Int) < N + 1 := by omega
  have HNn := Lib.hid hNn
  obtain ⟨pv, nv, cv, hv⟩ : ∃ p n c, v = .slice p n c := by
    rcases h.row.2 with ⟨hv, _⟩ | ⟨g, cap, cur, hv, _⟩
    · exact ⟨_, _, _, hv⟩
    · exact ⟨_, _, _, hv⟩
  subst hv
  clear h hN hb1 hg1 hc0 hcs hNn
  go_enter Tryz.func55, Tryz.ntmps55
  go_wp2_with fail
  refine wp_region_still_tail 14 (by kernel_rfl) (by kernel_rfl) ?_
  simp only [List.take_succ_cons, List.take_zero, List.drop_succ_cons, List.drop_zero]
  repeat still_step
  refine wpStill_nil ?_
  change wpList _ _ _ _ _ (World.drew W)
  go_wp2_with fail
  go_ret
  refine ⟨b1, .slice (some ⟨g1, 0, none⟩) (L.length + 1) cap, xs1, p1, rfl, ?_, fun k c hk => ?_⟩
  · rw [HNn.out]
    exact HNe.out.keeps (Keeps.drew _)
  · show (W.setCell _ _).heap[k]? = _
    rw [heap_set_other _ fun e => by rw [e, HG.out] at hk; simp at hk]
    exact hk
end Go.Proofs.YtbhiaeciiphelaaGreatDoor
namespace Go.Proofs.YtbhiaeciiphelaaGreatDoor
open Go.RowKit
def chainLen (W : World) : Nat → Option Addr → Nat
  | 0, _ => 0
  | _ + 1, none => 0
  | f + 1, some a => match W.heap[a.block]? with
    | some (.cells cur _ _) => match (cur[1]? : Option Value) with
      | some (.pointer p) => chainLen W f p + 1
      | _ => 0
    | _ => 0
def ptrIn : Value → Option Addr
  | .pointer p => p
  | _ => none
theorem Nests.chain {W : World} {base e : Nat} {A : Nat → Prop} : ∀ {f d : Nat} {S : List (List ND)} {p : Option Addr} {B : List Nat}, Nests W base A e d S p B → S.length ≤ f → chainLen W (f + 1) p = S.length
  | f, _, [], _, _, h, _ => by rw [h.1]; rfl
  | 0, d, L :: S, p, B, h, hf => absurd hf (by simp)
  | f + 1, d, L :: S, p, B, h, hf => by
    obtain ⟨b, v, xs, p', B', rfl, rfl, hb, hblk, hrow, hnr, hn⟩ := h
    unfold chainLen
    simp only [hblk]
    have := Nests.chain hn (f := f) (by simpa using hf)
    simp [this]
theorem NestAt.chain {w W : World} {e D b f : Nat} {K : List ND} {S : List (List ND × ND)} {v : Value} {xs : List Value} {p' : Option Addr} (h : NestAt w W e D K S b v xs p') (hf : S.length ≤ f) : chainLen W (f + 2) (some ⟨b, 0, none⟩) = S.length + 1 := by
  obtain ⟨d, B, _, _, _, hn⟩ := h.ex
  have := hn.chain (f := f) (by simpa [lists] using hf)
  unfold chainLen
  simp only [h.blk]
  simp [this, lists]
theorem cell_put4 {W : World} {g b k o0 o1 o2 o3 : Nat} {y0 y1 y2 y3 : Value} (h : b ≠ g) : ((((W.setCell ⟨g, o0, none⟩ y0).setCell ⟨g, o1, none⟩ y1).setCell ⟨g, o2, none⟩ y2).setCell ⟨g, o3, none⟩ y3).cell? ⟨b, k, none⟩ = W.cell? ⟨b, k, none⟩ :=
  World.cell?_of_block (by
    show ((((W.setCell ⟨g, o0, none⟩ y0).setCell ⟨g, o1, none⟩ y1).setCell ⟨g, o2, none⟩ y2).setCell ⟨g, o3, none⟩ y3).heap[b]? = W.heap[b]?
    rw [heap_set_other _ h, heap_set_other _ h, heap_set_other _ h, heap_set_other _ h])
def TracePost (w : World) (e n : Nat) (ets : List ET) (x : Ending) (w' : World) : Prop := Keeps w w' ∧ match readOf (ets.map ET.ev) with
  | none => x = .returned (.tuple #[.slice none 0 0, .int .i64 250])
  | some _ => ∃ F v, tmRun ([], []) ets = some (F, []) ∧ x = .returned (.tuple #[v, .int .i64 0]) ∧ NodesAt w' (fun _ => False) e (n + 1) F v
set_option maxHeartbeats 8000000 in
set_option maxRecDepth 100000 in
theorem trace_of (e : Nat) (w : World) (A : Nat → Prop) (a : Option Addr) (n c : Nat) (ets : List ET) (hE : EtsAt w A (e + 1) a ets) (hn : n = ets.length) (hlen : n ≤ 2000000000000) :
    Calls Tryz.prog 21 #[.slice a n c] w (TracePost w (e + 1) n ets) := by
  have HE := Lib.hid hE
  have HN := Lib.hid hn
  have HR := Lib.hid (read_of w a n c (ets.map ET.ev) hE.evs (by rw [List.length_map]; exact hn) hlen)
  clear hE hn
  go_enter Tryz.func21, Tryz.ntmps21
  go_wp2_with fail
  refine HR.out.mono ?_
  rintro _ w1 ⟨hk, hp⟩
  cases ho : readOf (ets.map ET.ev) with
  | none =>
    rw [ho] at hp
    subst hp
    go_wp2
    go_ret2
    exact ⟨hk, by rw [ho]; rfl⟩
  | some s =>
    rw [ho] at hp
    obtain ⟨L, M, wv, m, rf, rfl, hm⟩ := hp
    clear hm
    obtain ⟨F, hprs, htm⟩ := prs_all ho
    have hn6 : n ≤ 60000 := by
      have h1 := right_len (l := ets.map ET.ev) (by rw [right_read, ho]; rfl)
      rw [List.length_map, ← HN.out] at h1
      exact h1
    have HTm := Lib.hid htm
    have HO := Lib.hid ho
    clear ho
    have HK := Lib.hid hk
    clear hprs htm hk
    go_wp2_with fail
    go_loopw [4, 14] (fun o q W => ∃ (i : Nat) (K : List ND) (S : List (List ND × ND)) (b : Nat) (v : Value) (xs : List Value) (p' : Option Addr), i ≤ n ∧ q = .int .i64 i ∧ o = .pointer (some ⟨b, 0, none⟩) ∧ tmRun ([], []) (ets.take i) = some (K, S) ∧ NestAt w W (e + 1) n K S b v xs p') (fun _ q _ => n - (intOf q).toNat)
    case atStart => exact ⟨0, [], [], w1.heap.size, .slice none 0 0, [], none, Nat.zero_le _, rfl, rfl, rfl, NestAt.start (Keeps.trans HK.out (Keeps.alloc _ _)) HK.out.size (heap_alloc_at _ _)⟩
    case round =>
      obtain ⟨i, K, S, b, v, xs, p', hi, rfl, rfl, hrun, hN⟩ := hrel
      have HRun := Lib.hid hrun
      have hsz := tm_size hrun
      have hs2 := sum_len S
      simp only [List.length_nil, List.map_nil, List.sum_nil, Nat.zero_add, Nat.add_zero, List.length_take] at hsz
      have hKi : K.length ≤ i := by omega
      have hSi : S.length ≤ i := by omega
      clear hrun hsz hs2
      by_cases hil : i < n
      · obtain ⟨u, hu⟩ : ∃ u, ets[i]? = some u := ⟨_, List.getElem?_eq_getElem (by rw [← HN.out]; exact hil)⟩
        have HU := Lib.hid hu
        have k6 : (i : Int) < n := by omega
        have k7 : (0 : Int) ≤ i := by omega
        obtain ⟨eb, eo, rfl, hlt, c0, c1, c2, c3, c4, c5, c6, c7⟩ := (HE.out.evs.keeps hN.kept).cells (i := i) (e := u.ev) (by rw [List.getElem?_map, hu]; rfl)
        have HNe := Lib.hid hN
        clear hN hu
        obtain ⟨t', ht'⟩ := tm_at HTm.out (i + 1)
        have hstep := (tmRun_take _ _ _ _ _ HRun.out HU.out).symm.trans ht'
        have HT' := Lib.hid ht'
        have HSt := Lib.hid hstep
        clear ht' hstep
        by_cases hk1 : u.ev.kind = 1
        · rw [hk1] at c0
          have hst : tmStep u (K, S) = some ([], (K, mkNode u [] RV.none) :: S) := by unfold tmStep; rw [if_pos hk1]
          have HT2 := Lib.hid (show tmRun ([], []) (ets.take (i + 1)) = some ([], (K, mkNode u [] RV.none) :: S) by rw [HT'.out, ← HSt.out, hst])
          clear hst
          go_wp2_with fail
          have hE0 := heap_alloc_at wr (.cells #[.int .i64 1, .int .i64 u.ev.site, .int .i64 u.ev.addr, .slice u.ev.args u.ev.argn u.ev.argc, .int .i64 u.ev.vk, .int .i64 u.ev.vn, .string u.ev.vs, .slice u.ev.va u.ev.van u.ev.vac] 98)
          have hN2 := HNe.out.keeps (Keeps.alloc wr (.cells #[.int .i64 1, .int .i64 u.ev.site, .int .i64 u.ev.addr, .slice u.ev.args u.ev.argn u.ev.argc, .int .i64 u.ev.vk, .int .i64 u.ev.vn, .string u.ev.vs, .slice u.ev.va u.ev.van u.ev.vac] 98))
          have hkw : Keeps w (wr.alloc (.cells #[.int .i64 1, .int .i64 u.ev.site, .int .i64 u.ev.addr, .slice u.ev.args u.ev.argn u.ev.argc, .int .i64 u.ev.vk, .int .i64 u.ev.vn, .string u.ev.vs, .slice u.ev.va u.ev.van u.ev.vac] 98)) := hN2.kept
          generalize wr.alloc (.cells #[.int .i64 1, .int .i64 u.ev.site, .int .i64 u.ev.addr, .slice u.ev.args u.ev.argn u.ev.argc, .int .i64 u.ev.vk, .int .i64 u.ev.vn, .string u.ev.vs, .slice u.ev.va u.ev.van u.ev.vac] 98) = W2 at hE0 hN2 hkw ⊢
          generalize wr.heap.size = B at hE0 ⊢
          have HN2 := Lib.hid hN2
          have HKw := Lib.hid hkw
          have HE0 := Lib.hid hE0
          have d1 := cell_of_block hE0 1
          have d2 := cell_of_block hE0 2
          have d3 := cell_of_block hE0 3
          simp at d1 d2 d3
          have H53 := Lib.hid (fun (W : World) (hW : Keeps W2 W) => copiedAll_of (e + 1) (copied_of (e + 1)) W A u.args _ ((HE.out.args i u HU.out).keep (keeps_hk (Keeps.trans hkw hW))))
          clear hE0 hN2 hkw c0 c1 c2 c3 c4 c5 c6 c7
          go_region_held3 (fun W' => W'.cell? ⟨B, 1, none⟩ = some (.int .i64 u.ev.site) ∧ W'.cell? ⟨B, 2, none⟩ = some (.int .i64 u.ev.addr) ∧ W'.cell? ⟨B, 3, none⟩ = some (.slice u.ev.args u.ev.argn u.ev.argc))
            (first | exact ⟨d1, d2, d3⟩ | exact ⟨cell_keeps hk2 d1, cell_keeps hk2 d2, cell_keeps hk2 d3⟩ | exact ⟨q1, q2, q3⟩)
            (first
              | (go_at_call 53; refine (H53.out _ (Keeps.drew _)).mono ?_; rintro _ w2 ⟨v', rfl, hrs, hk2⟩; obtain ⟨pa, ca, rfl⟩ : ∃ p c, v' = .slice p u.args.length c := (by obtain ⟨p, c, h, _⟩ := hrs; exact ⟨p, c, h⟩))
              | (go_at_call 52; refine (put_of (W0 := W2) (nd := mkNode u [] RV.none) HN2.out (by omega) (Keeps.trans (Keeps.drew _) hk2) (by omega) (fun d => ⟨_, _, _, _, _, _, _, _, _, _, rfl, hrs, RunAt.zero _ _ _, RunAt.zero _ _ _, NodesAt.nil _ _ _ _ _ _⟩)).mono ?_; rintro _ w3 ⟨nb, rfl, hN3, h98⟩; have hE3 := h98 _ _ (hk2.at HE0.out (fun x => x)); have q1 := cell_of_block hE3 1; have q2 := cell_of_block hE3 2; have q3 := cell_of_block hE3 3; simp at q1 q2 q3))
          all_goals
            go_wp2_with fail
            go_roundw
            case rel => exact ⟨i + 1, _, _, nb, _, _, _, by omega, by go_num, rfl, HT2.out, hN3⟩
            case measure => simp [intOf] <;> omega
        · by_cases hk2' : u.ev.kind = 2
          · rw [hk2'] at c0
            have hst : tmStep u (K, S) = some ([], (K, rdNode u []) :: S) := by unfold tmStep; rw [if_neg hk1, if_pos hk2']
            have HT2 := Lib.hid (show tmRun ([], []) (ets.take (i + 1)) = some ([], (K, rdNode u []) :: S) by rw [HT'.out, ← HSt.out, hst])
            clear hst
            go_wp2_with fail
            have hE0 := heap_alloc_at wr (.cells #[.int .i64 2, .int .i64 u.ev.site, .int .i64 u.ev.addr, .slice u.ev.args u.ev.argn u.ev.argc, .int .i64 u.ev.vk, .int .i64 u.ev.vn, .string u.ev.vs, .slice u.ev.va u.ev.van u.ev.vac] 98)
            have hN2 := HNe.out.keeps (Keeps.alloc wr (.cells #[.int .i64 2, .int .i64 u.ev.site, .int .i64 u.ev.addr, .slice u.ev.args u.ev.argn u.ev.argc, .int .i64 u.ev.vk, .int .i64 u.ev.vn, .string u.ev.vs, .slice u.ev.va u.ev.van u.ev.vac] 98))
            have hkw : Keeps w (wr.alloc (.cells #[.int .i64 2, .int .i64 u.ev.site, .int .i64 u.ev.addr, .slice u.ev.args u.ev.argn u.ev.argc, .int .i64 u.ev.vk, .int .i64 u.ev.vn, .string u.ev.vs, .slice u.ev.va u.ev.van u.ev.vac] 98)) := hN2.kept
            generalize wr.alloc (.cells #[.int .i64 2, .int .i64 u.ev.site, .int .i64 u.ev.addr, .slice u.ev.args u.ev.argn u.ev.argc, .int .i64 u.ev.vk, .int .i64 u.ev.vn, .string u.ev.vs, .slice u.ev.va u.ev.van u.ev.vac] 98) = W2 at hE0 hN2 hkw ⊢
            generalize wr.heap.size = B at hE0 ⊢
            have HN2 := Lib.hid hN2
            have HKw := Lib.hid hkw
            have HE0 := Lib.hid hE0
            have d1 := cell_of_block hE0 1
            have d2 := cell_of_block hE0 2
            have d4 := cell_of_block hE0 4
            have d5 := cell_of_block hE0 5
            have d6 := cell_of_block hE0 6
            have d7 := cell_of_block hE0 7
            simp at d1 d2 d4 d5 d6 d7
            have H54 := Lib.hid (fun (W : World) (hW : Keeps W2 W) => copied_of (e + 1) W A u.val _ ((HE.out.val i u HU.out).keep (keeps_hk (Keeps.trans hkw hW))))
            clear hE0 hN2 hkw c0 c1 c2 c3 c4 c5 c6 c7
            go_region_held3 (fun W' => W'.cell? ⟨B, 1, none⟩ = some (.int .i64 u.ev.site) ∧ W'.cell? ⟨B, 2, none⟩ = some (.int .i64 u.ev.addr) ∧ W'.cell? ⟨B, 4, none⟩ = some (.int .i64 u.ev.vk) ∧ W'.cell? ⟨B, 5, none⟩ = some (.int .i64 u.ev.vn) ∧ W'.cell? ⟨B, 6, none⟩ = some (.string u.ev.vs) ∧ W'.cell? ⟨B, 7, none⟩ = some (.slice u.ev.va u.ev.van u.ev.vac))
              (first | exact ⟨d1, d2, d4, d5, d6, d7⟩ | exact ⟨cell_keeps hk2 d1, cell_keeps hk2 d2, cell_keeps hk2 d4, cell_keeps hk2 d5, cell_keeps hk2 d6, cell_keeps hk2 d7⟩ | exact ⟨q1, q2, q4, q5, q6, q7⟩)
              (first
                | (go_at_call 54; refine (H54.out _ (Keeps.drew _)).mono ?_; rintro _ w2 ⟨cs', rfl, hrs, hk2⟩; obtain ⟨k9, m9, s9, p9, n9, d9, rfl⟩ := hrs.four)
                | (go_at_call 52; refine (put_of (W0 := W2) (nd := rdNode u []) HN2.out (by omega) (Keeps.trans (Keeps.drew _) hk2) (by omega) (fun d => ⟨_, _, _, _, _, _, _, _, _, _, rfl, RunsAt.nil _ _ _, hrs, RunAt.zero _ _ _, NodesAt.nil _ _ _ _ _ _⟩)).mono ?_; rintro _ w3 ⟨nb, rfl, hN3, h98⟩; have hE3 := h98 _ _ (hk2.at HE0.out (fun x => x)); have q1 := cell_of_block hE3 1; have q2 := cell_of_block hE3 2; have q4 := cell_of_block hE3 4; have q5 := cell_of_block hE3 5; have q6 := cell_of_block hE3 6; have q7 := cell_of_block hE3 7; simp at q1 q2 q4 q5 q6 q7))
            all_goals
              go_wp2_with fail
              go_roundw
              case rel => exact ⟨i + 1, _, _, nb, _, _, _, by omega, by go_num, rfl, HT2.out, hN3⟩
              case measure => simp [intOf] <;> omega
          · have hk3 : u.ev.kind = 3 := by
              have hok : (readOf (ets.map ET.ev)).isSome := by rw [HO.out]; rfl
              obtain ⟨f, hf⟩ := Option.isSome_iff_exists.1 hok
              obtain ⟨s1, st1, wr1, h1, _⟩ := momRun hf i (by rw [List.length_map, ← HN.out]; omega)
              obtain ⟨s2, st2, wr2, h2, _⟩ := momRun hf (i + 1) (by rw [List.length_map, ← HN.out]; omega)
              have he : (ets.map ET.ev)[i]? = some u.ev := by rw [List.getElem?_map, HU.out]; rfl
              have hs := (St.run_take _ _ _ _ _ h1 he).symm.trans h2
              rcases step_cases hs with ⟨q, _, _⟩ | ⟨_, _, _, _, q, _⟩ | ⟨_, _, _, _, q, _, _⟩
              · exact absurd q hk1
              · exact absurd q hk2'
              · exact q
            rw [hk3] at c0
            obtain ⟨K2, L2, n2, S2, hsh, HT2⟩ : ∃ K2 L2 n2 S2, shut K S = some (K2, (L2, n2) :: S2) ∧ Hid (tmRun ([], []) (ets.take (i + 1)) = some (L2 ++ [(n2.kid K2).wrt u.val], S2)) := by
              have hst := HSt.out
              unfold tmStep at hst
              rw [if_neg hk1, if_neg hk2'] at hst
              split at hst
              · rename_i K2 L2 n2 S2 hq
                exact ⟨K2, L2, n2, S2, hq, Lib.hid (by rw [HT'.out, hst])⟩
              · cases hst
            have hsz := tm_size HRun.out
            simp only [List.length_nil, List.map_nil, List.sum_nil, Nat.zero_add, Nat.add_zero, List.length_take] at hsz
            have HSz := Lib.hid (show K.length + (S.map fun x => x.1.length + 1).sum ≤ i by omega)
            have HSh := Lib.hid hsh
            clear hsh hsz
            go_wp2_with fail
            have hE0 := heap_alloc_at wr (.cells #[.int .i64 3, .int .i64 u.ev.site, .int .i64 u.ev.addr, .slice u.ev.args u.ev.argn u.ev.argc, .int .i64 u.ev.vk, .int .i64 u.ev.vn, .string u.ev.vs, .slice u.ev.va u.ev.van u.ev.vac] 98)
            have hN2 := HNe.out.keeps (Keeps.alloc wr (.cells #[.int .i64 3, .int .i64 u.ev.site, .int .i64 u.ev.addr, .slice u.ev.args u.ev.argn u.ev.argc, .int .i64 u.ev.vk, .int .i64 u.ev.vn, .string u.ev.vs, .slice u.ev.va u.ev.van u.ev.vac] 98))
            have hkw : Keeps w (wr.alloc (.cells #[.int .i64 3, .int .i64 u.ev.site, .int .i64 u.ev.addr, .slice u.ev.args u.ev.argn u.ev.argc, .int .i64 u.ev.vk, .int .i64 u.ev.vn, .string u.ev.vs, .slice u.ev.va u.ev.van u.ev.vac] 98)) := hN2.kept
            generalize wr.alloc (.cells #[.int .i64 3, .int .i64 u.ev.site, .int .i64 u.ev.addr, .slice u.ev.args u.ev.argn u.ev.argc, .int .i64 u.ev.vk, .int .i64 u.ev.vn, .string u.ev.vs, .slice u.ev.va u.ev.van u.ev.vac] 98) = W2 at hE0 hN2 hkw ⊢
            generalize wr.heap.size = B at hE0 ⊢
            have HN2 := Lib.hid hN2
            have HKw := Lib.hid hkw
            have HE0 := Lib.hid hE0
            clear hE0 hN2 hkw c0 c1 c2 c3 c4 c5 c6 c7
            go_loopw [4] (fun o W => ∃ (K' : List ND) (S' : List (List ND × ND)) (b' : Nat) (v' : Value) (xs' : List Value) (p'' : Option Addr), o = .pointer (some ⟨b', 0, none⟩) ∧ NestAt w W (e + 1) n K' S' b' v' xs' p'' ∧ shut K' S' = some (K2, (L2, n2) :: S2) ∧ K'.length + (S'.map fun x => x.1.length + 1).sum ≤ i ∧
                W.heap[B]? = some (.cells #[.int .i64 3, .int .i64 u.ev.site, .int .i64 u.ev.addr, .slice u.ev.args u.ev.argn u.ev.argc, .int .i64 u.ev.vk, .int .i64 u.ev.vn, .string u.ev.vs, .slice u.ev.va u.ev.van u.ev.vac] 98 (0, 0))) (fun o W => chainLen W (n + 2) (ptrIn o))
            case atStart => exact ⟨K, S, b, v, xs, p', rfl, HN2.out, HSh.out, HSz.out, HE0.out⟩
            case round =>
              obtain ⟨K', S', b', v', xs', p'', rfl, hN', hsh', hsz', hE'⟩ := hrel
              cases S' with
              | nil => cases hsh'
              | cons y S' =>
                obtain ⟨L', n'⟩ := y
                have hs2 := sum_len S'
                simp only [List.map_cons, List.sum_cons] at hsz'
                obtain ⟨b1, v1, g1, cap, xs1, p1, cur, rfl, hb1, rfl, hg1, hc0, hcs, hcap, hmx, _⟩ := hN'.close (by omega)
                unfold maxLen at hmx
                obtain ⟨N, hNn⟩ : ∃ N, N = L'.length := ⟨_, rfl⟩
                have x1 := cell_of_block hN'.blk 1
                have y0 := cell_of_block hb1 0
                have z0 : wr.cell? ⟨g1, N * 13, none⟩ = some (.bool n'.isMod) := by rw [cell_of_block hg1, hNn]; exact hc0
                rw [← hNn] at y0
                simp at x1 y0
                have k1' : IntKind.i64.wrap (N : Int) = N := by rw [IntKind.wrap_i64]; omega
                have k2 : (0 : Int) ≤ N := by omega
                have k3 : (N : Int) < N + 1 := by omega
                have HN' := Lib.hid hN'
                have HE' := Lib.hid hE'
                have HNn := Lib.hid hNn
                have HSz' := Lib.hid hsz'
                have HS2 := Lib.hid hs2
                have hKl : K'.length * 184 ≤ 140737488355328 := by omega
                have HKl := Lib.hid hKl
                clear hN' hE' hNn hsz' hs2 hb1 hg1 hc0 hcs hcap hmx hKl
                cases hm : n'.isMod with
                | true =>
                  rw [hm] at z0
                  obtain ⟨rfl, rfl, rfl, rfl⟩ : K2 = K' ∧ L2 = L' ∧ n2 = n' ∧ S2 = S' := by
                    unfold shut at hsh'
                    rw [hm] at hsh'
                    simp at hsh'
                    obtain ⟨h1, ⟨h2, h3⟩, h4⟩ := hsh'
                    exact ⟨h1.symm, h2.symm, h3.symm, h4.symm⟩
                  clear hsh'
                  go_wp2_with fail
                  go_quiet (fail)
                  go_wp2_with (go_at_call 55; refine (close_of (HN'.out.keeps (Keeps.drewN _ _)) HKl.out).mono ?_; rintro _ w3 ⟨b3, v3, xs3, p3, rfl, hN3, h98⟩)
                  have hE3 := h98 B _ HE'.out
                  have hr3 := hN3.row
                  rw [show (L2 ++ [n2.kid K2]).length = L2.length + 1 by simp] at hr3
                  obtain ⟨g3, cap3, cur3, rfl, _, hg3, hc3, hm3, hs3, _⟩ := row_slice hr3 (by omega)
                  have s0 := cell_of_block hN3.blk 0
                  rw [← HNn.out] at s0
                  have d4 := cell_of_block hE3 4
                  have d5 := cell_of_block hE3 5
                  have d6 := cell_of_block hE3 6
                  have d7 := cell_of_block hE3 7
                  simp at s0 d4 d5 d6 d7
                  have hb3g : b3 ≠ g3 := fun h => by have := hN3.blk; rw [h, hg3] at this; simp at this
                  have hBg : B ≠ g3 := fun h => by rw [h, hg3] at hE3; simp at hE3
                  have hkw3 := hN3.kept
                  have H54 := Lib.hid (fun (W : World) (hW : Keeps w3 W) => copied_of (e + 1) W A u.val _ ((HE.out.val i u HU.out).keep (keeps_hk (Keeps.trans hkw3 hW))))
                  have HN3 := Lib.hid hN3
                  have HG3 := Lib.hid hg3
                  have HSize := Lib.hid (show N * 13 + 13 ≤ cur3.size by rw [HNn.out]; omega)
                  clear hE3 hr3 hg3 hc3 hm3 hs3 hN3 h98 x1 y0 z0 hkw3
                  go_region_held3 (fun W' => W'.cell? ⟨b3, 0, none⟩ = some (.slice (some ⟨g3, 0, none⟩) (N + 1) cap3) ∧ W'.cell? ⟨B, 4, none⟩ = some (.int .i64 u.ev.vk) ∧ W'.cell? ⟨B, 5, none⟩ = some (.int .i64 u.ev.vn) ∧ W'.cell? ⟨B, 6, none⟩ = some (.string u.ev.vs) ∧ W'.cell? ⟨B, 7, none⟩ = some (.slice u.ev.va u.ev.van u.ev.vac))
                    (first | exact ⟨s0, d4, d5, d6, d7⟩ | exact ⟨cell_keeps hk4 s0, cell_keeps hk4 d4, cell_keeps hk4 d5, cell_keeps hk4 d6, cell_keeps hk4 d7⟩ | exact ⟨(cell_put4 hb3g).trans (cell_keeps hk4 s0), (cell_put4 hBg).trans (cell_keeps hk4 d4), (cell_put4 hBg).trans (cell_keeps hk4 d5), (cell_put4 hBg).trans (cell_keeps hk4 d6), (cell_put4 hBg).trans (cell_keeps hk4 d7)⟩)
                    (first
                      | (go_at_call 54; refine (H54.out _ (Keeps.drew _)).mono ?_; rintro _ w4 ⟨cs', rfl, hrs, hk4⟩; obtain ⟨k9, m9, t9, p9, n9, d9, rfl⟩ := hrs.four; have hg4 := hk4.at HG3.out (fun x => x); have y8 := cell_of_block hg4 (N * 13 + 8); have y9 := cell_of_block hg4 (N * 13 + 9); have y10 := cell_of_block hg4 (N * 13 + 10); have y11 := cell_of_block hg4 (N * 13 + 11); rw [Array.getElem?_eq_getElem (by have := HSize.out; omega)] at y8 y9 y10 y11; have f8 := free_of_block hg4 (N * 13 + 8); have f9 := free_of_block hg4 (N * 13 + 9); have f10 := free_of_block hg4 (N * 13 + 10); have f11 := free_of_block hg4 (N * 13 + 11); have HG4 := Lib.hid hg4; clear hg4))
                  all_goals
                    obtain ⟨g9, cap9, cur9, xs9, he9, _, _, _, _, hN9⟩ := HN3.out.wrote (Keeps.trans (Keeps.drew _) hk4) hrs
                    injection he9 with he9 _ _
                    injection he9 with he9
                    injection he9 with he9 _ _
                    subst he9
                    rw [← HNn.out] at hN9
                    have HN9 := Lib.hid hN9
                    clear hN9 y8 y9 y10 y11 f8 f9 f10 f11 s0 d4 d5 d6 d7 hk4 hrs
                    go_wp2_with fail
                    go_roundw
                    case rel => exact ⟨i + 1, _, _, b3, _, _, _, by omega, by go_num, rfl, HT2.out, HN9.out⟩
                    case measure => simp [intOf] <;> omega
                | false =>
                  rw [hm] at z0
                  have hsh2 : shut (L' ++ [n'.kid K']) S' = some (K2, (L2, n2) :: S2) := by
                    rw [← hsh']
                    conv => rhs; unfold shut
                    simp [hm]
                  have HSh2 := Lib.hid hsh2
                  clear hsh' hsh2
                  go_wp2_with fail
                  go_quiet (fail)
                  go_wp2_with (go_at_call 55; refine (close_of (HN'.out.keeps (Keeps.drewN _ _)) HKl.out).mono ?_; rintro _ w3 ⟨b3, v3, xs3, p3, rfl, hN3, h98⟩)
                  have hE3 := h98 B _ HE'.out
                  go_roundw
                  case rel => exact ⟨_, _, b3, _, _, _, rfl, hN3, HSh2.out, by have := HSz'.out; simp only [List.length_append, List.length_cons, List.length_nil]; omega, hE3⟩
                  case measure =>
                    show chainLen _ (n + 2) (some ⟨b3, 0, none⟩) < chainLen _ (n + 2) (some ⟨b', 0, none⟩)
                    rw [hN3.chain (by have := HSz'.out; have := HS2.out; omega), HN'.out.chain (by have := HSz'.out; have := HS2.out; simp only [List.length_cons]; omega)]
                    simp
      · obtain rfl : i = n := by omega
        have h1 := HRun.out
        rw [HN.out, List.take_length] at h1
        have h2 := HTm.out
        rw [h1] at h2
        injection h2 with h2
        injection h2 with h2 h3
        subst h2 h3
        have hd := hN.done (by omega)
        have x0 : wr.cell? ⟨b, 0, none⟩ = some v := by rw [cell_of_block hN.blk]; rfl
        have HKe := Lib.hid hN.kept
        have HD := Lib.hid hd
        have HT1 := Lib.hid h1
        clear hN hd h1
        go_wp2_with fail
        go_ret2
        refine ⟨HKe.out, ?_⟩
        rw [HO.out]
        exact ⟨_, _, HT1.out, rfl, HD.out⟩
end Go.Proofs.YtbhiaeciiphelaaGreatDoor
