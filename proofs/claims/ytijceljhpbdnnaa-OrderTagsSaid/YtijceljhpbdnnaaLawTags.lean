/-
  OrderTags, walked. Conditions: the argument lies in memory.
-/
import Derived.Test.YtijceljhpbdnnaaLawBeside
import Derived.Test.YtijceljhpbdnnaaGroups
namespace Go.Proofs.Ytijceljhpbdnnaa
open Go.RowKit

theorem gs_split {O : Ord} {p : Nat} {g : Grp} (h : O.gs[p]? = some g) : O.gs = O.gs.take p ++ g :: O.gs.drop (p + 1) := by
  obtain ⟨hj, e⟩ := List.getElem?_eq_some_iff.1 h
  rw [← e, ← List.drop_eq_getElem_cons hj, List.take_append_drop]
theorem tags_pos {w : World} {O : Ord} (h : Inv w O) {p k : Nat} {g : Grp} {s : Stp} (hp : O.gs[p]? = some g) (hs : g.ss[k]? = some s) :
    Calls Try.prog 27 #[lptr O, .int .i64 s.id] w fun e w' => e = .returned (.tuple #[.int .i64 g.tag, .int .i64 s.minor, .int .i64 0]) ∧ ∃ m, w' = w.drewN m := by
  have hG := h.group (gs_split hp)
  have hst := hG.2.2 s (List.mem_of_getElem? hs)
  have hm : s ∈ stampsOf O.gs := by
    have := stamps_take_at hp (List.getElem?_eq_some_iff.1 hs).1
    rw [hs] at this
    exact List.mem_of_getElem? this
  have hf := find_ord h (s.id : Int)
  rw [h.wf.look_of hm] at hf
  exact tags_yes _ _ _ _ _ _ w hf (stamp_c2 hst) (group_c0 hG.1) (stamp_c1 hst)
theorem tag_lt {O : Ord} (h : Wf O) {p : Nat} {g g' : Grp} (hp : O.gs[p]? = some g) (hq : O.gs[p + 1]? = some g') : g.tag < g'.tag := by
  obtain ⟨a, ea⟩ := List.getElem?_eq_some_iff.1 hp
  obtain ⟨b, eb⟩ := List.getElem?_eq_some_iff.1 hq
  have := List.pairwise_iff_getElem.1 h.tags p (p + 1) a b (by omega)
  rwa [ea, eb] at this
theorem minor_lt {O : Ord} (h : Wf O) {p k : Nat} {g : Grp} {s t : Stp} (hp : O.gs[p]? = some g) (hs : g.ss[k]? = some s) (ht : g.ss[k + 1]? = some t) : s.minor < t.minor := by
  obtain ⟨a, ea⟩ := List.getElem?_eq_some_iff.1 hs
  obtain ⟨b, eb⟩ := List.getElem?_eq_some_iff.1 ht
  have := List.pairwise_iff_getElem.1 (h.minors g (List.mem_of_getElem? hp)) k (k + 1) a b (by omega)
  rwa [ea, eb] at this
/-- So many stamps lie in the first p groups. -/
def ahead (gs : List Grp) (p : Nat) : Nat := (stampsOf (gs.take p)).length
theorem ahead_zero (gs : List Grp) : ahead gs 0 = 0 := rfl
theorem ahead_succ {gs : List Grp} {p : Nat} {g : Grp} (h : gs[p]? = some g) : ahead gs (p + 1) = ahead gs p + g.ss.length := stamps_take h
theorem ahead_all (gs : List Grp) : ahead gs gs.length = (stampsOf gs).length := by unfold ahead; rw [List.take_length]
theorem groups_lie {w : World} {O : Ord} (h : Inv w O) : Calls Try.prog 26 #[lptr O] w fun e w' => ∃ g cap, e = .returned (.slice (some ⟨g, 0, none⟩) O.gs.length cap) ∧ (∀ (p : Nat) x, O.gs[p]? = some x → w'.cell? ⟨g, p, none⟩ = some (.int .i64 (x.ss.length : Int))) ∧ O.gs.length ≤ cap ∧ Kept (fun _ => False) w w' := by
  refine (groups_ord h).mono ?_
  rintro _ w' ⟨v, rfl, hrow, hB⟩
  have hpos : 0 < O.gs.length := by
    rcases Nat.eq_zero_or_pos O.gs.length with h0 | h0
    · have e := List.eq_nil_of_length_eq_zero h0
      have := ids_pos0 h
      unfold Ord.ids idsOf at this
      rw [e] at this
      simp at this
    · exact h0
  obtain ⟨g, cap, rfl, hg, _⟩ := hrow.form hpos
  refine ⟨g, cap, rfl, ?_, ?_, Kept.of_new hB⟩
  · intro p x hx
    have := hrow.cells (g := g) rfl p (.int .i64 (x.ss.length : Int)) (by unfold nums sizes; rw [List.getElem?_map, List.getElem?_map, hx]; rfl)
    rw [addr_add, Nat.zero_add] at this
    exact this
  · rcases hrow.2 with ⟨hv, _⟩ | ⟨q, c, cur, hv, _, _, hnc, _⟩
    · cases hv
    · simp only [Value.slice.injEq, Option.some.injEq, Addr.mk.injEq] at hv
      omega
set_option maxRecDepth 100000 in
set_option maxHeartbeats 4000000 in
theorem orderTags_of {w : World} {v : Value} {nn : Nat} (h : OpsAt w v nn) : Calls Try.prog 8 #[v] w fun e w' => e = .returned (.bool true) ∧ Kept (fun _ => False) w w' := by
  have hp := fun (W : World) (hK : Kept (fun _ => False) w W) => played_of (h.on' hK)
  have HP := Lib.hid hp
  clear h hp
  go_enter Try.func8, Try.ntmps8
  go_wp2_with fail
  refine (sane_of _).mono ?_
  rintro _ w1 ⟨rfl, hK1⟩
  have HK1 := Lib.hid hK1
  clear hK1
  go_wp2_with fail
  refine (HP.out _ HK1.out).mono ?_
  rintro _ w2 ⟨xb, O, g, cap, rfl, hN, _⟩
  obtain ⟨c0, c1, c2, _, _⟩ := hN.both.cells
  have hs := stamps_lies hN.both.inv
  dsimp only [lptr] at hs
  have HS := Lib.hid hs
  have HN := Lib.hid hN
  clear hN hs
  go_wp2_with fail
  refine HS.out.mono ?_
  rintro _ w3 ⟨g1, cap1, rfl, hL1, _, hK3⟩
  have hB3 := HN.out.both.kept hK3
  obtain ⟨d0, _, _, _, _⟩ := hB3.cells
  have hg := groups_lie hB3.inv
  dsimp only [lptr] at hg
  have HG := Lib.hid hg
  have HL1 := Lib.hid hL1
  have HK3 := Lib.hid hK3
  have HB3 := Lib.hid hB3
  clear hL1 hK3 hB3 hg c0 c1 c2
  go_wp2_with fail
  refine HG.out.mono ?_
  rintro _ w4 ⟨g2, cap2, rfl, hC2, hfit2, hK4⟩
  have hB4 := HB3.out.kept hK4
  have hL4 := HL1.out.same (hK4.block g1 HL1.out.lt (fun x => x))
  have hK := ((HK1.out.trans HN.out.kept (fun _ _ x => x)).trans HK3.out (fun _ _ x => x)).trans hK4 (fun _ _ x => x)
  have hpos := ids_pos0 hB4.inv
  have hle := ids_le hB4.inv
  have hfit := hL4.fit
  have hng := hB4.inv.wf.groups_le
  obtain ⟨e0, _, _, _, _⟩ := hB4.cells
  have htag := fun (m p k : Nat) (gp : Grp) (s : Stp) (hp : O.gs[p]? = some gp) (hs : gp.ss[k]? = some s) => tags_pos (hB4.inv.drewN m) hp hs
  obtain ⟨n, hn⟩ : ∃ n, n = O.ids.length := ⟨_, rfl⟩
  obtain ⟨ng, hgn⟩ : ∃ n, n = O.gs.length := ⟨_, rfl⟩
  obtain ⟨lb, hlb⟩ : ∃ l, l = O.lb := ⟨_, rfl⟩
  dsimp only [lptr] at htag
  rw [← hn] at hpos hle hfit
  rw [← hgn] at hfit2 hng
  rw [← hlb] at e0
  simp only [← hlb] at htag
  have HT := Lib.hid htag
  have HC := Lib.hid hL4.cell
  have HC2 := Lib.hid hC2
  have HWF := Lib.hid hB4.inv.wf
  have HKK := Lib.hid hK
  have HN1 := Lib.hid hn
  have HNG := Lib.hid hgn
  simp only [← hn, ← hgn]
  have hall : ahead O.gs ng = n := by rw [hgn, hn, ahead_all, len_ids]
  have HALL := Lib.hid hall
  have hng0 : 0 < ng := by
    rcases Nat.eq_zero_or_pos ng with h0 | h0
    · rw [h0, ahead_zero] at hall; omega
    · exact h0
  have h32 : ∀ (p : Nat) gp, O.gs[p]? = some gp → 1 ≤ gp.ss.length ∧ gp.ss.length ≤ 32 := by
    intro p gp hp
    have hne := hB4.inv.wf.full gp (List.mem_of_getElem? hp)
    have hG := hB4.inv.group (gs_split hp)
    have := hG.2.1
    simp [Grp.arr] at this
    have := List.length_pos_iff.2 hne
    omega
  have H32 := Lib.hid h32
  have hmono : ∀ p, p ≤ ng → ahead O.gs p ≤ 100000 := by
    intro p _
    have : (stampsOf (O.gs.take p)).length ≤ (stampsOf O.gs).length := by
      conv => rhs; rw [← List.take_append_drop p O.gs, stampsOf_append]
      rw [List.length_append]
      omega
    have := len_ids (O := O)
    unfold ahead
    omega
  have HMO := Lib.hid hmono
  clear hL4 hC2 hK hB4 hK4 htag HS HP HN HK1 HG HL1 HK3 HB3 d0 hn hgn hlb hall h32 hmono
  go_wp2
  go_loopw [8, 9] (fun av c wr => ∃ p : Nat, p ≤ ng ∧ c = .int .i64 p ∧ av = .int .i64 (ahead O.gs p) ∧ wr = w4) (fun _ c _ => ng - (intOf c).toNat)
  case atStart => exact ⟨0, Nat.zero_le _, rfl, rfl, rfl⟩
  case round =>
    obtain ⟨p, hp, rfl, rfl, rfl⟩ := hrel
    by_cases hpn : p < ng
    · obtain ⟨gp, hgp⟩ : ∃ a, O.gs[p]? = some a := ⟨_, List.getElem?_eq_getElem (by rw [← HNG.out]; exact hpn)⟩
      have c := HC2.out p gp hgp
      obtain ⟨s1, s2⟩ := H32.out p gp hgp
      have hsum := ahead_succ hgp
      have hb := HMO.out (p + 1) hpn
      obtain ⟨z, hz⟩ : ∃ z, z = gp.ss.length := ⟨_, rfl⟩
      obtain ⟨A, hA⟩ : ∃ z, z = ahead O.gs p := ⟨_, rfl⟩
      rw [← hz] at c s1 s2 hsum
      rw [← hA] at hsum ⊢
      have D1 : decide ((z : Int) < 1) = false := decide_eq_false (by omega)
      have D2 : decide ((32 : Int) < (z : Int)) = false := decide_eq_false (by omega)
      have e1 : IntKind.i64.wrap ((A : Int) + (z : Int)) = (A : Int) + (z : Int) := IntWalk.i64_in _ (by omega)
      have HSUM := Lib.hid hsum
      have HPQ := Lib.hid hp
      clear hgp hz hA s1 s2 hb hsum hp
      go_wp2
      go_roundw
      case rel => exact ⟨p + 1, by omega, by go_num, by rw [HSUM.out]; go_num, trivial⟩
      case measure => simp [intOf]; omega
    · obtain rfl : p = ng := by omega
      rw [HALL.out]
      obtain ⟨gp0, hgp0⟩ : ∃ a, O.gs[0]? = some a := ⟨_, List.getElem?_eq_getElem (by rw [← HNG.out]; exact hng0)⟩
      have c := HC2.out 0 gp0 hgp0
      obtain ⟨z1, z2⟩ := H32.out 0 gp0 hgp0
      have HG0 := Lib.hid hgp0
      clear hgp0 hp hpn
      have y1 : (0 : Int) < (p : Int) := by omega
      go_wp2
      have hp0 : ((p : Int) == 0) = false := by simp; omega
      rw [hp0]
      clear c hp0
      go_loopw [8, 10, 11, 12, 13, 14, 15, 16, 17, 18] (fun av lv c _ _ _ _ _ _ _ wr2 => ∃ (q k lf m : Nat) (gq : Grp), O.gs[q]? = some gq ∧ lf + k = gq.ss.length ∧ (k = 0 → q = 0) ∧ c = .int .i64 ((ahead O.gs q + k : Nat) : Int) ∧ av = .int .i64 q ∧ lv = .int .i64 lf ∧ wr2 = wr.drewN m) (fun _ _ c _ _ _ _ _ _ _ _ => n - (intOf c).toNat)
      case atStart => exact ⟨0, 0, gp0.ss.length, 0, gp0, HG0.out, rfl, fun _ => rfl, rfl, rfl, rfl, rfl⟩
      case round =>
        obtain ⟨q, k, lf, m, gq, hq, hlf, hk0, rfl, rfl, rfl, rfl⟩ := hrel
        have hqn : q < p := by rw [HNG.out]; exact (List.getElem?_eq_some_iff.1 hq).1
        have hqs := ahead_succ hq
        obtain ⟨r1, r2⟩ := H32.out q gq hq
        by_cases hin : ahead O.gs q + k < n
        · have hbd := HMO.out (q + 1) hqn
          have hqs0 := HMO.out q (by omega)
          rcases Nat.eq_zero_or_pos lf with hl0 | hl0
          · subst hl0
            have hkz : k = gq.ss.length := by omega
            have hq1 : q + 1 < p := by
              rcases Nat.lt_or_ge (q + 1) p with hlt | hge
              · exact hlt
              · have e : q + 1 = p := by omega
                have := HALL.out
                rw [← e, hqs] at this
                omega
            obtain ⟨gr, hr⟩ : ∃ a, O.gs[q + 1]? = some a := ⟨_, List.getElem?_eq_getElem (by rw [← HNG.out]; exact hq1)⟩
            obtain ⟨v1, v2⟩ := H32.out (q + 1) gr hr
            obtain ⟨z, hz⟩ : ∃ z, gr.ss.length = z + 1 := ⟨gr.ss.length - 1, by omega⟩
            obtain ⟨k0, hk1⟩ : ∃ k0, k = k0 + 1 := ⟨k - 1, by omega⟩
            obtain ⟨s, hs⟩ : ∃ s, gr.ss[0]? = some s := ⟨_, List.getElem?_eq_getElem (by omega)⟩
            obtain ⟨t, ht⟩ : ∃ t, gq.ss[k0]? = some t := ⟨_, List.getElem?_eq_getElem (by omega)⟩
            have hsi : O.ids[ahead O.gs q + k0 + 1]? = some s.id := by
              have := stamps_take_at hr (k := 0) (by omega)
              rw [hs] at this
              have e : ahead O.gs q + k0 + 1 = (stampsOf (O.gs.take (q + 1))).length + 0 := by show _ = ahead O.gs (q + 1) + 0; omega
              rw [e]
              unfold Ord.ids idsOf
              rw [List.getElem?_map, this]
              rfl
            have hti : O.ids[ahead O.gs q + k0]? = some t.id := by
              have := stamps_take_at hq (k := k0) (by omega)
              rw [ht] at this
              unfold Ord.ids idsOf
              rw [List.getElem?_map]
              unfold ahead
              rw [this]
              rfl
            have ca := HC.out _ _ hsi
            have cb := HC.out _ _ hti
            have cc := HC2.out (q + 1) gr hr
            rw [hz] at cc
            have htl := tag_lt HWF.out hq hr
            have b1 : gr.tag < space := HWF.out.tagLt gr (List.mem_of_getElem? hr)
            have b2 : s.minor < space := HWF.out.minorLt s (by have := stamps_take_at hr (k := 0) (by omega); rw [hs] at this; exact List.mem_of_getElem? this)
            unfold space at b1 b2
            have hzb : z ≤ 31 := by omega
            have HTa := Lib.hid fun (m : Nat) => HT.out m (q + 1) 0 gr s hr hs
            have HTb := Lib.hid fun (m : Nat) => HT.out m q k0 gq t hq ht
            have hnx : ahead O.gs q + k0 + 1 + 1 = ahead O.gs (q + 1) + 1 := by omega
            have hin' : ahead O.gs q + k0 + 1 < n := by omega
            have hjb : ahead O.gs q + k0 + 1 ≤ 100001 := by omega
            have hjk : ahead O.gs q + k = ahead O.gs q + k0 + 1 := by omega
            rw [hjk]
            generalize ahead O.gs q + k0 = jj at *
            generalize s.id = sid at *
            generalize s.minor = smn at *
            generalize t.id = tid at *
            generalize t.minor = tmn at *
            generalize gr.tag = rtg at *
            generalize gq.tag = qtg at *
            have D1 : decide ((1099511627776 : Int) ≤ (rtg : Int)) = false := decide_eq_false (by omega)
            have D2 : decide ((1099511627776 : Int) ≤ (smn : Int)) = false := decide_eq_false (by omega)
            have D3 : ¬ rtg ≤ qtg := by omega
            have HR := Lib.hid hr
            have HZ := Lib.hid hz
            have HNX := Lib.hid hnx
            have HHN := Lib.hid hin'
            have y2 : (jj : Int) + 1 < (n : Int) := by omega
            have y3 : (0 : Int) ≤ (jj : Int) + 1 := by omega
            have y4 : (q : Int) + 1 < (p : Int) := by omega
            have y5 : (jj : Int) < (n : Int) := by omega
            have y6 : IntKind.i64.wrap ((z : Int) + 1 - 1) = (z : Int) := by rw [show (z : Int) + 1 - 1 = z by omega]; exact IntWalk.i64_in _ (by omega)
            have y7 : IntKind.i64.wrap ((jj : Int) + 1 - 1) = (jj : Int) := by rw [show (jj : Int) + 1 - 1 = jj by omega]; exact IntWalk.i64_in _ (by omega)
            have y8 : IntKind.i64.wrap ((q : Int) + 1) = (q : Int) + 1 := IntWalk.i64_in _ (by omega)
            have y9 : ((jj : Int) + 1).toNat = jj + 1 := by omega
            clear hq hlf hk0 hqs r1 r2 hkz v1 v2 hs ht hsi hti htl b1 b2 hr hz hnx hin hin' hjk hk1 hbd hqs0 hq1 hqn
            go_wp2
            go_quiet ((go_at_call 27; exact quiet_of2 (HTa.out _)))
            go_wp2
            go_quiet ((go_at_call 27; exact quiet_of2 (HTb.out _)))
            go_wp2
            go_roundw
            case rel => exact ⟨q + 1, 1, z, _, gr, HR.out, HZ.out.symm, fun e => absurd e (by omega), by rw [← HNX.out]; go_num, by go_num, rfl, rfl⟩
            case measure => have := HHN.out; simp [intOf]; omega
          · obtain ⟨l0, rfl⟩ : ∃ l0, lf = l0 + 1 := ⟨lf - 1, by omega⟩
            obtain ⟨s, hs⟩ : ∃ s, gq.ss[k]? = some s := ⟨_, List.getElem?_eq_getElem (by omega)⟩
            have hsi : O.ids[ahead O.gs q + k]? = some s.id := by
              have := stamps_take_at hq (k := k) (by omega)
              rw [hs] at this
              unfold Ord.ids idsOf
              rw [List.getElem?_map]
              unfold ahead
              rw [this]
              rfl
            have ca := HC.out _ _ hsi
            have b1 : gq.tag < space := HWF.out.tagLt gq (List.mem_of_getElem? hq)
            have b2 : s.minor < space := HWF.out.minorLt s (by have := stamps_take_at hq (k := k) (by omega); rw [hs] at this; exact List.mem_of_getElem? this)
            unfold space at b1 b2
            have hlb0 : l0 ≤ 31 := by omega
            have HTa := Lib.hid fun (m : Nat) => HT.out m q k gq s hq hs
            cases k with
            | zero =>
              obtain rfl := hk0 rfl
              rw [ahead_zero] at ca hin ⊢
              generalize s.id = sid at *
              generalize s.minor = smn at *
              generalize gq.tag = qtg at *
              have D1 : decide ((1099511627776 : Int) ≤ (qtg : Int)) = false := decide_eq_false (by omega)
              have D2 : decide ((1099511627776 : Int) ≤ (smn : Int)) = false := decide_eq_false (by omega)
              have HQ := Lib.hid hq
              have HLF := Lib.hid hlf
              have y2 : (0 : Int) < (n : Int) := by omega
              have y6 : IntKind.i64.wrap ((l0 : Int) + 1 - 1) = (l0 : Int) := by rw [show (l0 : Int) + 1 - 1 = l0 by omega]; exact IntWalk.i64_in _ (by omega)
              have HHN := Lib.hid hin
              clear hq hlf hk0 hqs r1 r2 hs hsi b1 b2 hin hbd hqs0 hqn hl0
              go_wp2
              go_quiet ((go_at_call 27; exact quiet_of2 (HTa.out _)))
              go_wp2
              go_roundw
              case rel => exact ⟨0, 1, l0, _, gq, HQ.out, by have := HLF.out; omega, fun e => absurd e (by omega), by rw [ahead_zero]; rfl, rfl, rfl, rfl⟩
              case measure => have := HHN.out; simp [intOf]; omega
            | succ k0 =>
              obtain ⟨t, ht⟩ : ∃ t, gq.ss[k0]? = some t := ⟨_, List.getElem?_eq_getElem (by omega)⟩
              have hti : O.ids[ahead O.gs q + k0]? = some t.id := by
                have := stamps_take_at hq (k := k0) (by omega)
                rw [ht] at this
                unfold Ord.ids idsOf
                rw [List.getElem?_map]
                unfold ahead
                rw [this]
                rfl
              have cb := HC.out _ _ hti
              have cc := HC2.out q gq hq
              have hml := minor_lt HWF.out hq ht hs
              have HTb := Lib.hid fun (m : Nat) => HT.out m q k0 gq t hq ht
              have hjb : ahead O.gs q + k0 + 1 ≤ 100001 := by omega
              obtain ⟨z, hz⟩ : ∃ z, z = gq.ss.length := ⟨_, rfl⟩
              rw [← hz] at cc
              have hjk : ahead O.gs q + (k0 + 1) = ahead O.gs q + k0 + 1 := by omega
              have hnx : ahead O.gs q + k0 + 1 + 1 = ahead O.gs q + (k0 + 1 + 1) := by omega
              rw [hjk] at ca hin ⊢
              have HNX := Lib.hid hnx
              have HQ := Lib.hid hq
              have HLF := Lib.hid hlf
              have y0 : ¬ (l0 : Int) = (z : Int) - 1 := by omega
              have y6 : IntKind.i64.wrap ((l0 : Int) + 1 - 1) = (l0 : Int) := by rw [show (l0 : Int) + 1 - 1 = l0 by omega]; exact IntWalk.i64_in _ (by omega)
              have yz : IntKind.i64.wrap ((z : Int) - 1) = (z : Int) - 1 := IntWalk.i64_in _ (by omega)
              generalize ahead O.gs q + k0 = jj at *
              generalize s.id = sid at *
              generalize s.minor = smn at *
              generalize t.id = tid at *
              generalize t.minor = tmn at *
              generalize gq.tag = qtg at *
              have D1 : decide ((1099511627776 : Int) ≤ (qtg : Int)) = false := decide_eq_false (by omega)
              have D2 : decide ((1099511627776 : Int) ≤ (smn : Int)) = false := decide_eq_false (by omega)
              have D3 : ¬ smn ≤ tmn := by omega
              have HHN := Lib.hid hin
              have y2 : (jj : Int) + 1 < (n : Int) := by omega
              have y3 : (0 : Int) ≤ (jj : Int) + 1 := by omega
              have y4 : (q : Int) < (p : Int) := by omega
              have y5 : (jj : Int) < (n : Int) := by omega
              have y7 : IntKind.i64.wrap ((jj : Int) + 1 - 1) = (jj : Int) := by rw [show (jj : Int) + 1 - 1 = jj by omega]; exact IntWalk.i64_in _ (by omega)
              have y9 : ((jj : Int) + 1).toNat = jj + 1 := by omega
              clear hq hlf hk0 hqs r1 r2 hs ht hsi hti hml b1 b2 hz hnx hin hjk hbd hqs0 hqn hl0
              go_wp2
              go_quiet ((go_at_call 27; exact quiet_of2 (HTa.out _)))
              go_wp2
              go_quiet ((go_at_call 27; exact quiet_of2 (HTb.out _)))
              go_wp2
              go_roundw
              case rel => exact ⟨q, k0 + 1 + 1, l0, _, gq, HQ.out, by have := HLF.out; omega, fun e => absurd e (by omega), by rw [← HNX.out]; go_num, rfl, rfl, rfl⟩
              case measure => have := HHN.out; simp [intOf]; omega
        · go_wp2
          go_ret
          exact ⟨rfl, HKK.out.drewN _⟩
end Go.Proofs.Ytijceljhpbdnnaa
