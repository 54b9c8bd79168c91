/-
  DERIVED. Why of package debug: what it returns. Condition: the events lie in a row; there are at most sixty thousand.
-/
import Derived.Test.YtbhiaeciiphelaaGreatDoorWhyA
import Derived.Test.YtbhiaeciiphelaaGreatDoorDepW
namespace Go.Proofs.YtbhiaeciiphelaaGreatDoor
open Go.RowKit
theorem sq_event {evs : List Ev} {f : St} (hro : readOf evs = some f) {y z : Int} (hz : z ∈ sq evs f y) : evs.any (fun e => decide (e.addr = z)) = true := by
  unfold sq at hz
  cases hix : idxOf f y with
  | none => rw [hix] at hz; simp at hz
  | some k =>
    rw [hix] at hz
    obtain ⟨s, st, wr, hr, ha, _⟩ := frm_run hro evs.length (Nat.le_refl _)
    rw [List.take_length] at hr
    obtain ⟨rfl, _⟩ := momEnd hro hr ha
    obtain ⟨V, hV⟩ := vis_ex ha.ok.outer
    have hlt := hV.lt (fun k p hp => (ha.rds k p hp).2) ha.ok.outer
    simp only [seesOf, visOf_eq hV ha.ok.outer] at hz
    obtain ⟨r, hr2, rfl⟩ := List.mem_map.1 hz
    have hrl := hlt k r hr2
    refine List.any_eq_true.2 ⟨evs[r], List.getElem_mem _, ?_⟩
    unfold addrAt
    rw [List.getElem?_eq_getElem hrl]
    simp
def WhyPost (evs : List Ev) (x y : Int) (w : World) (r : Ending) (w' : World) : Prop :=
  ∃ p c l k, r = .returned (.tuple #[.slice p l.length c, .int .i64 k]) ∧ IntsAt w' (.slice p l.length c) l ∧ Keeps w w' ∧
    ((readOf evs = none ∧ l = [] ∧ k = 250) ∨ ∃ f, readOf evs = some f ∧ ((k = 3 ∧ l = [] ∧ farOf evs f x y = 0) ∨ (k = 0 ∧ Leads evs f x y l ∧ farOf evs f x y = l.length ∧ l.length ≤ 100000)))
theorem why_none {evs : List Ev} {x y : Int} {w w' : World} {k : Int} (hk : Keeps w w') (h : (readOf evs = none ∧ k = 250) ∨ ∃ f, readOf evs = some f ∧ k = 3 ∧ farOf evs f x y = 0) : WhyPost evs x y w (.returned (.tuple #[.slice none 0 0, .int .i64 k])) w' :=
  ⟨none, 0, [], k, rfl, ⟨none, 0, rfl, fun j x h => by simp at h⟩, hk, h.imp (fun h => ⟨h.1, rfl, h.2⟩) (fun ⟨f, h1, h2, h3⟩ => ⟨f, h1, .inl ⟨h2, rfl, h3⟩⟩)⟩
structure Trail (evs : List Ev) (f : St) (met : List (Int × Int)) (lev : Int → Nat) (x cur : Int) (l : List Int) : Prop where
  pos : 0 < l.length
  head : l[0]? = some x
  last : l[l.length - 1]? = some cur
  chain : ∀ (i : Nat) (z u : Int), l[i]? = some z → l[i + 1]? = some u → z ∈ sq evs f u
  fall : l.Pairwise fun a b => lev b < lev a
  met : ∀ z ∈ l, Met met z
  sum : lev x + 1 = lev cur + l.length
theorem Trail.start {evs : List Ev} {f : St} {met : List (Int × Int)} {lev : Int → Nat} {x : Int} (h : Met met x) : Trail evs f met lev x x [x] :=
  ⟨Nat.one_pos, rfl, rfl, fun i z u h1 h2 => by simp at h2, by simp, fun z hz => by rw [List.mem_singleton] at hz; subst hz; exact h, by simp⟩
theorem Trail.step {evs : List Ev} {f : St} {met : List (Int × Int)} {lev : Int → Nat} {x cur v : Int} {l : List Int} (h : Trail evs f met lev x cur l) (hv : cur ∈ sq evs f v) (hm : Met met v) (hl : lev cur = lev v + 1) : Trail evs f met lev x v (l ++ [v]) := by
  have hlc : ∀ z ∈ l, lev cur ≤ lev z := fun z hz => by
    obtain ⟨i, hi, e⟩ := List.getElem_of_mem hz
    by_cases e2 : i = l.length - 1
    · have := h.last
      rw [← e2, List.getElem?_eq_getElem hi, e] at this
      injection this with this
      rw [this]; exact Nat.le_refl _
    · have h1 := (List.pairwise_iff_getElem.1 h.fall) i (l.length - 1) hi (by have := h.pos; omega) (by omega)
      have h2 := h.last
      rw [List.getElem?_eq_getElem (by have := h.pos; omega)] at h2
      injection h2 with h2
      rw [h2, e] at h1
      omega
  refine ⟨by simp, ?_, by simp, fun i z u h1 h2 => ?_, ?_, fun z hz => ?_, by have := h.sum; simp; omega⟩
  · rw [List.getElem?_append_left h.pos]; exact h.head
  · rw [List.getElem?_append] at h2
    split at h2
    · rename_i hlt
      rw [List.getElem?_append_left (by omega)] at h1
      exact h.chain i z u h1 h2
    · rename_i hge
      have hi : i + 1 = l.length := by
        have := (List.getElem?_eq_some_iff.1 h2).1
        simp at this; omega
      rw [hi, Nat.sub_self] at h2
      simp at h2
      subst h2
      rw [List.getElem?_append_left (by omega), show i = l.length - 1 by omega, h.last] at h1
      injection h1 with h1
      subst h1
      exact hv
  · rw [List.pairwise_append]
    refine ⟨h.fall, by simp, fun a ha b hb => ?_⟩
    rw [List.mem_singleton] at hb
    subst hb
    have := hlc a ha
    omega
  · rcases List.mem_append.1 hz with hz | hz
    · exact h.met z hz
    · rw [List.mem_singleton] at hz; subst hz; exact hm
theorem Trail.few {evs : List Ev} {f : St} {met : List (Int × Int)} {lev : Int → Nat} {x cur : Int} {l : List Int} (h : Trail evs f met lev x cur l) : l.length ≤ met.length := by
  have hnd : l.Nodup := h.fall.imp fun hab e => by rw [e] at hab; exact Nat.lt_irrefl _ hab
  have := hnd.length_le_of_subset (l₂ := met.map (·.1)) (fun z hz => by
    obtain ⟨y, hy⟩ := h.met z hz
    exact List.mem_map.2 ⟨_, hy, rfl⟩)
  simpa using this
set_option maxHeartbeats 8000000 in
set_option maxRecDepth 100000 in
theorem why_of (w : World) (a : Option Addr) (n c : Nat) (evs : List Ev) (h : EvIn w a n evs) (x y : Int) :
    Calls Tryz.prog 39 #[.slice a n c, .int .i64 x, .int .i64 y] w (WhyPost evs x y w) := by
  have HI := Lib.hid h
  cases hro : readOf evs with
  | none =>
    have HR := Lib.hid (fun (W : World) (hW : Keeps w W) => read_no (c := c) (h.keeps hW) hro)
    have HO := Lib.hid hro
    clear h hro
    go_enter Tryz.func39, Tryz.ntmps39
    go_wp2_with (go_at_call 47; refine hold ?_)
    refine Lib.hid ?_
    refine (HR.out _ (Kept.alloc (Keeps.alloc _ _) _)).mono ?_
    rintro _ w1 ⟨rfl, hk⟩
    have HK := Lib.hid (Keeps.trans (Kept.alloc (Keeps.alloc w (.cells #[.int .i64 x] 3)) (.cells #[.int .i64 y] 3)) hk)
    clear hk
    go_wp2
    go_ret2
    exact why_none HK.out (.inl ⟨HO.out, rfl⟩)
  | some f =>
    have HR := Lib.hid (fun (W : World) (hW : Keeps w W) => read_yes (c := c) (h.keeps hW) hro)
    have HO := Lib.hid hro
    clear h hro
    go_enter Tryz.func39, Tryz.ntmps39
    go_wp2_with (go_at_call 47; refine hold ?_)
    refine Lib.hid ?_
    refine (HR.out _ (Kept.alloc (Keeps.alloc _ _) _)).mono ?_
    rintro _ w1 ⟨L, M, wv, m, rf, rfl, hm⟩
    have hb4 := hm.kept.at (heap_alloc_old (.cells #[.int .i64 y] 3) (heap_alloc_at w (.cells #[.int .i64 x] 3))) (fun x => x)
    have hb5 : w1.heap[w.heap.size + 1]? = some (.cells #[.int .i64 y] 3 (0, 0)) := by
      have h9 := heap_alloc_at (w.alloc (.cells #[.int .i64 x] 3)) (.cells #[.int .i64 y] 3)
      rw [World.size_alloc] at h9
      exact hm.kept.at h9 (fun x => x)
    have hkw : Keeps w w1 := Keeps.trans (Kept.alloc (Keeps.alloc _ _) _) hm.kept
    have c4 := cell_of_block hb4 0
    have c5 := cell_of_block hb5 0
    simp at c4 c5
    have HB4 := Lib.hid hb4
    have HB5 := Lib.hid hb5
    have HK1 := Lib.hid hkw
    have hint : IntsAt (w1.alloc (.cells #[.int .i64 y] 3)) (.slice (some ⟨w1.heap.size, 0, none⟩) 1 1) [y] := ⟨some ⟨w1.heap.size, 0, none⟩, 1, rfl, fun j z hj => by
      cases j with
      | zero =>
        simp at hj
        subst hj
        exact ⟨_, _, rfl, by rw [cell_of_block (heap_alloc_at _ _)]; rfl⟩
      | succ j => simp at hj⟩
    have HSp := Lib.hid (spread_of _ (w1.alloc (.cells #[.int .i64 y] 3)) a n c L M wv m rf evs f (HI.out.keeps (Kept.alloc hkw _)) HO.out (hm.keeps (Keeps.alloc _ _)) _ [y] hint (by simp) (by simp))
    clear hm hb4 hb5 hkw hint
    go_wp2_with (go_at_call 68; refine hold ?_)
    refine Lib.hid ?_
    refine HSp.out.mono ?_
    rintro _ w4 ⟨mm, met, lev, rfl, hmap, ⟨seen0, hspr⟩, hbfs, hk4⟩
    have hk14 : Keeps w1 w4 := Keeps.trans (Keeps.alloc _ _) hk4
    have hb4 := hk14.at HB4.out (fun x => x)
    have hb5 := hk14.at HB5.out (fun x => x)
    have hy : Met met y := hspr.root y (by simp)
    have hfew := hspr.few HO.out hmap.nd
    have hlk := hmap.look keyI (fun _ _ => trivial) x trivial true
    have d4 := cell_of_block hb4 0
    have d5 := cell_of_block hb5 0
    simp at d4 d5
    have HK4 := Lib.hid (Keeps.trans HK1.out hk14)
    have HB4' := Lib.hid hb4
    have HB5' := Lib.hid hb5
    have HMp := Lib.hid hmap
    have HBf := Lib.hid hbfs
    have HY := Lib.hid hy
    clear hspr hmap hbfs hk4 hk14 hb4 hb5 hy c4 c5
    cases hg : getG met x with
    | none =>
      rw [hg] at hlk
      have hz : farOf evs f x y = 0 := far_never fun k hs => met_iff.1 (HBf.out.dist HY.out k x hs).1 hg
      have HZ := Lib.hid hz
      clear hz
      go_wp2_with fail
      go_ret2
      exact why_none HK4.out (.inr ⟨f, HO.out, rfl, HZ.out⟩)
    | some v0 =>
      rw [hg] at hlk
      have hx : Met met x := met_iff.2 (by rw [hg]; simp)
      have HX := Lib.hid hx
      have HCf := Lib.hid (containsFunc_of w4 a n c evs (HI.out.keeps HK4.out) x y w.heap.size (w.heap.size + 1) HB4'.out HB5'.out)
      clear hx
      go_wp2_with (go_at_call 72; refine hold ?_)
      refine Lib.hid ?_
      refine HCf.out.mono ?_
      rintro _ w5 ⟨rfl, hk5⟩
      have HK5 := Lib.hid hk5
      have e4 := cell_of_block (hk5.at HB4'.out (fun x => x)) 0
      have e5 := cell_of_block (hk5.at HB5'.out (fun x => x)) 0
      simp at e4 e5
      have l4 := heap_lt (hk5.at HB4'.out (fun x => x))
      have l5 := heap_lt (hk5.at HB5'.out (fun x => x))
      have HC4 := Lib.hid (hk5.at HB4'.out (fun x => x))
      have HC5 := Lib.hid (hk5.at HB5'.out (fun x => x))
      have HMw := Lib.hid (HMp.out.same (hk5.block mm HMp.out.lt (fun x => x)))
      clear hk5 d4 d5
      cases hev : evs.any fun e => e.either x y with
      | false =>
        have hz : farOf evs f x y = 0 := far_unknown (by
          cases hb : evs.any fun e => decide (e.addr = x) with
          | false => rfl
          | true =>
            obtain ⟨e, he, h1⟩ := List.any_eq_true.1 hb
            rw [List.any_eq_false] at hev
            exact absurd (by unfold Ev.either; rw [h1]; rfl) (hev e he))
        have HZ := Lib.hid hz
        clear hz
        go_wp2_with fail
        go_ret2
        exact why_none (Keeps.trans HK4.out HK5.out) (.inr ⟨f, HO.out, rfl, HZ.out⟩)
      | true =>
        have hkn : evs.any (fun e => decide (e.addr = x)) = true := by
          obtain ⟨v, hv⟩ := HX.out
          rcases HBf.out.par x v hv with ⟨h1, _⟩ | ⟨h1, _⟩
          · rw [List.mem_singleton] at h1
            subst h1
            obtain ⟨e, he, h1⟩ := List.any_eq_true.1 hev
            refine List.any_eq_true.2 ⟨e, he, ?_⟩
            unfold Ev.either at h1
            simpa using h1
          · exact sq_event HO.out h1
        have hfar := far_near hkn (HBf.out.near HY.out HX.out)
        have HFar := Lib.hid hfar
        obtain ⟨i3, hi3, hz3, hs3, hb3⟩ := info_parts info3
        clear hkn hfar
        go_wp2_with fail
        go_loopw [13, 14] (fun o q W => ∃ (l : List Int) (cur : Int), q = .int .i64 cur ∧ W.ownsRow w5.heap.size 3 1 o l.length (ints l) ∧ Keeps w5 W ∧ Trail evs f met lev x cur l) (fun _ q _ => lev (intOf q))
        case atStart => exact ⟨[x], x, rfl, World.ownsRow_lit w5 #[.int .i64 x] 1 (Nat.le_refl _) (by decide) rfl, Keeps.alloc _ _, Trail.start HX.out⟩
        case round =>
          obtain ⟨l, cur, rfl, hrow, hk, htr⟩ := hrel
          obtain ⟨pl, cl, rfl⟩ := row_slice hrow
          have f5 := cell_of_block (hk.at HC5.out (fun x => x)) 0
          simp at f5
          have HRow := Lib.hid hrow
          have HKk := Lib.hid hk
          have HTr := Lib.hid htr
          have hlf := htr.few
          by_cases hcy : cur = y
          · subst hcy
            have hsum := htr.sum
            have hroot := HBf.out.root cur (by simp)
            have HFin := Lib.hid (show farOf evs f x cur = l.length by rw [HFar.out]; omega)
            clear hrow hk htr
            go_wp2_with fail
            go_ret2
            refine ⟨pl, cl, l, 0, rfl, ints_at HRow.out, Keeps.trans (Keeps.trans HK4.out HK5.out) HKk.out, .inr ⟨f, HO.out, .inr ⟨rfl, ⟨HTr.out.pos, HTr.out.head, HTr.out.last, HTr.out.chain⟩, HFin.out, ?_⟩⟩⟩
            have : [cur].length = 1 := rfl
            omega
          · have hcm : Met met cur := htr.met cur (List.mem_of_getElem? htr.last)
            obtain ⟨v, hv⟩ : ∃ v, getG met cur = some v := by
              cases hv : getG met cur with
              | none => exact absurd hv (met_iff.1 hcm)
              | some v => exact ⟨v, rfl⟩
            have hlk2 := (HMw.out.same (hk.block mm HMw.out.lt (fun x => x))).look keyI (fun _ _ => trivial) cur trivial false
            rw [hv] at hlk2
            simp only [Option.getD_some, Bool.false_eq_true, if_false] at hlk2
            obtain ⟨hsq, hmv, hlv⟩ : cur ∈ sq evs f v ∧ Met met v ∧ lev cur = lev v + 1 := by
              rcases HBf.out.par cur v (getG_mem hv) with ⟨h1, _, _⟩ | h1
              · rw [List.mem_singleton] at h1; exact absurd h1 hcy
              · exact h1
            have HT2 := Lib.hid (htr.step hsq hmv hlv)
            have HLv := Lib.hid hlv
            have hl1 : [y].length = 1 := rfl
            have hkk := hk.size
            clear hrow hk htr hv hcm hsq hmv hlv hlk
            go_wp2_with (at_builtin; refine hold ?_)
            refine Lib.hid ?_
            refine wpList_append_own_at _ rfl (.tmp 47) (.tmp 49) 35 rfl w5.heap.size 3 i3 (.int .i64 0) 1 8 under35 hi3 hz3 hs3 hb3 rfl (by decide) (.slice pl l.length cl) l.length (ints l) rfl (HRow.out.alloc _) ⟨_, 0, none⟩ 1 1 [.int .i64 v] rfl rfl (cell_one_new _ _ _) (by simp [Value.oneCell']) (by unfold maxLen; omega) (by omega) (by rw [World.size_alloc]; omega) ?_
            intro v7 w7 hown7 hgrow7 hnil7 hat7
            have hk7 : Keeps w5 w7 := Kept.trans HKk.out (((Kept.refl (fun b => (Value.slice pl l.length cl).ownBlock = some b) wr).alloc _).grown hgrow7 (fun b hb _ => hb)) (fun b hb e => by have := (HRow.out.lt b e).1; omega)
            have HK7 := Lib.hid hk7
            have e1 : (l ++ [v]).length = l.length + 1 := by simp
            have e2 : ints (l ++ [v]) = ints l ++ [.int .i64 v] := by simp [ints]
            have hr7 : w7.ownsRow w5.heap.size 3 1 v7 (l ++ [v]).length (ints (l ++ [v])) := by rw [e1, e2]; exact hown7
            have HR7 := Lib.hid hr7
            clear hown7 hgrow7 hnil7 hat7 hk7 e1 e2 hr7
            go_wp2_with fail
            go_roundw
            case rel => exact ⟨l ++ [v], v, rfl, HR7.out, HK7.out, HT2.out⟩
            case measure =>
              show lev v < lev cur
              rw [HLv.out]; exact Nat.lt_succ_self _
end Go.Proofs.YtbhiaeciiphelaaGreatDoor
namespace Go.Proofs.YtbhiaeciiphelaaGreatDoor
open Go.RowKit
set_option maxHeartbeats 8000000 in
set_option maxRecDepth 100000 in
theorem whyLaw_of {w : World} (hs : Calls Tryz.prog 9 #[] w fun e w' => e = .returned (.bool true) ∧ Keeps w w') (a : Option Addr) (n c : Nat) (evs : List Ev) (hev : EvsAt w a evs) (hn : n = evs.length) (x y : Int) :
    Calls Tryz.prog 8 #[.slice a n c, .int .i64 x, .int .i64 y] w fun e w' => e = .returned (.bool true) ∧ Keeps w w' := by
  have HS := Lib.hid hs
  clear hs
  by_cases hfew : n ≤ 600
  · have hI : EvIn w a n evs := ⟨hev, hn, by omega⟩
    have HI := Lib.hid hI
    have H39 := Lib.hid (fun (W : World) (hK : Keeps w W) => why_of W a n c evs (hI.keeps hK) x y)
    have H24 := Lib.hid (fun (W : World) (hK : Keeps w W) => right_of W a n c evs (hI.keeps hK).ev hI.len hI.few)
    clear hev hn hI
    have k0 : (n : Int) ≤ 600 := by omega
    go_enter Tryz.func8, Tryz.ntmps8
    go_wp2_with fail
    refine HS.out.mono ?_
    rintro _ w1 ⟨rfl, hk⟩
    have HK1 := Lib.hid hk
    clear hk
    go_wp2_with fail
    refine (few_of _ _ _ _).mono ?_
    rintro _ w1' ⟨rfl, rfl⟩
    have hd : decide (n ≤ 600) = true := by simp [hfew]
    rw [hd]
    go_wp2_with fail
    refine (H39.out _ HK1.out).mono ?_
    rintro _ w2 ⟨p, cp, l, k, rfl, hi, hk, hout⟩
    have HInt := Lib.hid hi
    have HK2 := Lib.hid (Keeps.trans HK1.out hk)
    clear hi hk
    go_wp2_with fail
    refine (H24.out _ HK2.out).mono ?_
    rintro _ w3 ⟨rfl, hk⟩
    have HK3 := Lib.hid (Keeps.trans HK2.out hk)
    have HK23 := Lib.hid hk
    clear hk
    rcases hout with ⟨hro, rfl, rfl⟩ | ⟨f, hro, hout⟩
    · have hr : rightOf evs = false := by rw [right_read, hro]; rfl
      rw [hr]
      go_wp2_with fail
      go_ret
      exact ⟨rfl, HK3.out⟩
    · have hr : rightOf evs = true := by rw [right_read, hro]; rfl
      rw [hr]
      have H40 := Lib.hid (far_of w3 a n c evs (HI.out.keeps HK3.out) f hro x y)
      have HO := Lib.hid hro
      clear hro
      go_wp2_with fail
      refine H40.out.mono ?_
      rintro _ w4 ⟨rfl, hk⟩
      have HK4 := Lib.hid (Keeps.trans HK3.out hk)
      have HI4 := Lib.hid ((HInt.out.keeps HK23.out).keeps hk)
      clear hk
      rcases hout with ⟨rfl, rfl, hfar⟩ | ⟨rfl, hl, hfar, hll⟩
      · rw [hfar]
        go_wp2_with fail
        go_ret
        exact ⟨rfl, HK4.out⟩
      · rw [hfar]
        have hpos := hl.pos
        obtain ⟨N, hN⟩ : ∃ N, N = l.length := ⟨_, rfl⟩
        have H41 := Lib.hid (leads_of w4 a n c evs (HI.out.keeps HK4.out) f HO.out _ l HI4.out (Nat.le_trans hll (by decide)) x y hl)
        rw [← hN] at H41 hpos ⊢
        have k1 : ¬ N = 0 := by omega
        clear hl hfar hll hN
        go_wp2_with (go_at_call 41; refine H41.out.mono ?_; rintro _ w5 ⟨rfl, hk⟩; have HK5 := Lib.hid (Keeps.trans HK4.out hk); clear hk)
        go_ret
        exact ⟨rfl, HK5.out⟩
  · have k0 : ¬ (n : Int) ≤ 600 := by omega
    clear hev hn
    go_enter Tryz.func8, Tryz.ntmps8
    go_wp2_with fail
    refine HS.out.mono ?_
    rintro _ w1 ⟨rfl, hk⟩
    have HK1 := Lib.hid hk
    clear hk
    go_wp2_with fail
    refine (few_of _ _ _ _).mono ?_
    rintro _ w1' ⟨rfl, rfl⟩
    have hd : decide (n ≤ 600) = false := by simp [hfew]
    rw [hd]
    go_wp2
    go_ret
    exact ⟨rfl, HK1.out⟩
end Go.Proofs.YtbhiaeciiphelaaGreatDoor
