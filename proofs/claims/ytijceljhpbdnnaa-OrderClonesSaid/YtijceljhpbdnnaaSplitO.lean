/-
  split and retag over a whole order. Conditions: each theorem's own hypotheses on memory.
-/
import Derived.Test.YtijceljhpbdnnaaSplit
import Derived.Test.YtijceljhpbdnnaaShape
namespace Go.Proofs.Ytijceljhpbdnnaa
open Go.RowKit

theorem Inv.ownRow {w w' : World} {O : Ord} (h : Inv w O) {S : Nat → Prop} (hk : Kept S w w') (hS : ∀ k, O.all.ownBlock = some k → ¬ S k) : w'.ownsRow 0 67 1 O.all O.P.length (O.P.map fun o => .pointer (optp o)) := by
  obtain ⟨h1, h2⟩ := h.row
  refine ⟨h1, ?_⟩
  rcases h2 with h2 | ⟨g, cap, cur, hv, hz, hg, r⟩
  · exact .inl h2
  · have hgo : O.all.ownBlock = some g := by rw [hv]; rfl
    exact .inr ⟨g, cap, cur, hv, hz, by rw [hk.block g (h.own_lt (.inr (.inl hgo))) (hS g hgo)]; exact hg, r⟩
theorem retag_ord {w : World} {O : Ord} (h : Inv w O) {l r : List Grp} {g : Grp} (e : O.gs = l ++ g :: r) (hmv : O.moves ≤ 1000000000000) :
    Calls Try.prog 37 #[.pointer (some ⟨O.lb, 0, none⟩), .pointer (some ⟨g.b, 0, none⟩)] w fun en w' => en = .returned (.tuple #[]) ∧
      ∃ mv, mv ≤ O.moves + g.ss.length ∧ Inv w' { O with gs := l ++ { g with ss := reminor g.ss } :: r, moves := mv } ∧ Kept O.own w w' := by
  have hG := h.group e
  have hgm : g ∈ O.gs := by rw [e]; simp
  have hap := h.wf.apart hgm
  have hL : g.ss.length ≤ 32 := by have := hG.2.1; simp [Grp.arr] at this; omega
  have hnd := h.wf.nodup
  rw [e] at hnd
  have hd : (foot l ++ (g.foot ++ foot r)).Nodup := by simpa using hnd
  have hdl := (List.nodup_append.1 hd).2.2
  have hd2 := (List.nodup_append.1 hd).2.1
  have hgr := (List.nodup_append.1 hd2).2.2
  have hgn := (List.nodup_append.1 hd2).1
  refine (retag_of w O.lb g _ _ (headB none O.gs) O.gs.length O.moves O.all (stampsOf O.gs).length hG hap h.list hmv).mono ?_
  rintro _ w' ⟨rfl, hr⟩
  obtain ⟨mv, h1, h2⟩ := hr.list
  have hsf : ∀ s, s ∈ g.ss → s.b ∈ g.foot := fun s hs => by simp only [Grp.foot, List.mem_cons, List.mem_map]; exact .inr ⟨s, hs, rfl⟩
  have hoth : ∀ b, b ∈ foot O.gs → (∀ s, s ∈ g.ss → s.b ≠ b) → w'.heap[b]? = w.heap[b]? := fun b hb hn => hr.kept.block b (h.own_lt (.inr (.inr hb))) (by
    rintro (e1 | ⟨s, hs, e1⟩)
    · exact h.lb_foot (e1 ▸ hb)
    · exact hn s hs e1)
  have hfoot : foot (l ++ { g with ss := reminor g.ss } :: r) = foot O.gs := by
    rw [e]
    simp only [foot_append, foot_cons, Grp.foot, core_blocks (reminor_core g.ss)]
  have hcore : (stampsOf (l ++ { g with ss := reminor g.ss } :: r)).map Stp.core = (stampsOf O.gs).map Stp.core := by
    rw [e]
    simp only [stampsOf_append, stampsOf_cons, List.map_append, reminor_core]
  have hset : ((l ++ { g with ss := reminor g.ss } :: r).map (·.tag)) = O.gs.map (·.tag) := by rw [e]; simp
  have hlen : (stampsOf (l ++ { g with ss := reminor g.ss } :: r)).length = (stampsOf O.gs).length := by have := congrArg List.length hcore; simpa using this
  have hgm2 : ∀ y, y ∈ l ++ { g with ss := reminor g.ss } :: r → y = { g with ss := reminor g.ss } ∨ y ∈ O.gs := by
    intro y hy
    rw [e]
    rcases List.mem_append.1 hy with hy | hy
    · exact .inr (List.mem_append.2 (.inl hy))
    · rcases List.mem_cons.1 hy with hy | hy
      · exact .inl hy
      · exact .inr (List.mem_append.2 (.inr (List.mem_cons_of_mem _ hy)))
  have hwf : Wf { O with gs := l ++ { g with ss := reminor g.ss } :: r, moves := mv } := by
    refine h.wf.of_shape rfl hcore ?_ ?_ ?_ ?_ ?_ ?_ ?_
    · intro y hy
      rcases hgm2 y hy with rfl | hy
      · intro e0
        have h3 : (reminor g.ss).length = 0 := by rw [show reminor g.ss = [] from e0]; rfl
        have h0 := List.length_pos_iff.2 (h.wf.full g hgm)
        rw [reminor_length] at h3
        omega
      · exact h.wf.full y hy
    · show (foot (l ++ { g with ss := reminor g.ss } :: r)).Nodup
      rw [hfoot]; exact h.wf.nodup
    · have : (O.gs.map (·.tag)).Pairwise (fun a b => a < b) := List.pairwise_map.2 h.wf.tags
      rw [← hset] at this
      exact List.pairwise_map.1 this
    · intro y hy
      rcases hgm2 y hy with rfl | hy
      · exact h.wf.tagLt g hgm
      · exact h.wf.tagLt y hy
    · intro y hy
      rcases hgm2 y hy with rfl | hy
      · exact reminor_pairwise (by omega)
      · exact h.wf.minors y hy
    · intro s hs
      have hs : s ∈ stampsOf (l ++ { g with ss := reminor g.ss } :: r) := hs
      rw [stampsOf_append, stampsOf_cons] at hs
      rcases List.mem_append.1 hs with hs | hs
      · exact h.wf.minorLt s (by rw [e]; simp [hs])
      · rcases List.mem_append.1 hs with hs | hs
        · exact reminor_lt (by omega) s hs
        · exact h.wf.minorLt s (by rw [e]; simp [hs])
    · intro y hy v hv
      rcases hgm2 y hy with rfl | hy
      · exact h.wf.ones g hgm v hv
      · exact h.wf.ones y hy v hv
  have hhead : headB none (l ++ { g with ss := reminor g.ss } :: r) = headB none O.gs := by rw [e]; cases l <;> rfl
  refine ⟨rfl, mv, h1, ⟨?_, ?_, ?_, hwf⟩, ?_⟩
  · show w'.heap[O.lb]? = _
    rw [hhead, hlen, h2]
    have : (l ++ { g with ss := reminor g.ss } :: r).length = O.gs.length := by rw [e]; simp
    rw [this]
  · refine h.ownRow hr.kept ?_
    rintro k hk (e1 | ⟨s, hs, e1⟩)
    · exact (h.ab_foot hk).2 e1
    · refine (h.ab_foot hk).1 ?_
      rw [← e1, e]
      simp only [foot_append, foot_cons, List.mem_append]
      exact .inr (.inl (hsf s hs))
  · show Seg w' none (l ++ { g with ss := reminor g.ss } :: r) none
    have hseg := h.seg
    rw [e, seg_append] at hseg
    rw [seg_append]
    refine ⟨?_, ⟨?_, ?_, ?_⟩, ?_⟩
    · refine seg_frame hseg.1 (fun k hk => hoth k (by rw [e]; simp [hk]) (fun s hs e1 => hdl k hk s.b (by simp only [List.mem_append]; exact .inl (hsf s hs)) e1.symm))
    · show w'.heap[g.b]? = some (groupObj g.tag (reminor g.ss).length ((reminor g.ss).map (fun s => ptr s.b) ++ g.rest) (lastB none l) (headB none r))
      rw [reminor_length, show (reminor g.ss).map (fun s => ptr s.b) = ((reminor g.ss).map (·.b)).map ptr from by simp, core_blocks (reminor_core g.ss)]
      rw [hoth g.b (mem_foot_group hgm) (fun s hs e1 => (List.nodup_cons.1 hgn).1 (by rw [← e1]; exact List.mem_map.2 ⟨s, hs, rfl⟩))]
      rw [hG.1]
      simp [Grp.arr, Function.comp_def]
    · show ((reminor g.ss).map (fun s => ptr s.b) ++ g.rest).length = 32
      have := hG.2.1
      simpa [Grp.arr] using this
    · intro s hs
      obtain ⟨j, hj, hs'⟩ := List.getElem_of_mem (show s ∈ reminor g.ss from hs)
      obtain ⟨t, h3, rfl⟩ := reminor_inv (List.getElem?_eq_some_iff.2 ⟨hj, hs'⟩)
      have := hr.stamps j t h3
      rw [if_pos (List.getElem?_eq_some_iff.1 h3).1] at this
      exact this
    · refine seg_frame hseg.2.2 (fun k hk => hoth k (by rw [e]; simp [hk]) (fun s hs e1 => hgr s.b (hsf s hs) k hk e1))
  · refine hr.kept.mono (fun x _ hx => ?_)
    rcases hx with hx | ⟨s, hs, hx⟩
    · exact .inl hx
    · refine .inr (.inr ?_)
      rw [← hx, e]
      simp only [foot_append, foot_cons, List.mem_append]
      exact .inr (.inl (hsf s hs))

/-- What split does to the order. -/
structure Splits (O O1 : Ord) (l : List Grp) (g : Grp) (r l' : List Grp) (g' g1 h1 : Grp) (r' : List Grp) (mv : Nat) : Prop where
  lb : O1.lb = O.lb
  all : O1.all = O.all
  P : O1.P = O.P
  gs : O1.gs = l' ++ g1 :: h1 :: r'
  s1 : g1.ss = reminor (g.ss.take 16)
  s2 : h1.ss = reminor (g.ss.drop 16)
  b1 : g1.b = g.b
  t1 : g1.tag = g'.tag
  t2 : h1.tag = g'.tag + (high r' - g'.tag) / 2
  cl : l'.map Grp.core = l.map Grp.core
  cr : r'.map Grp.core = r.map Grp.core
  moves : O1.moves ≤ mv + 48
  turned : Turned O.gs O.moves l g r l' g' r' mv
theorem split_ord {w : World} {O : Ord} (h : Inv w O) {l r : List Grp} {g : Grp} (e : O.gs = l ++ g :: r) (h32 : g.ss.length = 32) (hmv : O.moves ≤ 800000000000) :
    Calls Try.prog 35 #[.pointer (some ⟨O.lb, 0, none⟩), .pointer (some ⟨g.b, 0, none⟩)] w fun en w' => en = .returned (.tuple #[]) ∧
      ∃ O1 l' g' g1 h1 r' mv, Inv w' O1 ∧ Kept O.own w w' ∧ w.heap.size ≤ h1.b ∧ Splits O O1 l g r l' g' g1 h1 r' mv := by
  have hG := h.group e
  have hgm : g ∈ O.gs := by rw [e]; simp
  have hap := h.wf.apart hgm
  have hrest : g.rest = [] := by have := hG.2.1; simp [Grp.arr] at this; exact List.length_eq_zero_iff.1 (by omega)
  have hgl := h.wf.groups_le
  refine (split_walk w O.lb g.b g.ss (headB none O.gs) (O.gs.length + 1) O.all (stampsOf O.gs).length
    (fun hb tag t pv nx mv W => ∃ l' g' r', Afters w W O.lb l' g' r' (headB none O.gs) O.gs.length mv O.all (stampsOf O.gs).length t hb ∧ g'.core = g.core ∧ (l' ++ g' :: r').map Grp.core = O.gs.map Grp.core ∧
      Turned O.gs O.moves l g r l' g' r' mv ∧ tag = g'.tag ∧ t = g'.tag + (high r' - g'.tag) / 2 ∧ pv = lastB none l' ∧ nx = headB none r') h32 hap ?_).mono ?_
  · refine (after_ord h e (by omega)).mono ?_
    rintro _ W ⟨hb, l', g', r', mv, rfl, ha, hc, hcs, ht⟩
    have hGW := (seg_append.1 ha.seg).2
    have hss : g'.ss = g.ss := congrArg (fun c : Nat × List Stp × List Value => c.2.1) hc
    have hre : g'.rest = g.rest := congrArg (fun c : Nat × List Stp × List Value => c.2.2) hc
    have hbb : g'.b = g.b := congrArg (fun c : Nat × List Stp × List Value => c.1) hc
    have hmv2 : mv ≤ 900000000000 := by rcases ht with ⟨_, _, _, h4, _⟩ | ⟨_, _, h4, _⟩ <;> omega
    refine ⟨hb, g'.tag, g'.tag + (high r' - g'.tag) / 2, lastB none l', headB none r', mv, rfl, hmv2, ⟨?_, ?_, ha.list, ?_, ?_⟩, l', g', r', ha, hc, hcs, ht, rfl, rfl, rfl, rfl⟩
    · have := hGW.1.1
      rw [hbb, hss, h32] at this
      simp only [Grp.arr, hss, hre, hrest, List.append_nil] at this
      exact this
    · have := hGW.2.1.1
      simp only [Grp.arr, List.map_nil, List.nil_append, List.length_nil, hbb] at this
      exact this
    · intro j s hs
      have := hGW.1.2.2 s (by rw [hss]; exact List.mem_of_getElem? hs)
      rw [hbb] at this
      exact this
    · have := ha.new
      have := heap_lt hG.1
      omega
  · rintro _ w' ⟨rfl, hb, tag, t, pv, nx, mv, W, ⟨l', g', r', ha, hc, hcs, ht, rfl, rfl, rfl, rfl⟩, hh⟩
    have hss : g'.ss = g.ss := congrArg (fun c : Nat × List Stp × List Value => c.2.1) hc
    have hbb : g'.b = g.b := congrArg (fun c : Nat × List Stp × List Value => c.1) hc
    obtain ⟨mv', hm1, hm2⟩ := hh.L
    have hlen1 : (g.ss.take 16).length = 16 := by simp [h32]
    have hlen2 : (g.ss.drop 16).length = 16 := by simp [h32]
    have hcl : l'.map Grp.core = l.map Grp.core ∧ r'.map Grp.core = r.map Grp.core := by
      have hlen : l'.length = l.length := by
        rcases ht with ⟨h4, _⟩ | ⟨_, h4, _⟩
        · rw [h4]
        · exact h4
      rw [e, List.map_append, List.map_append] at hcs
      have := List.append_inj hcs (by simp [hlen])
      refine ⟨this.1, ?_⟩
      have h2 := this.2
      simp only [List.map_cons, List.cons.injEq] at h2
      exact h2.2
    have hfoot : foot (l' ++ g' :: r') = foot O.gs := core_foot hcs
    have hlt : ∀ k, k ∈ foot (l' ++ g' :: r') → k < w.heap.size ∧ k ≠ O.lb := fun k hk => by
      rw [hfoot] at hk
      exact ⟨h.own_lt (.inr (.inr hk)), fun e1 => h.lb_foot (e1 ▸ hk)⟩
    have hnd : (foot l' ++ (g'.foot ++ foot r')).Nodup := by
      have := h.wf.nodup
      rw [← hfoot] at this
      simpa using this
    have hdl := (List.nodup_append.1 hnd).2.2
    have hd2 := (List.nodup_append.1 hnd).2.1
    have hgr := (List.nodup_append.1 hd2).2.2
    have hsf : ∀ s, s ∈ g.ss → s.b ∈ g'.foot := fun s hs => by simp only [Grp.foot, List.mem_cons, List.mem_map]; exact .inr ⟨s, by rw [hss]; exact hs, rfl⟩
    have hgf : g.b ∈ g'.foot := by simp [Grp.foot, hbb]
    have hfg : ∀ x, x ∈ g'.foot → x ∈ foot O.gs := fun x hx => by rw [← hfoot]; simp [hx]
    have hnew := ha.new
    have hoth : ∀ k, k ∈ foot (l' ++ g' :: r') → k ∉ g'.foot → w'.heap[k]? = W.heap[k]? := fun k hk hn => hh.kept.block k (by have := ha.kept.size; have := (hlt k hk).1; omega) (by
      rintro (e1 | e1 | e1 | ⟨s, hs, e1⟩)
      · exact hn (e1 ▸ hgf)
      · have := (hlt k hk).1; omega
      · exact (hlt k hk).2 e1
      · exact hn (e1 ▸ hsf s hs))
    have hW := seg_append.1 ha.seg
    have hseg : Seg w' none (l' ++ ⟨g.b, g'.tag, reminor (g.ss.take 16), List.replicate 16 (.pointer none)⟩ :: ⟨hb, g'.tag + (high r' - g'.tag) / 2, reminor (g.ss.drop 16), List.replicate 16 (.pointer none)⟩ :: r') none := by
      rw [seg_append]
      refine ⟨?_, ⟨?_, ?_, ?_⟩, ⟨?_, ?_, ?_⟩, ?_⟩
      · have := hW.1
        simp only [headB, hbb] at this ⊢
        exact seg_frame this (fun k hk => hoth k (by simp [hk]) (fun hn => hdl k hk k (by simp [hn]) rfl))
      · show w'.heap[g.b]? = some (groupObj g'.tag (reminor (g.ss.take 16)).length ((reminor (g.ss.take 16)).map (fun s => ptr s.b) ++ List.replicate 16 (.pointer none)) (lastB none l') (some hb))
        rw [reminor_length, hlen1, show (reminor (g.ss.take 16)).map (fun s => ptr s.b) = ((reminor (g.ss.take 16)).map (·.b)).map ptr from by simp [Function.comp_def], core_blocks (reminor_core _), hh.G]
        simp [Function.comp_def]
      · simp [Grp.arr, h32]
      · intro s hs
        obtain ⟨j, hj, hs'⟩ := List.getElem_of_mem (show s ∈ reminor (g.ss.take 16) from hs)
        obtain ⟨t, h3, rfl⟩ := reminor_inv (List.getElem?_eq_some_iff.2 ⟨hj, hs'⟩)
        rw [hlen1]
        exact hh.S1 j t (take_some h3).1 (take_some h3).2
      · show w'.heap[hb]? = some (groupObj _ (reminor (g.ss.drop 16)).length ((reminor (g.ss.drop 16)).map (fun s => ptr s.b) ++ List.replicate 16 (.pointer none)) (some g.b) (headB none r'))
        rw [reminor_length, hlen2, show (reminor (g.ss.drop 16)).map (fun s => ptr s.b) = ((reminor (g.ss.drop 16)).map (·.b)).map ptr from by simp [Function.comp_def], core_blocks (reminor_core _), hh.H]
        simp [Function.comp_def]
      · simp [Grp.arr, h32]
      · intro s hs
        obtain ⟨j, hj, hs'⟩ := List.getElem_of_mem (show s ∈ reminor (g.ss.drop 16) from hs)
        obtain ⟨t, h3, rfl⟩ := reminor_inv (List.getElem?_eq_some_iff.2 ⟨hj, hs'⟩)
        rw [hlen2]
        exact hh.S2 j t (by rw [← ss_drop]; exact h3)
      · exact seg_frame hW.2.2.2 (fun k hk => hoth k (by simp [hk]) (fun hn => hgr k hn k hk rfl))
    have hcore : (stampsOf (l' ++ (⟨g.b, g'.tag, reminor (g.ss.take 16), List.replicate 16 (.pointer none)⟩ : Grp) :: (⟨hb, g'.tag + (high r' - g'.tag) / 2, reminor (g.ss.drop 16), List.replicate 16 (.pointer none)⟩ : Grp) :: r')).map Stp.core = (stampsOf O.gs).map Stp.core := by
      rw [← core_stamps hcs]
      simp only [stampsOf_append, stampsOf_cons, List.map_append, reminor_core, hss]
      rw [← List.append_assoc (List.map Stp.core (g.ss.take 16)), ← List.map_append, List.take_append_drop]
    have hlenS := congrArg List.length hcore
    simp only [List.length_map] at hlenS
    have hlens : (l' ++ g' :: r').length = O.gs.length := by have := congrArg List.length hcs; simpa using this
    have hpw : (l' ++ g' :: r').Pairwise (fun g h => g.tag < h.tag) ∧ ∀ x, x ∈ l' ++ g' :: r' → x.tag < space := by
      rcases ht with ⟨rfl, rfl, rfl, _, _⟩ | ⟨h4, _⟩
      · rw [← e]; exact ⟨h.wf.tags, h.wf.tagLt⟩
      · rw [h4]; exact ⟨spread_pairwise hgl, spread_lt hgl⟩
    have hth := tag_high hpw.1 hpw.2
    have hgap : 2 ≤ high r' - g'.tag := by
      rcases ht with ⟨rfl, rfl, rfl, _, h5⟩ | ⟨h4, h5, _, _⟩
      · exact h5
      · have hn2 : 2 ≤ 1099511627776 / (O.gs.length + 1) := (Nat.le_div_iff_mul_le (by omega)).2 (by omega)
        have hg' : g'.tag = tagOf O.gs.length l'.length := by
          have h6 : (spreadGs O.gs)[l'.length]? = some g' := by rw [← h4]; simp
          simp only [spreadGs, List.getElem?_mapIdx, Option.map_eq_some_iff] at h6
          obtain ⟨y, _, rfl⟩ := h6
          rfl
        cases r' with
        | nil =>
          show 2 ≤ space - g'.tag
          have h7 : l'.length + 1 = O.gs.length := by rw [← hlens]; simp
          have h8 : (O.gs.length + 1) * (1099511627776 / (O.gs.length + 1)) ≤ 1099511627776 := Nat.mul_div_le _ _
          rw [hg']; unfold tagOf space
          rw [h7]
          rw [Nat.add_mul] at h8
          omega
        | cons y r' =>
          show 2 ≤ y.tag - g'.tag
          have hy' : y.tag = tagOf O.gs.length (l'.length + 1) := by
            have h6 : (spreadGs O.gs)[l'.length + 1]? = some y := by rw [← h4, List.getElem?_append_right (by omega)]; simp
            simp only [spreadGs, List.getElem?_mapIdx, Option.map_eq_some_iff] at h6
            obtain ⟨z, _, rfl⟩ := h6
            rfl
          rw [hg', hy']; unfold tagOf
          rw [Nat.add_mul (l'.length + 1) 1]
          omega
    have hwf : Wf { O with gs := l' ++ (⟨g.b, g'.tag, reminor (g.ss.take 16), List.replicate 16 (.pointer none)⟩ : Grp) :: (⟨hb, g'.tag + (high r' - g'.tag) / 2, reminor (g.ss.drop 16), List.replicate 16 (.pointer none)⟩ : Grp) :: r', moves := mv' } := by
      have hmemO : ∀ x, (x ∈ l' ∨ x ∈ r') → ∃ y, y ∈ O.gs ∧ y.ss = x.ss := by
        intro x hx
        have : x.core ∈ O.gs.map Grp.core := by
          rw [← hcs]
          rcases hx with hx | hx <;> exact List.mem_map.2 ⟨x, by simp [hx], rfl⟩
        obtain ⟨y, hy, e1⟩ := List.mem_map.1 this
        exact ⟨y, hy, congrArg (fun c : Nat × List Stp × List Value => c.2.1) e1⟩
      refine h.wf.of_shape rfl hcore ?_ ?_ ?_ ?_ ?_ ?_ ?_
      · intro x hx
        have hx : x ∈ l' ++ (⟨g.b, g'.tag, reminor (g.ss.take 16), List.replicate 16 (.pointer none)⟩ : Grp) :: (⟨hb, g'.tag + (high r' - g'.tag) / 2, reminor (g.ss.drop 16), List.replicate 16 (.pointer none)⟩ : Grp) :: r' := hx
        simp only [List.mem_append, List.mem_cons] at hx
        rcases hx with hx | rfl | rfl | hx
        · obtain ⟨y, hy, e1⟩ := hmemO x (.inl hx)
          rw [← e1]; exact h.wf.full y hy
        · exact List.length_pos_iff.1 (by rw [reminor_length, hlen1]; omega)
        · exact List.length_pos_iff.1 (by rw [reminor_length, hlen2]; omega)
        · obtain ⟨y, hy, e1⟩ := hmemO x (.inr hx)
          rw [← e1]; exact h.wf.full y hy
      · show (foot (l' ++ (⟨g.b, g'.tag, reminor (g.ss.take 16), List.replicate 16 (.pointer none)⟩ : Grp) :: (⟨hb, g'.tag + (high r' - g'.tag) / 2, reminor (g.ss.drop 16), List.replicate 16 (.pointer none)⟩ : Grp) :: r')).Nodup
        have hb' : hb ∉ foot (l' ++ g' :: r') := fun hk => by have := (hlt hb hk).1; omega
        have hp : (foot (l' ++ (⟨g.b, g'.tag, reminor (g.ss.take 16), List.replicate 16 (.pointer none)⟩ : Grp) :: (⟨hb, g'.tag + (high r' - g'.tag) / 2, reminor (g.ss.drop 16), List.replicate 16 (.pointer none)⟩ : Grp) :: r')).Perm (hb :: foot (l' ++ g' :: r')) := by
          simp only [foot_append, foot_cons, Grp.foot, core_blocks (reminor_core _), hss, hbb]
          have hm : (g.ss.map (·.b)) = (g.ss.take 16).map (·.b) ++ (g.ss.drop 16).map (·.b) := by rw [← List.map_append, List.take_append_drop]
          rw [hm]
          have hp1 : ((g.ss.take 16).map (·.b) ++ (hb :: ((g.ss.drop 16).map (·.b) ++ foot r'))).Perm (hb :: ((g.ss.take 16).map (·.b) ++ ((g.ss.drop 16).map (·.b) ++ foot r'))) := List.perm_middle
          have hp2 := (hp1.cons g.b).trans (List.Perm.swap _ _ _)
          have hp3 := (hp2.append_left (foot l')).trans List.perm_middle
          simp only [List.append_assoc, List.cons_append] at hp3 ⊢
          exact hp3
        exact hp.nodup_iff.2 (List.nodup_cons.2 ⟨hb', by rw [hfoot]; exact h.wf.nodup⟩)
      · have hp := hpw.1
        show (l' ++ (⟨g.b, g'.tag, reminor (g.ss.take 16), List.replicate 16 (.pointer none)⟩ : Grp) :: (⟨hb, g'.tag + (high r' - g'.tag) / 2, reminor (g.ss.drop 16), List.replicate 16 (.pointer none)⟩ : Grp) :: r').Pairwise (fun g h => g.tag < h.tag)
        rw [List.pairwise_append, List.pairwise_cons] at hp
        rw [List.pairwise_append, List.pairwise_cons, List.pairwise_cons]
        have hhr : ∀ y, y ∈ r' → high r' ≤ y.tag := by
          intro y hy
          cases r' with
          | nil => simp at hy
          | cons z r' =>
            rcases List.mem_cons.1 hy with rfl | hy
            · exact Nat.le_refl _
            · exact Nat.le_of_lt ((List.pairwise_cons.1 hp.2.1.2).1 y hy)
        refine ⟨hp.1, ⟨?_, ?_, hp.2.1.2⟩, ?_⟩
        · intro y hy
          rcases List.mem_cons.1 hy with rfl | hy
          · show g'.tag < g'.tag + (high r' - g'.tag) / 2; omega
          · exact hp.2.1.1 y hy
        · intro y hy
          have := hhr y hy
          show g'.tag + (high r' - g'.tag) / 2 < y.tag; omega
        · intro x hx y hy
          have hxg := hp.2.2 x hx g' (by simp)
          rcases List.mem_cons.1 hy with rfl | hy
          · exact hxg
          · rcases List.mem_cons.1 hy with rfl | hy
            · show x.tag < g'.tag + (high r' - g'.tag) / 2; omega
            · exact hp.2.2 x hx y (by simp [hy])
      · intro x hx
        have hx : x ∈ l' ++ (⟨g.b, g'.tag, reminor (g.ss.take 16), List.replicate 16 (.pointer none)⟩ : Grp) :: (⟨hb, g'.tag + (high r' - g'.tag) / 2, reminor (g.ss.drop 16), List.replicate 16 (.pointer none)⟩ : Grp) :: r' := hx
        simp only [List.mem_append, List.mem_cons] at hx
        have hhs : high r' ≤ space := by
          cases r' with
          | nil => exact Nat.le_refl _
          | cons z r' => exact Nat.le_of_lt (hpw.2 z (by simp))
        rcases hx with hx | rfl | rfl | hx
        · exact hpw.2 x (by simp [hx])
        · exact hpw.2 g' (by simp)
        · show g'.tag + (high r' - g'.tag) / 2 < space; omega
        · exact hpw.2 x (by simp [hx])
      · intro x hx
        have hx : x ∈ l' ++ (⟨g.b, g'.tag, reminor (g.ss.take 16), List.replicate 16 (.pointer none)⟩ : Grp) :: (⟨hb, g'.tag + (high r' - g'.tag) / 2, reminor (g.ss.drop 16), List.replicate 16 (.pointer none)⟩ : Grp) :: r' := hx
        simp only [List.mem_append, List.mem_cons] at hx
        rcases hx with hx | rfl | rfl | hx
        · obtain ⟨y, hy, e1⟩ := hmemO x (.inl hx)
          rw [← e1]; exact h.wf.minors y hy
        · exact reminor_pairwise (by omega)
        · exact reminor_pairwise (by omega)
        · obtain ⟨y, hy, e1⟩ := hmemO x (.inr hx)
          rw [← e1]; exact h.wf.minors y hy
      · intro s hs
        have hs : s ∈ stampsOf (l' ++ (⟨g.b, g'.tag, reminor (g.ss.take 16), List.replicate 16 (.pointer none)⟩ : Grp) :: (⟨hb, g'.tag + (high r' - g'.tag) / 2, reminor (g.ss.drop 16), List.replicate 16 (.pointer none)⟩ : Grp) :: r') := hs
        simp only [stampsOf_append, stampsOf_cons, List.mem_append] at hs
        have hO : ∀ s, (s ∈ stampsOf l' ∨ s ∈ stampsOf r') → s ∈ stampsOf O.gs := by
          intro s hs
          rw [← core_stamps hcs]
          simp only [stampsOf_append, stampsOf_cons, List.mem_append]
          rcases hs with hs | hs
          · exact .inl hs
          · exact .inr (.inr hs)
        rcases hs with hs | hs | hs | hs
        · exact h.wf.minorLt s (hO s (.inl hs))
        · exact reminor_lt (by omega) s hs
        · exact reminor_lt (by omega) s hs
        · exact h.wf.minorLt s (hO s (.inr hs))
      · intro x hx v hv
        have hx : x ∈ l' ++ (⟨g.b, g'.tag, reminor (g.ss.take 16), List.replicate 16 (.pointer none)⟩ : Grp) :: (⟨hb, g'.tag + (high r' - g'.tag) / 2, reminor (g.ss.drop 16), List.replicate 16 (.pointer none)⟩ : Grp) :: r' := hx
        have hmemR : ∀ x, (x ∈ l' ∨ x ∈ r') → ∃ y, y ∈ O.gs ∧ y.rest = x.rest := by
          intro x hx
          have : x.core ∈ O.gs.map Grp.core := by
            rw [← hcs]
            rcases hx with hx | hx <;> exact List.mem_map.2 ⟨x, by simp [hx], rfl⟩
          obtain ⟨y, hy, e1⟩ := List.mem_map.1 this
          exact ⟨y, hy, congrArg (fun c : Nat × List Stp × List Value => c.2.2) e1⟩
        simp only [List.mem_append, List.mem_cons] at hx
        rcases hx with hx | rfl | rfl | hx
        · obtain ⟨y, hy, e1⟩ := hmemR x (.inl hx)
          exact h.wf.ones y hy v (by rw [e1]; exact hv)
        · rw [List.eq_of_mem_replicate hv]; rfl
        · rw [List.eq_of_mem_replicate hv]; rfl
        · obtain ⟨y, hy, e1⟩ := hmemR x (.inr hx)
          exact h.wf.ones y hy v (by rw [e1]; exact hv)
    have hown : Kept O.own w w' := by
      have k1 : Kept O.own w W := ha.kept.mono (fun x _ hx => by
        rcases hx with hx | ⟨y, hy, hx⟩
        · exact .inl hx
        · exact .inr (.inr (by rw [← hx, ← hfoot]; exact mem_foot_group hy)))
      refine k1.trans hh.kept (fun x hx0 hx => ?_)
      rcases hx with hx | hx | hx | ⟨s, hs, hx⟩
      · exact .inr (.inr (by rw [hx]; exact hfg _ hgf))
      · omega
      · exact .inl hx
      · exact .inr (.inr (by rw [← hx]; exact hfg _ (hsf s hs)))
    have hhead : headB none (l' ++ (⟨g.b, g'.tag, reminor (g.ss.take 16), List.replicate 16 (.pointer none)⟩ : Grp) :: (⟨hb, g'.tag + (high r' - g'.tag) / 2, reminor (g.ss.drop 16), List.replicate 16 (.pointer none)⟩ : Grp) :: r') = headB none O.gs := by
      rw [← headB_bs none (core_bs hcs)]
      cases l' with
      | nil => simp [headB, hbb]
      | cons y l' => rfl
    refine ⟨rfl, _, l', g', _, _, r', mv, ⟨?_, ?_, hseg, hwf⟩, hown, hnew, ⟨rfl, rfl, rfl, rfl, rfl, rfl, rfl, rfl, rfl, hcl.1, hcl.2, hm1, ht⟩⟩
    · show w'.heap[O.lb]? = _
      rw [hhead, hlenS, hm2]
      have : (l' ++ (⟨g.b, g'.tag, reminor (g.ss.take 16), List.replicate 16 (.pointer none)⟩ : Grp) :: (⟨hb, g'.tag + (high r' - g'.tag) / 2, reminor (g.ss.drop 16), List.replicate 16 (.pointer none)⟩ : Grp) :: r').length = O.gs.length + 1 := by
        rw [← hlens]; simp; omega
      rw [this]
    · have hab := @Inv.ab_foot w O h
      obtain ⟨hr1, hr2⟩ := h.row
      refine ⟨hr1, ?_⟩
      rcases hr2 with hr2 | ⟨q, cap, cur, hv, hz, hg, hr⟩
      · exact .inl hr2
      · have hgo : O.all.ownBlock = some q := by rw [hv]; rfl
        have hq := hab hgo
        have hql := h.own_lt (.inr (.inl hgo))
        have hWq : W.heap[q]? = w.heap[q]? := ha.kept.block q hql (by
          rintro (e1 | ⟨y, hy, e1⟩)
          · exact hq.2 e1
          · exact hq.1 (by rw [← e1, ← hfoot]; exact mem_foot_group hy))
        have hw'q : w'.heap[q]? = W.heap[q]? := hh.kept.block q (by have := ha.kept.size; omega) (by
          rintro (e1 | e1 | e1 | ⟨s, hs, e1⟩)
          · exact hq.1 (by rw [e1]; exact hfg _ hgf)
          · omega
          · exact hq.2 e1
          · exact hq.1 (by rw [← e1]; exact hfg _ (hsf s hs)))
        exact .inr ⟨q, cap, cur, hv, hz, by rw [hw'q, hWq]; exact hg, hr⟩
end Go.Proofs.Ytijceljhpbdnnaa
