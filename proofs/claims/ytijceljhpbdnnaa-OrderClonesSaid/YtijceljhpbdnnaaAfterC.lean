/-
  after with the groups' tags spread. Conditions: each theorem's own hypotheses on memory.
-/
import Derived.Test.YtijceljhpbdnnaaAfterB
namespace Go.Proofs.Ytijceljhpbdnnaa
open Go.RowKit

/-- What the spread leaves. -/
structure Spreads (w w' : World) (lb gb : Nat) (gs gs' : List Grp) (first : Option Nat) (many moves : Nat) (all : Value) (nn mv : Nat) : Prop where
  kept : Kept (Stirs lb gs') w w'
  box : w'.cell? ⟨w.heap.size, 0, none⟩ = some (.pointer (some ⟨gb, 0, none⟩))
  size : w.heap.size + 2 ≤ w'.heap.size
  seg : Seg w' none gs' none
  moves : mv ≤ moves + gs.length
  list : w'.heap[lb]? = some (listObj first many mv all nn)
theorem spreads (w W : World) (lb gb : Nat) (gs gs' : List Grp) (first : Option Nat) (many moves : Nat) (all : Value) (nn : Nat) (rb cap : Nat) (cur : Array Value)
    (hS : Seg w none gs none) (nd : (foot gs).Nodup) (hl : w.heap[lb]? = some (listObj first many moves all nn)) (hG : Gathered w W gb gs rb cur) (e : gs' = spreadGs gs)
    (hmv : moves ≤ 1000000000000) (hlen : gs.length ≤ 100000) (hlt : ∀ g, g ∈ gs → g.b < w.heap.size) :
    Calls Try.prog 54 #[.pointer (some ⟨lb, 0, none⟩), .int .i64 gs.length, .func (.func 60) #[] #[.pointer (some ⟨W.heap.size, 0, none⟩)]] (W.alloc (.cells #[.slice (some ⟨rb, 0, none⟩) gs.length cap] 106))
      fun e w' => e = .returned (.tuple #[]) ∧ ∃ mv, Spreads w w' lb gb gs gs' first many moves all nn mv := by
  have hS' : Seg (W.alloc (.cells #[.slice (some ⟨rb, 0, none⟩) gs.length cap] 106)) none gs none :=
    seg_frame hS (fun k hk => by have hk' := seg_lt hS k hk; rw [Below.heap_alloc _ _ _ (by have := hG.size; omega), hG.kept.block k hk' (fun h => h)])
  have hl' : (W.alloc (.cells #[.slice (some ⟨rb, 0, none⟩) gs.length cap] 106)).heap[lb]? = some (listObj first many moves all nn) :=
    heap_alloc_old _ (by rw [hG.kept.block lb (heap_lt hl) (fun h => h)]; exact hl)
  have hll := heap_lt hl
  refine (spread60 _ lb W.heap.size rb cap gs cur first many moves all nn hS' (gapart_of nd) hl' (heap_alloc_at _ _) (heap_alloc_old _ hG.rb) hG.cur hmv hlen).mono ?_
  rintro _ w' ⟨rfl, h⟩
  have hsz := h.kept.size
  have hsz2 := hG.size
  rw [World.size_alloc] at hsz
  obtain ⟨mv, h1, h2⟩ := h.list
  have hbs : ∀ b, (∃ g, g ∈ gs ∧ g.b = b) → ∃ g, g ∈ gs' ∧ g.b = b := by
    rintro b ⟨g, hg, rfl⟩
    have : g.b ∈ gs'.map (·.b) := by rw [e, core_bs (core_spread gs)]; exact List.mem_map.2 ⟨g, hg, rfl⟩
    obtain ⟨g', h', e'⟩ := List.mem_map.1 this
    exact ⟨g', h', e'⟩
  refine ⟨rfl, mv, ⟨?_, ?_, by omega, by rw [e]; exact h.seg hS' nd hl', h1, h2⟩⟩
  · have k1 : Kept (Stirs lb gs') w (W.alloc (.cells #[.slice (some ⟨rb, 0, none⟩) gs.length cap] 106)) := (hG.kept.mono (fun _ _ h => h.elim)).alloc _
    exact k1.trans h.kept (fun x _ hx => hx.elim .inl (fun y => .inr (hbs x y)))
  · have hb : w'.heap[w.heap.size]? = some (.cells #[.pointer (some ⟨gb, 0, none⟩)] 61 (0, 0)) := by
      rw [h.kept.block _ (by rw [World.size_alloc]; omega)]
      · exact heap_alloc_old _ hG.box
      · rintro (e | ⟨g, hg, e⟩)
        · omega
        · have := hlt g hg; omega
    rw [cell_of_block hb]; rfl

set_option maxHeartbeats 2000000 in
set_option maxRecDepth 100000 in
theorem after_sp_last (w : World) (lb : Nat) (gs : List Grp) (gb : Nat) (l' : List Grp) (g' : Grp) (t0 t : Nat) (b2 : Bool) (first : Option Nat) (many moves : Nat) (all : Value) (nn : Nat)
    (hroom : Calls Try.prog 58 #[.pointer (some ⟨w.heap.size, 0, none⟩)] (gbox w gb) fun e w' => e = .returned (.tuple #[.int .i64 t0, .bool false]) ∧ ∃ m, w' = (gbox w gb).drewN m)
    (hroom2 : ∀ W : World, W.cell? ⟨w.heap.size, 0, none⟩ = some (.pointer (some ⟨gb, 0, none⟩)) → Seg W none (l' ++ [g']) none →
      Calls Try.prog 58 #[.pointer (some ⟨w.heap.size, 0, none⟩)] W fun e w' => e = .returned (.tuple #[.int .i64 t, .bool b2]) ∧ ∃ m, w' = W.drewN m)
    (hS : Seg w none gs none) (nd : (foot gs).Nodup) (hl : w.heap[lb]? = some (listObj first many moves all nn)) (hr : Reads gs lb w) (hm : many < 1000000000)
    (e : l' ++ [g'] = spreadGs gs) (eb : g'.b = gb) (hne0 : gs ≠ []) (hmv : moves ≤ 1000000000000) (hlen : gs.length ≤ 100000) :
    Calls Try.prog 52 #[.pointer (some ⟨lb, 0, none⟩), .pointer (some ⟨gb, 0, none⟩)] w fun e w' => ∃ hb mv, e = .returned (.pointer (some ⟨hb, 0, none⟩)) ∧ mv ≤ moves + gs.length ∧ Afters w w' lb l' g' [] first many mv all nn t hb := by
  have hnd' : (foot (l' ++ [g'])).Nodup := by rw [e, core_foot (core_spread _)]; exact nd
  have hlt : ∀ x, x ∈ gs → x.b < w.heap.size := fun x hx => seg_lt hS _ (mem_foot_group hx)
  have hcol := fun m : Nat => gather w lb gb gs m hr (heap_lt hl) hlt hlen hne0
  have hspr := fun W rb cap cur hG => spreads w W lb gb gs (l' ++ [g']) first many moves all nn rb cap cur hS nd hl hG e hmv hlen hlt
  have Hr := Lib.hid hroom
  have Hr2 := Lib.hid hroom2
  have Hc := Lib.hid hcol
  have Hp := Lib.hid hspr
  have HN := Lib.hid hnd'
  clear hroom hroom2 hcol hspr nd hS hr hnd' hl
  have HB := Lib.hid eb
  clear eb
  go_enter Try.func52, Try.ntmps52
  go_wp2_with (go_at_call 58; refine Hr.out.mono ?_; rintro e w' ⟨rfl, m, rfl⟩)
  go_wp2_with fail
  refine (groups_mk lb _).mono ?_
  rintro e w' ⟨rfl, rfl⟩
  go_wp2_with fail
  refine (Hc.out m).mono ?_
  rintro _ W ⟨rb, cap, cur, rfl, hG⟩
  have HG := Lib.hid hG
  clear hG
  go_wp2_with fail
  refine (Hp.out W rb cap cur HG.out).mono ?_
  rintro _ W2 ⟨rfl, mv, hs⟩
  have HZ := Lib.hid hs
  clear hs
  go_wp2_with fail
  refine (Hr2.out W2 HZ.out.box HZ.out.seg).mono ?_
  rintro _ w' ⟨rfl, m2, rfl⟩
  have hs3 : Spreads w (W2.drewN m2) lb gb gs (l' ++ [g']) first many moves all nn mv := ⟨HZ.out.kept.drewN m2, HZ.out.box, HZ.out.size, seg_frame HZ.out.seg (fun _ _ => rfl), HZ.out.moves, HZ.out.list⟩
  clear HZ
  generalize W2.drewN m2 = W3 at hs3 ⊢
  have hGp := (seg_append.1 hs3.seg).2.1
  have c1 := group_c35 hGp.1 hGp.2.1
  have f1 := group_fr hGp.1 35
  have c2 := list_c1 hs3.list
  have f2 := list_fr hs3.list 1
  have hgl := heap_lt hGp.1
  have hll := heap_lt hs3.list
  have hne := ne_list_group hs3.list hGp.1
  have hz := hs3.size
  have hz1 : w.heap.size < W3.heap.size := by omega
  have c0 := hs3.box
  simp only [headB, optp_none, HB.out] at c1 f1 hgl hne
  have HZ := Lib.hid hs3
  clear hGp hs3
  generalize hbx : w.heap.size = bx at c0 hz1 ⊢
  have HX := Lib.hid hbx
  clear hbx hz
  go_wp2
  refine wp_region_tail 6 (by kernel_rfl) (by kernel_rfl) ?_
  simp only [List.take_succ_cons, List.take_zero, List.drop_succ_cons, List.drop_zero]
  repeat still_step
  refine wpStill_nil ?_
  go_wp2
  refine bodyPost_ret (results_tmp rfl _ _ _) rfl ⟨W3.heap.size, mv, rfl, HZ.out.moves, ?_⟩
  have hf := fin_last (t := t) (hb := W3.heap.size) HZ.out.kept.drew (seg_frame HZ.out.seg (fun _ _ => rfl)) HN.out HZ.out.list rfl
  rw [HB.out] at hf
  exact ⟨by rw [HX.out]; omega, hf.1, hf.2.1, hf.2.2⟩
set_option maxHeartbeats 2000000 in
set_option maxRecDepth 100000 in
theorem after_sp_next (w : World) (lb : Nat) (gs : List Grp) (gb : Nat) (l' : List Grp) (r' : List Grp) (g' x : Grp) (t0 t : Nat) (b2 : Bool) (first : Option Nat) (many moves : Nat) (all : Value) (nn : Nat)
    (hroom : Calls Try.prog 58 #[.pointer (some ⟨w.heap.size, 0, none⟩)] (gbox w gb) fun e w' => e = .returned (.tuple #[.int .i64 t0, .bool false]) ∧ ∃ m, w' = (gbox w gb).drewN m)
    (hroom2 : ∀ W : World, W.cell? ⟨w.heap.size, 0, none⟩ = some (.pointer (some ⟨gb, 0, none⟩)) → Seg W none (l' ++ g' :: x :: r') none →
      Calls Try.prog 58 #[.pointer (some ⟨w.heap.size, 0, none⟩)] W fun e w' => e = .returned (.tuple #[.int .i64 t, .bool b2]) ∧ ∃ m, w' = W.drewN m)
    (hS : Seg w none gs none) (nd : (foot gs).Nodup) (hl : w.heap[lb]? = some (listObj first many moves all nn)) (hr : Reads gs lb w) (hm : many < 1000000000)
    (e : l' ++ g' :: x :: r' = spreadGs gs) (eb : g'.b = gb) (hne0 : gs ≠ []) (hmv : moves ≤ 1000000000000) (hlen : gs.length ≤ 100000) :
    Calls Try.prog 52 #[.pointer (some ⟨lb, 0, none⟩), .pointer (some ⟨gb, 0, none⟩)] w fun e w' => ∃ hb mv, e = .returned (.pointer (some ⟨hb, 0, none⟩)) ∧ mv ≤ moves + gs.length ∧ Afters w w' lb l' g' (x :: r') first many mv all nn t hb := by
  have hnd' : (foot (l' ++ g' :: x :: r')).Nodup := by rw [e, core_foot (core_spread _)]; exact nd
  have hlt : ∀ x, x ∈ gs → x.b < w.heap.size := fun x hx => seg_lt hS _ (mem_foot_group hx)
  have hcol := fun m : Nat => gather w lb gb gs m hr (heap_lt hl) hlt hlen hne0
  have hspr := fun W rb cap cur hG => spreads w W lb gb gs (l' ++ g' :: x :: r') first many moves all nn rb cap cur hS nd hl hG e hmv hlen hlt
  have Hr := Lib.hid hroom
  have Hr2 := Lib.hid hroom2
  have Hc := Lib.hid hcol
  have Hp := Lib.hid hspr
  have HN := Lib.hid hnd'
  clear hroom hroom2 hcol hspr nd hS hr hnd' hl
  have HB := Lib.hid eb
  clear eb
  go_enter Try.func52, Try.ntmps52
  go_wp2_with (go_at_call 58; refine Hr.out.mono ?_; rintro e w' ⟨rfl, m, rfl⟩)
  go_wp2_with fail
  refine (groups_mk lb _).mono ?_
  rintro e w' ⟨rfl, rfl⟩
  go_wp2_with fail
  refine (Hc.out m).mono ?_
  rintro _ W ⟨rb, cap, cur, rfl, hG⟩
  have HG := Lib.hid hG
  clear hG
  go_wp2_with fail
  refine (Hp.out W rb cap cur HG.out).mono ?_
  rintro _ W2 ⟨rfl, mv, hs⟩
  have HZ := Lib.hid hs
  clear hs
  go_wp2_with fail
  refine (Hr2.out W2 HZ.out.box HZ.out.seg).mono ?_
  rintro _ w' ⟨rfl, m2, rfl⟩
  have hs3 : Spreads w (W2.drewN m2) lb gb gs (l' ++ g' :: x :: r') first many moves all nn mv := ⟨HZ.out.kept.drewN m2, HZ.out.box, HZ.out.size, seg_frame HZ.out.seg (fun _ _ => rfl), HZ.out.moves, HZ.out.list⟩
  clear HZ
  generalize W2.drewN m2 = W3 at hs3 ⊢
  have hGp := (seg_append.1 hs3.seg).2.1
  have hX := (seg_append.1 hs3.seg).2.2.1
  have c1 := group_c35 hGp.1 hGp.2.1
  have f3 := group_fr hX.1 34
  have c3 := group_c34 hX.1 hX.2.1
  have hxl := heap_lt hX.1
  have hne2 := ne_list_group hs3.list hX.1
  have hgx : g'.b ≠ x.b := by
    have hd : (foot l' ++ (g'.foot ++ (x.foot ++ foot r'))).Nodup := by simpa using HN.out
    intro e
    exact (List.nodup_append.1 (List.nodup_append.1 hd).2.1).2.2 g'.b (by simp [Grp.foot]) x.b (by simp [Grp.foot]) e
  have f1 := group_fr hGp.1 35
  have c2 := list_c1 hs3.list
  have f2 := list_fr hs3.list 1
  have hgl := heap_lt hGp.1
  have hll := heap_lt hs3.list
  have hne := ne_list_group hs3.list hGp.1
  have hz := hs3.size
  have hz1 : w.heap.size < W3.heap.size := by omega
  have c0 := hs3.box
  simp only [headB, optp_some, HB.out] at c1 c3 f1 hgl hne hgx
  have HZ := Lib.hid hs3
  clear hGp hX hs3
  generalize hbx : w.heap.size = bx at c0 hz1 ⊢
  have HX := Lib.hid hbx
  clear hbx hz
  go_wp2
  refine wp_region_tail 6 (by kernel_rfl) (by kernel_rfl) ?_
  simp only [List.take_succ_cons, List.take_zero, List.drop_succ_cons, List.drop_zero]
  repeat still_step
  refine wpStill_nil ?_
  go_wp2
  refine bodyPost_ret (results_tmp rfl _ _ _) rfl ⟨W3.heap.size, mv, rfl, HZ.out.moves, ?_⟩
  have hf := fin_next (t := t) (hb := W3.heap.size) HZ.out.kept.drew (seg_frame HZ.out.seg (fun _ _ => rfl)) HN.out HZ.out.list rfl
  rw [HB.out] at hf
  exact ⟨by rw [HX.out]; omega, hf.1, hf.2.1, hf.2.2⟩
end Go.Proofs.Ytijceljhpbdnnaa
