/-
  DERIVED. The reference's nodes and Trace. Condition: the events lie in memory with all their values.
-/
import Derived.Test.YtbhiaeciiphelaaGreatDoorTrP
import Derived.Test.YtbhiaeciiphelaaGreatDoorTrI
namespace Go.Proofs.YtbhiaeciiphelaaGreatDoor
open Go.RowKit
structure RefJ (w W : World) (tb e d : Nat) (A : Nat → Prop) (F : List ND) (v : Value) (xs : List Value) : Prop where
  kept : Kept (fun g => g = tb) w W
  row : W.ownsRow w.heap.size 114 13 v F.length xs
  nodes : NodeRow W (fun g => A g ∨ v.ownBlock = some g) e d F xs
theorem RefJ.more {w W Wf : World} {tb e d : Nat} {A : Nat → Prop} {F : List ND} {v v' : Value} {xs cs : List Value} {nd : ND} (h : RefJ w W tb e d A F v xs) (hA : A tb) (_hAl : ∀ g, A g → g < w.heap.size)
    (hk : Kept (fun g => g = tb ∨ v.ownBlock = some g) W Wf) (hrow : Wf.ownsRow w.heap.size 114 13 v' (F.length + 1) (xs ++ cs)) (hat : v'.ownBlock = v.ownBlock ∨ ∃ g, v'.ownBlock = some g ∧ W.heap.size ≤ g)
    (hcs : NodeCs Wf (fun g => A g ∨ v'.ownBlock = some g) e d nd cs) : RefJ w Wf tb e d A (F ++ [nd]) v' (xs ++ cs) := by
  refine ⟨Kept.trans h.kept hk (fun g hg hx => ?_), by rw [List.length_append]; exact hrow, NodeRow.last (L := F) (h.nodes.keep fun g o hg hn => ⟨hk.at hg fun hx => hn ?_, fun hx => hn ?_⟩) (fun k hk => ?_) hcs fun i u hi => ?_⟩
  · rcases hx with hx | hx
    · exact hx
    · have := (h.row.lt g hx).1; omega
  · rcases hx with rfl | hx
    · exact .inl hA
    · exact .inr hx
  · rcases hx with hx | hx
    · exact .inl hx
    · rcases hat with e | ⟨g', e, hg'⟩
      · exact .inr (e ▸ hx)
      · rw [e] at hx
        injection hx with hx
        subst hx
        have := heap_lt hg
        omega
  · rw [List.getElem?_append_left (by rw [h.row.1]; exact hk)]
  · rw [List.getElem?_append_right (by rw [h.row.1]; omega), h.row.1, show F.length * 13 + i - F.length * 13 = i by omega]
    exact hi
def atOf (W : World) (tb : Nat) : Nat := match W.cell? ⟨tb, 0, none⟩ with
  | some (.int _ i) => i.toNat
  | _ => 0
theorem atOf_is {W : World} {tb k : Nat} (h : W.heap[tb]? = some (.cells #[.int .i64 k] 3 (0, 0))) : atOf W tb = k := by
  have h1 := cell_of_block h 0
  simp at h1
  unfold atOf
  rw [h1]
  simp
theorem refStep {w wr W4 W9 w5 : World} {tb e d dk N : Nat} {A : Nat → Prop} {F1 kids : List ND} {v v5 vk : Value} {xs : List Value} {k : Int} {O : Obj} (h : RefJ w wr tb e d A F1 v xs) (hA : A tb) (hAl : ∀ g, A g → g < w.heap.size) (hN : wr.heap.size ≤ N)
    (hk4 : Kept (fun g => g = tb) wr W4) (hk9 : Kept (fun g => g = tb ∨ g = N) W4 W9) (h9 : W9.heap[tb]? = some (.cells #[.int .i64 k] 3 (0, 0))) (hnk : NodesAt W4 (fun g => A g ∨ v.ownBlock = some g ∨ g = wr.heap.size ∨ g = N) e dk kids vk) (hdk : dk ≤ d)
    (hgrow : (W9.alloc O).grownBy w5 v.ownBlock) (hat : v5.ownBlock = v.ownBlock ∨ v5.ownBlock = some (W9.alloc O).heap.size) :
    w5.heap[tb]? = some (.cells #[.int .i64 k] 3 (0, 0)) ∧ Kept (fun g => g = tb ∨ v.ownBlock = some g) wr w5 ∧ (∀ (g : Nat) (o : Obj), w.heap[g]? = some o → ¬ A g → w5.heap[g]? = some o ∧ ¬ (A g ∨ v5.ownBlock = some g)) ∧
      NodesAt w5 (fun g => A g ∨ v5.ownBlock = some g) e d kids vk ∧ (v5.ownBlock = v.ownBlock ∨ ∃ g, v5.ownBlock = some g ∧ wr.heap.size ≤ g) := by
  have hwl := h.kept.size
  have hl4 := hk4.size
  have hl9 := hk9.size
  have hg9 : Kept (fun g => v.ownBlock = some g) W9 w5 := ((Kept.refl _ W9).alloc O).grown hgrow (fun g hg _ => hg)
  have hk5 : Kept (fun g => g = tb ∨ v.ownBlock = some g) wr w5 := Kept.trans (Kept.trans (hk4.mono fun _ _ x => .inl x) hk9 fun g hg hx => by
    rcases hx with hx | hx
    · exact .inl hx
    · omega) hg9 fun g hg hx => .inr hx
  have hvl : ∀ g, v.ownBlock = some g → w.heap.size ≤ g ∧ g < wr.heap.size := fun g hg => h.row.lt g hg
  have hv5 : ∀ g, v5.ownBlock = some g → v.ownBlock = some g ∨ W4.heap.size ≤ g := fun g hg => by
    rcases hat with e | e
    · exact .inl (e ▸ hg)
    · rw [e] at hg
      injection hg with hg
      rw [World.size_alloc] at hg
      exact .inr (by omega)
  refine ⟨hg9.at h9 fun e => ?_, hk5, fun g o hg hx => ⟨hk5.at (h.kept.at hg fun e => hx (e ▸ hA)) ?_, ?_⟩, (hnk.keep fun g o hg hx => ⟨hg9.at (hk9.at hg ?_) ?_, ?_⟩).le hdk, ?_⟩
  · have := hvl tb e
    have := hAl tb hA
    omega
  · rintro (rfl | e)
    · exact hx hA
    · have := hvl g e
      have := heap_lt hg
      omega
  · rintro (e | e)
    · exact hx e
    · have := heap_lt hg
      rcases hv5 g e with e | e
      · have := hvl g e; omega
      · omega
  · rintro (rfl | rfl)
    · exact hx (.inl hA)
    · exact hx (.inr (.inr (.inr rfl)))
  · exact fun e => hx (.inr (.inl e))
  · rintro (e | e)
    · exact hx (.inl e)
    · rcases hv5 g e with e | e
      · exact hx (.inr (.inl e))
      · have := heap_lt hg
        omega
  · rcases hat with e | e
    · exact .inl e
    · refine .inr ⟨_, e, ?_⟩
      rw [World.size_alloc]
      omega
def NodesPost (w : World) (tb : Nat) (A : Nat → Prop) (e d : Nat) (F : List ND) (j : Nat) (x : Ending) (w' : World) : Prop :=
  ∃ v, x = .returned v ∧ Kept (fun g => g = tb) w w' ∧ w'.heap[tb]? = some (.cells #[.int .i64 j] 3 (0, 0)) ∧ NodesAt w' A e d F v
theorem NodesPost.alloc {w W : World} {tb e d j : Nat} {A : Nat → Prop} {F : List ND} {x : Ending} (h : NodesPost w tb A e d F j x W) (o : Obj) : NodesPost w tb A e d F j x (W.alloc o) := by
  obtain ⟨v, hx, hk, hj, hn⟩ := h
  exact ⟨v, hx, hk.alloc o, heap_alloc_old _ hj, hn.keep fun g ob hg hA => ⟨heap_alloc_old _ hg, hA⟩⟩
theorem RefJ.post {w W : World} {tb e d j : Nat} {A : Nat → Prop} {F : List ND} {v : Value} {xs : List Value} (h : RefJ w W tb e d A F v xs) (hAl : ∀ g, A g → g < w.heap.size) (hj : W.heap[tb]? = some (.cells #[.int .i64 j] 3 (0, 0)))
    (hF : F.length * 184 ≤ 140737488355328) : NodesPost w tb A e (d + 1) F j (.returned v) W := by
  refine ⟨v, rfl, h.kept, hj, NodeRow.nodes (xs := xs) (h.nodes.keep fun g o hg hn => ⟨hg, fun hx => hn (.inl hx)⟩) h.row (fun g hg hx => ?_) hF⟩
  have := (h.row.lt g hg).1
  have := hAl g hx
  omega
set_option maxHeartbeats 8000000 in
set_option maxRecDepth 100000 in
theorem refNodes_of (e : Nat) (a : Option Addr) (n c : Nat) (ets : List ET) (hn : n = ets.length) (hn6 : n ≤ 60000) : ∀ (m i j : Nat) (F : List ND) (w : World) (A : Nat → Prop) (tb : Nat), n - i < m → Prs ets i F j → EtsAt w A (e + 1) a ets → A tb → (∀ g, A g → g < w.heap.size) →
    w.heap[tb]? = some (.cells #[.int .i64 i] 3 (0, 0)) → j ≤ n → Calls Tryz.prog 56 #[.slice a n c, .pointer (some ⟨tb, 0, none⟩)] w (NodesPost w tb A (e + 1) (n - i + 1) F j)
  | 0, _, _, _, _, _, _, hm, _, _, _, _, _, _ => absurd hm (Nat.not_lt_zero _)
  | m + 1, i, j, F, w, A, tb, hm, hp, hE, hA, hAl, htb, hjn => by
    have IH := Lib.hid (refNodes_of e a n c ets hn hn6 m)
    have HE := Lib.hid hE
    have HP := Lib.hid hp
    have HA := Lib.hid hA
    have HAl := Lib.hid hAl
    have HTb := Lib.hid htb
    have HN := Lib.hid hn
    have hij := hp.le
    have hFl := hp.len
    obtain ⟨i14, hi14, hz14, hs14, hb14⟩ := info_parts info114
    clear hE hp hA hAl htb hn
    go_enter Tryz.func56, Tryz.ntmps56
    go_wp2_with fail
    go_loopw [5] (fun q W => ∃ (i' : Nat) (F1 F2 : List ND) (xs : List Value) (nv : Nat) (qv : Option Addr) (cv : Nat), q = .slice qv nv cv ∧ nv = F1.length ∧ i ≤ i' ∧ W.heap[tb]? = some (.cells #[.int .i64 i'] 3 (0, 0)) ∧ RefJ w W tb (e + 1) (n - i) A F1 (.slice qv nv cv) xs ∧ Prs ets i' F2 j ∧ F = F1 ++ F2) (fun _ W => n - atOf W tb)
    case atStart => exact ⟨i, [], F, [], 0, none, 0, rfl, rfl, Nat.le_refl _, HTb.out, ⟨Kept.refl _ _, World.ownsRow_nil _ _ _ _, fun k nd hk => by simp at hk⟩, HP.out, rfl⟩
    case round =>
      obtain ⟨i', F1, F2, xs, nv, qv, cv, rfl, hnv, hii, htb, hJ, hp2, hF⟩ := hrel
      have HJ := Lib.hid hJ
      have HP2 := Lib.hid hp2
      have HF := Lib.hid hF
      have HB := Lib.hid htb
      have t0 := cell_of_block htb 0
      have t1 := free_of_block htb 0
      simp at t0
      have htl := heap_lt htb
      have hi'j := hp2.le
      have k7 : (0 : Int) ≤ i' := by omega
      by_cases hil : i' < n
      · obtain ⟨u, hu⟩ : ∃ u, ets[i']? = some u := ⟨_, List.getElem?_eq_getElem (by rw [← HN.out]; exact hil)⟩
        have k6 : (i' : Int) < n := by omega
        have hkE : ∀ (g : Nat) (o : Obj), w.heap[g]? = some o → ¬ A g → wr.heap[g]? = some o ∧ ¬ A g := fun g o hg hx => ⟨hJ.kept.at hg fun e => hx (e ▸ HA.out), hx⟩
        obtain ⟨eb, eo, rfl, hlt, c0, c1, c2, c3, c4, c5, c6, c7⟩ := ((HE.out.keep hkE).evs).cells (i := i') (e := u.ev) (by rw [List.getElem?_map, hu]; rfl)
        have HU := Lib.hid hu
        have HNv := Lib.hid hnv
        clear htb hJ hp2 hF hu hkE hnv
        by_cases hk1 : u.ev.kind = 1
        · rw [hk1] at c0
          cases HP2.out with
          | stop h => exact absurd (h u HU.out) (by omega)
          | read he h2 _ => rw [HU.out] at he; injection he with he; subst he; omega
          | @make _ j1 _ u' x kids sibs he h1 hkids hw h3 hs =>
            rw [HU.out] at he; injection he with he; subst he
            obtain ⟨Wc, hWc⟩ : ∃ Wc, Wc = (((wr.setCell ⟨tb, 0, none⟩ (.int .i64 ((i' : Int) + 1))).alloc (.cells #[.int .i64 1, .int .i64 u.ev.site, .int .i64 u.ev.addr, .slice u.ev.args u.ev.argn u.ev.argc, .int .i64 u.ev.vk, .int .i64 u.ev.vn, .string u.ev.vs, .slice u.ev.va u.ev.van u.ev.vac] 98)).alloc (.cells #[.bool true, .int .i64 u.ev.site, .int .i64 u.ev.addr, .slice u.ev.args u.ev.argn u.ev.argc, .int .i64 0, .int .i64 0, .string ⟨#[]⟩, .slice none 0 0, .int .i64 0, .int .i64 0, .string ⟨#[]⟩, .slice none 0 0, .slice none 0 0] 114)) := ⟨_, rfl⟩
            have hkc : Kept (fun g => g = tb) wr Wc := by rw [hWc]; exact (((Kept.refl (fun g => g = tb) wr).setCell (p := ⟨tb, 0, none⟩) (fun _ => rfl) _).alloc _).alloc _
            have hsz : ((wr.setCell ⟨tb, 0, none⟩ (.int .i64 ((i' : Int) + 1))).alloc (.cells #[.int .i64 1, .int .i64 u.ev.site, .int .i64 u.ev.addr, .slice u.ev.args u.ev.argn u.ev.argc, .int .i64 u.ev.vk, .int .i64 u.ev.vn, .string u.ev.vs, .slice u.ev.va u.ev.van u.ev.vac] 98)).heap.size = wr.heap.size + 1 := by rw [World.size_alloc]; simp [World.setCell]
            have htbc : Wc.heap[tb]? = some (.cells #[.int .i64 ((i' + 1 : Nat) : Int)] 3 (0, 0)) := by
              rw [hWc, heap_alloc_old _ (heap_alloc_old _ (heap_set_same HB.out _))]
              simp
            have hNc : Wc.heap[wr.heap.size + 1]? = some (.cells #[.bool true, .int .i64 u.ev.site, .int .i64 u.ev.addr, .slice u.ev.args u.ev.argn u.ev.argc, .int .i64 0, .int .i64 0, .string ⟨#[]⟩, .slice none 0 0, .int .i64 0, .int .i64 0, .string ⟨#[]⟩, .slice none 0 0, .slice none 0 0] 114 (0, 0)) := by
              rw [hWc]
              have h9 := heap_alloc_at ((wr.setCell ⟨tb, 0, none⟩ (.int .i64 ((i' : Int) + 1))).alloc (.cells #[.int .i64 1, .int .i64 u.ev.site, .int .i64 u.ev.addr, .slice u.ev.args u.ev.argn u.ev.argc, .int .i64 u.ev.vk, .int .i64 u.ev.vn, .string u.ev.vs, .slice u.ev.va u.ev.van u.ev.vac] 98)) (.cells #[.bool true, .int .i64 u.ev.site, .int .i64 u.ev.addr, .slice u.ev.args u.ev.argn u.ev.argc, .int .i64 0, .int .i64 0, .string ⟨#[]⟩, .slice none 0 0, .int .i64 0, .int .i64 0, .string ⟨#[]⟩, .slice none 0 0, .slice none 0 0] 114)
              rw [hsz] at h9
              exact h9
            have hWl : Wc.heap.size = wr.heap.size + 2 := by rw [hWc, World.size_alloc, hsz]
            have hkEc : ∀ (g : Nat) (o : Obj), w.heap[g]? = some o → ¬ A g → Wc.heap[g]? = some o ∧ ¬ (A g ∨ (Value.slice qv nv cv).ownBlock = some g ∨ g = wr.heap.size ∨ g = wr.heap.size + 1) := fun g o hg hx => by
              have hgl := heap_lt hg
              have hwl := HJ.out.kept.size
              refine ⟨hkc.at (HJ.out.kept.at hg fun e => hx (e ▸ HA.out)) fun e => hx (e ▸ HA.out), ?_⟩
              rintro (h | h | h | h)
              · exact hx h
              · have := (HJ.out.row.lt g h).1; omega
              · omega
              · omega
            have HC := Lib.hid (IH.out (i' + 1) j1 kids Wc (fun g => A g ∨ (Value.slice qv nv cv).ownBlock = some g ∨ g = wr.heap.size ∨ g = wr.heap.size + 1) tb (by omega) hkids (HE.out.keep hkEc) (.inl HA.out) (fun g hg => by
              have hwl := HJ.out.kept.size
              rcases hg with h | h | h | h
              · have := HAl.out g h; omega
              · have := (HJ.out.row.lt g h).2; omega
              · omega
              · omega) htbc (by have := hs.le; omega))
            go_wp2_with (go_at_call 56; refine holdT ?_)
            refine Lib.hid ?_
            rw [← hWc]
            have HKc := Lib.hid hkc
            have HNc := Lib.hid hNc
            have HWl := Lib.hid hWl
            have HKids := Lib.hid hkids
            have HS := Lib.hid hs
            have HW := Lib.hid hw
            clear hWc hkc htbc hNc hWl hkEc hsz c0 c1 c2 c3 c4 c5 c6 c7 t0 t1 hkids hs hw
            refine HC.out.mono ?_
            rintro _ W4 ⟨vk, rfl, hk4, htb4, hnk⟩
            obtain ⟨pk, ck, rfl⟩ := hnk.form
            have hN4 := hk4.at HNc.out (fun h => by omega)
            have y0 := cell_of_block hN4 0
            have y1 := cell_of_block hN4 1
            have y2 := cell_of_block hN4 2
            have y3 := cell_of_block hN4 3
            have y4 := cell_of_block hN4 4
            have y5 := cell_of_block hN4 5
            have y6 := cell_of_block hN4 6
            have y7 := cell_of_block hN4 7
            have y8 := cell_of_block hN4 8
            have y9 := cell_of_block hN4 9
            have y10 := cell_of_block hN4 10
            have y11 := cell_of_block hN4 11
            have y12 := cell_of_block hN4 12
            simp at y0 y1 y2 y3 y4 y5 y6 y7 y8 y9 y10 y11 y12
            have yf : ∀ k, W4.frozen? ⟨wr.heap.size + 1, k, none⟩ = false := fun k => free_of_block hN4 k
            have t0 := cell_of_block htb4 0
            have t1 := free_of_block htb4 0
            simp at t0
            have hkE4 : ∀ (g : Nat) (o : Obj), w.heap[g]? = some o → ¬ A g → W4.heap[g]? = some o ∧ ¬ A g := fun g o hg hx => ⟨hk4.at (HKc.out.at (HJ.out.kept.at hg fun e => hx (e ▸ HA.out)) fun e => hx (e ▸ HA.out)) fun e => hx (e ▸ HA.out), hx⟩
            obtain ⟨eb', eo', he', hlt', _, _, _, _, x4, x5, x6, x7⟩ := ((HE.out.keep hkE4).evs).cells (i := j1) (e := x.ev) (by rw [List.getElem?_map, HW.out]; rfl)
            injection he' with he'
            injection he' with he1 he2
            subst he1 he2
            have k8 : (j1 : Int) < n := by have := (List.getElem?_eq_some_iff.1 HW.out).1; rw [← HN.out] at this; omega
            have k9 : (0 : Int) ≤ j1 := by omega
            have z1 : tb ≠ wr.heap.size + 1 := by omega
            have z2 : wr.heap.size + 1 ≠ tb := by omega
            have H4 := Lib.hid hk4
            have HNk := Lib.hid hnk
            have HT4 := Lib.hid htb4
            have HN4 := Lib.hid hN4
            clear hk4 hnk htb4 hN4 hkE4 hlt'
            go_wp2_with (at_builtin; refine holdT ?_)
            refine Lib.hid ?_
            obtain ⟨W9, hW9⟩ : ∃ W9, W9 = ((((((W4.setCell ⟨wr.heap.size + 1, 12, none⟩ (.slice pk kids.length ck)).setCell ⟨wr.heap.size + 1, 8, none⟩ (.int .i64 x.ev.vk)).setCell ⟨wr.heap.size + 1, 9, none⟩ (.int .i64 x.ev.vn)).setCell ⟨wr.heap.size + 1, 10, none⟩ (.string x.ev.vs)).setCell ⟨wr.heap.size + 1, 11, none⟩ (.slice x.ev.va x.ev.van x.ev.vac)).setCell ⟨tb, 0, none⟩ (.int .i64 ((j1 : Int) + 1))) := ⟨_, rfl⟩
            rw [← hW9]
            have hk9 : Kept (fun g => g = tb ∨ g = wr.heap.size + 1) W4 W9 := by
              rw [hW9]
              exact ((((((Kept.refl (fun g => g = tb ∨ g = wr.heap.size + 1) W4).setCell (p := ⟨wr.heap.size + 1, 12, none⟩) (fun _ => .inr rfl) _).setCell (p := ⟨wr.heap.size + 1, 8, none⟩) (fun _ => .inr rfl) _).setCell (p := ⟨wr.heap.size + 1, 9, none⟩) (fun _ => .inr rfl) _).setCell (p := ⟨wr.heap.size + 1, 10, none⟩) (fun _ => .inr rfl) _).setCell (p := ⟨wr.heap.size + 1, 11, none⟩) (fun _ => .inr rfl) _).setCell (p := ⟨tb, 0, none⟩) (fun _ => .inl rfl) _
            have hs9 : W9.heap.size = W4.heap.size := by rw [hW9]; simp [World.setCell]
            have ht9 : W9.heap[tb]? = some (.cells #[.int .i64 ((j1 + 1 : Nat) : Int)] 3 (0, 0)) := by
              rw [hW9]
              have h1 : (W4.setCell ⟨wr.heap.size + 1, 12, none⟩ (.slice pk kids.length ck)).heap[tb]? = some (.cells #[.int .i64 j1] 3 (0, 0)) := by rw [heap_set_other _ z1]; exact HT4.out
              rw [heap_set_same (by rw [heap_set_other _ z1, heap_set_other _ z1, heap_set_other _ z1, heap_set_other _ z1]; exact h1)]
              simp
            have hk4 : Kept (fun g => g = tb) wr W4 := Kept.trans HKc.out H4.out (fun _ _ x => x)
            have hrow9 : W9.ownsRow w.heap.size 114 13 (.slice qv nv cv) nv xs := by
              have h1 := HJ.out.row
              rw [← HNv.out] at h1
              refine row_same h1 fun g hg => ?_
              have h2 := h1.lt g hg
              have h3 := HAl.out tb HA.out
              rw [hk9.block g (by have := hk4.size; omega) (by rintro (e | e) <;> omega)]
              exact hk4.block g h2.2 (by omega)
            have hF1 : nv ≤ 60000 := by
              have h1 := congrArg List.length HF.out
              rw [List.length_append, ← HNv.out] at h1
              omega
            have HR := Lib.hid (fun (v5 : Value) (w5 : World) (O : Obj) => refStep (v5 := v5) (w5 := w5) (O := O) HJ.out HA.out HAl.out (Nat.le_succ _) hk4 hk9 ht9 HNk.out (by omega))
            have Hr9 := Lib.hid hrow9
            have Hs9 := Lib.hid hs9
            have hwl : w.heap.size ≤ W9.heap.size := by have := HJ.out.kept.size; have := hk4.size; omega
            have HWL := Lib.hid hwl
            clear hW9 hk9 ht9 hk4 hrow9 hs9 hwl y0 y1 y2 y3 y4 y5 y6 y7 y8 y9 y10 y11 y12 yf t0 t1 x4 x5 x6 x7
            refine wpList_append_own_at _ rfl (.tmp 57) (.tmp 59) 40 rfl w.heap.size 114 i14 (.agg #[.bool false, .int .i64 0, .int .i64 0, .slice none 0 0, .int .i64 0, .int .i64 0, .string ⟨#[]⟩, .slice none 0 0, .int .i64 0, .int .i64 0, .string ⟨#[]⟩, .slice none 0 0, .slice none 0 0]) 13 184 under40 hi14 hz14 hs14 hb14 rfl (by decide) (.slice qv nv cv) nv xs rfl (Hr9.out.alloc _) ⟨W4.heap.size, 0, none⟩ 1 1 [.bool true, .int .i64 u.ev.site, .int .i64 u.ev.addr, .slice u.ev.args u.ev.argn u.ev.argc, .int .i64 0, .int .i64 0, .string ⟨#[]⟩, .slice none 0 0, .int .i64 x.ev.vk, .int .i64 x.ev.vn, .string x.ev.vs, .slice x.ev.va x.ev.van x.ev.vac, .slice pk kids.length ck] rfl rfl
              (World.news_of_block (cs := #[.bool true, .int .i64 u.ev.site, .int .i64 u.ev.addr, .slice u.ev.args u.ev.argn u.ev.argc, .int .i64 0, .int .i64 0, .string ⟨#[]⟩, .slice none 0 0, .int .i64 x.ev.vk, .int .i64 x.ev.vn, .string x.ev.vs, .slice x.ev.va x.ev.van x.ev.vac, .slice pk kids.length ck]) (t := 114) (fr := (0, 0)) (by have h9 := heap_alloc_at W9 (.cells #[.bool true, .int .i64 u.ev.site, .int .i64 u.ev.addr, .slice u.ev.args u.ev.argn u.ev.argc, .int .i64 0, .int .i64 0, .string ⟨#[]⟩, .slice none 0 0, .int .i64 x.ev.vk, .int .i64 x.ev.vn, .string x.ev.vs, .slice x.ev.va x.ev.van x.ev.vac, .slice pk kids.length ck] 114); rw [Hs9.out] at h9; exact h9)) (by simp [Value.oneCell']) (by unfold maxLen; omega) (by omega) (by have := HWL.out; rw [World.size_alloc]; omega) ?_
            intro v5 w5 hown hgrow hnil hat
            obtain ⟨g5, cap5, rfl⟩ := row_succ hown
            obtain ⟨r1, r2, r3, r4, r5⟩ := HR.out _ _ _ hgrow hat
            have hmore := HJ.out.more (nd := mkNode u kids x.val) HA.out HAl.out r2 (by rw [← HNv.out]; exact hown) r5 ⟨_, _, _, _, _, _, _, _, _, _, rfl, (HE.out.args i' u HU.out).keep r3, RunAt.zero _ _ _, (HE.out.val j1 x HW.out).keep r3, r4⟩
            have HMo := Lib.hid hmore
            have HR1 := Lib.hid r1
            clear hown hgrow hnil hat r1 r2 r3 r4 r5 hmore
            go_wp2_with fail
            go_roundw
            case rel => exact ⟨j1 + 1, _, sibs, _, _, _, _, rfl, by rw [HNv.out]; simp, by have := HKids.out.le; omega, HR1.out, HMo.out, HS.out, by rw [HF.out]; simp⟩
            case measure => rw [atOf_is HR1.out, atOf_is HB.out]; have := HKids.out.le; omega
        · by_cases hk2 : u.ev.kind = 2
          · rw [hk2] at c0
            cases HP2.out with
            | stop h => exact absurd (h u HU.out) (by omega)
            | make he h1 _ _ _ _ => rw [HU.out] at he; injection he with he; subst he; omega
            | @read _ _ _ kids he h1 hkids =>
              rw [HU.out] at he; injection he with he; subst he
              obtain ⟨Wc, hWc⟩ : ∃ Wc, Wc = (((wr.setCell ⟨tb, 0, none⟩ (.int .i64 ((i' : Int) + 1))).alloc (.cells #[.int .i64 2, .int .i64 u.ev.site, .int .i64 u.ev.addr, .slice u.ev.args u.ev.argn u.ev.argc, .int .i64 u.ev.vk, .int .i64 u.ev.vn, .string u.ev.vs, .slice u.ev.va u.ev.van u.ev.vac] 98)).alloc (.cells #[.bool false, .int .i64 u.ev.site, .int .i64 u.ev.addr, .slice none 0 0, .int .i64 u.ev.vk, .int .i64 u.ev.vn, .string u.ev.vs, .slice u.ev.va u.ev.van u.ev.vac, .int .i64 0, .int .i64 0, .string ⟨#[]⟩, .slice none 0 0, .slice none 0 0] 114)) := ⟨_, rfl⟩
              have hkc : Kept (fun g => g = tb) wr Wc := by rw [hWc]; exact (((Kept.refl (fun g => g = tb) wr).setCell (p := ⟨tb, 0, none⟩) (fun _ => rfl) _).alloc _).alloc _
              have hsz : ((wr.setCell ⟨tb, 0, none⟩ (.int .i64 ((i' : Int) + 1))).alloc (.cells #[.int .i64 2, .int .i64 u.ev.site, .int .i64 u.ev.addr, .slice u.ev.args u.ev.argn u.ev.argc, .int .i64 u.ev.vk, .int .i64 u.ev.vn, .string u.ev.vs, .slice u.ev.va u.ev.van u.ev.vac] 98)).heap.size = wr.heap.size + 1 := by rw [World.size_alloc]; simp [World.setCell]
              have htbc : Wc.heap[tb]? = some (.cells #[.int .i64 ((i' + 1 : Nat) : Int)] 3 (0, 0)) := by
                rw [hWc, heap_alloc_old _ (heap_alloc_old _ (heap_set_same HB.out _))]
                simp
              have hNc : Wc.heap[wr.heap.size + 1]? = some (.cells #[.bool false, .int .i64 u.ev.site, .int .i64 u.ev.addr, .slice none 0 0, .int .i64 u.ev.vk, .int .i64 u.ev.vn, .string u.ev.vs, .slice u.ev.va u.ev.van u.ev.vac, .int .i64 0, .int .i64 0, .string ⟨#[]⟩, .slice none 0 0, .slice none 0 0] 114 (0, 0)) := by
                rw [hWc]
                have h9 := heap_alloc_at ((wr.setCell ⟨tb, 0, none⟩ (.int .i64 ((i' : Int) + 1))).alloc (.cells #[.int .i64 2, .int .i64 u.ev.site, .int .i64 u.ev.addr, .slice u.ev.args u.ev.argn u.ev.argc, .int .i64 u.ev.vk, .int .i64 u.ev.vn, .string u.ev.vs, .slice u.ev.va u.ev.van u.ev.vac] 98)) (.cells #[.bool false, .int .i64 u.ev.site, .int .i64 u.ev.addr, .slice none 0 0, .int .i64 u.ev.vk, .int .i64 u.ev.vn, .string u.ev.vs, .slice u.ev.va u.ev.van u.ev.vac, .int .i64 0, .int .i64 0, .string ⟨#[]⟩, .slice none 0 0, .slice none 0 0] 114)
                rw [hsz] at h9
                exact h9
              have hWl : Wc.heap.size = wr.heap.size + 2 := by rw [hWc, World.size_alloc, hsz]
              have hkEc : ∀ (g : Nat) (o : Obj), w.heap[g]? = some o → ¬ A g → Wc.heap[g]? = some o ∧ ¬ (A g ∨ (Value.slice qv nv cv).ownBlock = some g ∨ g = wr.heap.size ∨ g = wr.heap.size + 1) := fun g o hg hx => by
                have hgl := heap_lt hg
                have hwl := HJ.out.kept.size
                refine ⟨hkc.at (HJ.out.kept.at hg fun e => hx (e ▸ HA.out)) fun e => hx (e ▸ HA.out), ?_⟩
                rintro (h | h | h | h)
                · exact hx h
                · have := (HJ.out.row.lt g h).1; omega
                · omega
                · omega
              have HC := Lib.hid (IH.out (i' + 1) j kids Wc (fun g => A g ∨ (Value.slice qv nv cv).ownBlock = some g ∨ g = wr.heap.size ∨ g = wr.heap.size + 1) tb (by omega) hkids (HE.out.keep hkEc) (.inl HA.out) (fun g hg => by
                have hwl := HJ.out.kept.size
                rcases hg with h | h | h | h
                · have := HAl.out g h; omega
                · have := (HJ.out.row.lt g h).2; omega
                · omega
                · omega) htbc hjn)
              go_wp2_with (go_at_call 56; refine holdT ?_)
              refine Lib.hid ?_
              rw [← hWc]
              have HKc := Lib.hid hkc
              have HNc := Lib.hid hNc
              have HWl := Lib.hid hWl
              have HKids := Lib.hid hkids
              clear hWc hkc htbc hNc hWl hkEc hsz c0 c1 c2 c3 c4 c5 c6 c7 t0 t1 hkids
              refine HC.out.mono ?_
              rintro _ W4 ⟨vk, rfl, hk4, htb4, hnk⟩
              obtain ⟨pk, ck, rfl⟩ := hnk.form
              have hN4 := hk4.at HNc.out (fun h => by omega)
              have y0 := cell_of_block hN4 0
              have y1 := cell_of_block hN4 1
              have y2 := cell_of_block hN4 2
              have y3 := cell_of_block hN4 3
              have y4 := cell_of_block hN4 4
              have y5 := cell_of_block hN4 5
              have y6 := cell_of_block hN4 6
              have y7 := cell_of_block hN4 7
              have y8 := cell_of_block hN4 8
              have y9 := cell_of_block hN4 9
              have y10 := cell_of_block hN4 10
              have y11 := cell_of_block hN4 11
              have y12 := cell_of_block hN4 12
              simp at y0 y1 y2 y3 y4 y5 y6 y7 y8 y9 y10 y11 y12
              have yf : ∀ k, W4.frozen? ⟨wr.heap.size + 1, k, none⟩ = false := fun k => free_of_block hN4 k
              have t0 := cell_of_block htb4 0
              have t1 := free_of_block htb4 0
              simp at t0
              have hkE4 : ∀ (g : Nat) (o : Obj), w.heap[g]? = some o → ¬ A g → W4.heap[g]? = some o ∧ ¬ A g := fun g o hg hx => ⟨hk4.at (HKc.out.at (HJ.out.kept.at hg fun e => hx (e ▸ HA.out)) fun e => hx (e ▸ HA.out)) fun e => hx (e ▸ HA.out), hx⟩
              have z1 : tb ≠ wr.heap.size + 1 := by omega
              have z2 : wr.heap.size + 1 ≠ tb := by omega
              have H4 := Lib.hid hk4
              have HNk := Lib.hid hnk
              have HT4 := Lib.hid htb4
              have HN4 := Lib.hid hN4
              clear hk4 hnk htb4 hN4 hkE4
              go_wp2_with (at_builtin; refine holdT ?_)
              refine Lib.hid ?_
              obtain ⟨W9, hW9⟩ : ∃ W9, W9 = W4.setCell ⟨wr.heap.size + 1, 12, none⟩ (.slice pk kids.length ck) := ⟨_, rfl⟩
              rw [← hW9]
              have hk9 : Kept (fun g => g = tb ∨ g = wr.heap.size + 1) W4 W9 := by
                rw [hW9]
                exact (Kept.refl (fun g => g = tb ∨ g = wr.heap.size + 1) W4).setCell (p := ⟨wr.heap.size + 1, 12, none⟩) (fun _ => .inr rfl) _
              have hs9 : W9.heap.size = W4.heap.size := by rw [hW9]; simp [World.setCell]
              have ht9 : W9.heap[tb]? = some (.cells #[.int .i64 j] 3 (0, 0)) := by
                rw [hW9, heap_set_other _ z1]; exact HT4.out
              have hk4 : Kept (fun g => g = tb) wr W4 := Kept.trans HKc.out H4.out (fun _ _ x => x)
              have hrow9 : W9.ownsRow w.heap.size 114 13 (.slice qv nv cv) nv xs := by
                have h1 := HJ.out.row
                rw [← HNv.out] at h1
                refine row_same h1 fun g hg => ?_
                have h2 := h1.lt g hg
                have h3 := HAl.out tb HA.out
                rw [hk9.block g (by have := hk4.size; omega) (by rintro (e | e) <;> omega)]
                exact hk4.block g h2.2 (by omega)
              have hF1 : nv ≤ 60000 := by
                have h1 := congrArg List.length HF.out
                rw [List.length_append, ← HNv.out] at h1
                omega
              have HR := Lib.hid (fun (v5 : Value) (w5 : World) (O : Obj) => refStep (v5 := v5) (w5 := w5) (O := O) HJ.out HA.out HAl.out (Nat.le_succ _) hk4 hk9 ht9 HNk.out (by omega))
              have Hr9 := Lib.hid hrow9
              have Hs9 := Lib.hid hs9
              have hwl : w.heap.size ≤ W9.heap.size := by have := HJ.out.kept.size; have := hk4.size; omega
              have HWL := Lib.hid hwl
              clear hW9 hk9 ht9 hk4 hrow9 hs9 hwl y0 y1 y2 y3 y4 y5 y6 y7 y8 y9 y10 y11 y12 yf t0 t1
              refine wpList_append_own_at _ rfl (.tmp 80) (.tmp 82) 40 rfl w.heap.size 114 i14 (.agg #[.bool false, .int .i64 0, .int .i64 0, .slice none 0 0, .int .i64 0, .int .i64 0, .string ⟨#[]⟩, .slice none 0 0, .int .i64 0, .int .i64 0, .string ⟨#[]⟩, .slice none 0 0, .slice none 0 0]) 13 184 under40 hi14 hz14 hs14 hb14 rfl (by decide) (.slice qv nv cv) nv xs rfl (Hr9.out.alloc _) ⟨W4.heap.size, 0, none⟩ 1 1 [.bool false, .int .i64 u.ev.site, .int .i64 u.ev.addr, .slice none 0 0, .int .i64 u.ev.vk, .int .i64 u.ev.vn, .string u.ev.vs, .slice u.ev.va u.ev.van u.ev.vac, .int .i64 0, .int .i64 0, .string ⟨#[]⟩, .slice none 0 0, .slice pk kids.length ck] rfl rfl
                (World.news_of_block (cs := #[.bool false, .int .i64 u.ev.site, .int .i64 u.ev.addr, .slice none 0 0, .int .i64 u.ev.vk, .int .i64 u.ev.vn, .string u.ev.vs, .slice u.ev.va u.ev.van u.ev.vac, .int .i64 0, .int .i64 0, .string ⟨#[]⟩, .slice none 0 0, .slice pk kids.length ck]) (t := 114) (fr := (0, 0)) (by have h9 := heap_alloc_at W9 (.cells #[.bool false, .int .i64 u.ev.site, .int .i64 u.ev.addr, .slice none 0 0, .int .i64 u.ev.vk, .int .i64 u.ev.vn, .string u.ev.vs, .slice u.ev.va u.ev.van u.ev.vac, .int .i64 0, .int .i64 0, .string ⟨#[]⟩, .slice none 0 0, .slice pk kids.length ck] 114); rw [Hs9.out] at h9; exact h9)) (by simp [Value.oneCell']) (by unfold maxLen; omega) (by omega) (by have := HWL.out; rw [World.size_alloc]; omega) ?_
              intro v5 w5 hown hgrow hnil hat
              obtain ⟨g5, cap5, rfl⟩ := row_succ hown
              obtain ⟨r1, r2, r3, r4, r5⟩ := HR.out _ _ _ hgrow hat
              have hmore := HJ.out.more (nd := rdNode u kids) HA.out HAl.out r2 (by rw [← HNv.out]; exact hown) r5 ⟨_, _, _, _, _, _, _, _, _, _, rfl, RunsAt.nil _ _ _, (HE.out.val i' u HU.out).keep r3, RunAt.zero _ _ _, r4⟩
              have hpost := hmore.post HAl.out r1 (by have h1 := congrArg List.length HF.out; simp only [List.length_append, List.length_cons, List.length_nil] at h1 ⊢; omega)
              rw [← HF.out] at hpost
              have HPo := Lib.hid hpost
              clear hown hgrow hnil hat r1 r2 r3 r4 r5 hmore hpost
              go_wp2_with fail
              go_ret
              exact HPo.out
          · have hs3 : F2 = [] ∧ j = i' ∧ u.ev.kind = 3 := by
              cases HP2.out with
              | stop h => exact ⟨rfl, rfl, h u HU.out⟩
              | make he h1 _ _ _ _ => rw [HU.out] at he; injection he with he; subst he; exact absurd h1 hk1
              | read he h2 _ => rw [HU.out] at he; injection he with he; subst he; exact absurd h2 hk2
            obtain ⟨rfl, rfl, hk3⟩ := hs3
            rw [hk3] at c0
            have HPo := Lib.hid (HJ.out.post HAl.out HB.out (by have h1 := congrArg List.length HF.out; simp only [List.length_append, List.length_nil] at h1; omega))
            have hFF := HF.out
            rw [List.append_nil] at hFF
            subst hFF
            go_wp2_with fail
            go_ret
            exact HPo.out.alloc _
      · have hs3 : F2 = [] ∧ j = i' := by
          cases HP2.out with
          | stop h => exact ⟨rfl, rfl⟩
          | make he _ _ _ _ _ => exact absurd ((List.getElem?_eq_some_iff.1 he).1) (by rw [← HN.out]; exact hil)
          | read he _ _ => exact absurd ((List.getElem?_eq_some_iff.1 he).1) (by rw [← HN.out]; exact hil)
        obtain ⟨rfl, rfl⟩ := hs3
        have HPo := Lib.hid (HJ.out.post HAl.out HB.out (by have h1 := congrArg List.length HF.out; simp only [List.length_append, List.length_nil] at h1; omega))
        have k6 : ¬ (j : Int) < n := by omega
        have hFF := HF.out
        rw [List.append_nil] at hFF
        clear htb hJ hp2 hF hnv HF HP2
        subst hFF
        go_wp2_with fail
        go_ret
        exact HPo.out
end Go.Proofs.YtbhiaeciiphelaaGreatDoor
