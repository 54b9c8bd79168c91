/-
  DERIVED. Nodes as trees in memory; nodes that are the same trees are alike to the reference. Condition: they lie in memory.
-/
import Derived.Test.YtbhiaeciiphelaaGreatDoorTrA
namespace Go.Proofs.YtbhiaeciiphelaaGreatDoor
open Go.RowKit
def NodesAt (w : World) (A : Nat → Prop) (e : Nat) : Nat → List ND → Value → Prop
  | 0, l, v => l = [] ∧ ∃ p c, v = .slice p 0 c
  | d + 1, l, v => ∃ p c, v = .slice p l.length c ∧ l.length * 184 ≤ 140737488355328 ∧
      ∀ (j : Nat) (mod : Bool) (site addr : Int) (args : List RV) (seen wrote : RV) (kids : List ND), l[j]? = some (.mk mod site addr args seen wrote kids) → ∃ g o va s0 s1 s2 s3 w0 w1 w2 w3 vk, p = some ⟨g, o, none⟩ ∧ ¬ A g ∧
        (∀ (i : Nat) (v : Value), ([.bool mod, .int .i64 site, .int .i64 addr, va, s0, s1, s2, s3, w0, w1, w2, w3, vk] : List Value)[i]? = some v → w.cell? ⟨g, o + j * 13 + i, none⟩ = some v) ∧
        RunsAt w A e va args ∧ RunAt w A e seen [s0, s1, s2, s3] ∧ RunAt w A e wrote [w0, w1, w2, w3] ∧ NodesAt w A e d kids vk
theorem NodesAt.form {w : World} {A : Nat → Prop} {e d : Nat} {l : List ND} {v : Value} (h : NodesAt w A e d l v) : ∃ p c, v = .slice p l.length c := by
  cases d with
  | zero =>
    obtain ⟨rfl, p, c, rfl⟩ := h
    exact ⟨p, c, rfl⟩
  | succ d =>
    obtain ⟨p, c, rfl, _⟩ := h
    exact ⟨p, c, rfl⟩
theorem NodesAt.keep {w w' : World} {A A' : Nat → Prop} {e : Nat} (hk : ∀ (g : Nat) (o : Obj), w.heap[g]? = some o → ¬ A g → w'.heap[g]? = some o ∧ ¬ A' g) : ∀ {d : Nat} {l : List ND} {v : Value}, NodesAt w A e d l v → NodesAt w' A' e d l v
  | 0, _, _, h => h
  | d + 1, l, v, h => by
    obtain ⟨p, c, rfl, hl, h1⟩ := h
    refine ⟨p, c, rfl, hl, fun j mod site addr args seen wrote kids hj => ?_⟩
    obtain ⟨g, o, va, s0, s1, s2, s3, w0, w1, w2, w3, vk, rfl, hA, hc, ha, hs, hw, hk2⟩ := h1 j mod site addr args seen wrote kids hj
    have hg := World.block_lt_of_cell? _ _ (hc 0 _ rfl)
    obtain ⟨h5, h6⟩ := hk g _ (Array.getElem?_eq_getElem hg) hA
    refine ⟨g, o, va, s0, s1, s2, s3, w0, w1, w2, w3, vk, rfl, h6, fun i v hi => ?_, ha.keep hk, hs.keep hk, hw.keep hk, NodesAt.keep hk hk2⟩
    rw [World.cell?_of_block (w := w) (a := ⟨g, o + j * 13 + i, none⟩) (by rw [h5, Array.getElem?_eq_getElem hg])]
    exact hc i v hi
set_option maxHeartbeats 16000000 in
set_option maxRecDepth 100000 in
theorem alikeNodes_of (e : Nat) : ∀ (d : Nat) (w : World) (A A' : Nat → Prop) (l : List ND) (v v' : Value), NodesAt w A e d l v → NodesAt w A' e d l v' →
    Calls Tryz.prog 25 #[v, v'] w fun r w' => r = .returned (.bool true) ∧ Keeps w w'
  | 0, w, A, A', l, v, v', h, h' => by
    obtain ⟨rfl, p, c, rfl⟩ := h
    obtain ⟨_, p', c', rfl⟩ := h'
    go_enter Tryz.func25, Tryz.ntmps25
    go_wp2_with fail
    go_loopw [5] (fun q W => q = .int .i64 0 ∧ Keeps w W) (fun _ _ => 0)
    case atStart => exact ⟨rfl, Keeps.refl _⟩
    case round =>
      obtain ⟨rfl, hk⟩ := hrel
      go_wp2_with fail
      go_ret
      exact ⟨rfl, hk⟩
  | d + 1, w, A, A', l, v, v', h, h' => by
    obtain ⟨p, c, rfl, hl, h1⟩ := h
    obtain ⟨p', c', rfl, _, h1'⟩ := h'
    have IH := Lib.hid (alikeNodes_of e d)
    have H1 := Lib.hid h1
    have H2 := Lib.hid h1'
    clear h1 h1'
    go_enter Tryz.func25, Tryz.ntmps25
    go_wp2_with fail
    go_loopw [5] (fun q W => ∃ i : Nat, i ≤ l.length ∧ q = .int .i64 i ∧ Keeps w W) (fun q _ => l.length - (intOf q).toNat)
    case atStart => exact ⟨0, Nat.zero_le _, rfl, Keeps.refl _⟩
    case round =>
      obtain ⟨i, hi, rfl, hk⟩ := hrel
      have HK := Lib.hid hk
      by_cases hil : i < l.length
      · obtain ⟨nd, hu⟩ : ∃ nd, l[i]? = some nd := ⟨_, List.getElem?_eq_getElem hil⟩
        obtain ⟨mod, site, addr, args, seen, wrote, kids⟩ := nd
        obtain ⟨g, o, va, s0, s1, s2, s3, w0, w1, w2, w3, vk, rfl, _, hc1, ha1, hs1, hw1, hk1⟩ := H1.out i _ _ _ _ _ _ _ hu
        obtain ⟨g', o', va', s0', s1', s2', s3', w0', w1', w2', w3', vk', rfl, _, hc2, ha2, hs2, hw2, hk2⟩ := H2.out i _ _ _ _ _ _ _ hu
        have hkw := hk
        obtain ⟨ks, ms, ss, ps, ns, cs, es⟩ := hs1.four
        obtain ⟨ks', ms', ss', ps', ns', cs', es'⟩ := hs2.four
        obtain ⟨kw, mw, sw, pw, nw, cw, ew⟩ := hw1.four
        obtain ⟨kw', mw', sw', pw', nw', cw', ew'⟩ := hw2.four
        simp only [List.cons.injEq, and_true] at es es' ew ew'
        obtain ⟨rfl, rfl, rfl, rfl⟩ := es
        obtain ⟨rfl, rfl, rfl, rfl⟩ := es'
        obtain ⟨rfl, rfl, rfl, rfl⟩ := ew
        obtain ⟨rfl, rfl, rfl, rfl⟩ := ew'
        obtain ⟨qv, dv, eva⟩ : ∃ q c, va = .slice q args.length c := by obtain ⟨q, c, h, _⟩ := ha1; exact ⟨q, c, h⟩
        obtain ⟨qv', dv', eva'⟩ : ∃ q c, va' = .slice q args.length c := by obtain ⟨q, c, h, _⟩ := ha2; exact ⟨q, c, h⟩
        obtain ⟨qk, dk, evk⟩ := hk1.form
        obtain ⟨qk', dk', evk'⟩ := hk2.form
        subst eva eva' evk evk'
        have x0 := cell_keeps hkw (hc1 0 _ rfl)
        have y0 := cell_keeps hkw (hc2 0 _ rfl)
        have x1 := cell_keeps hkw (hc1 1 _ rfl)
        have y1 := cell_keeps hkw (hc2 1 _ rfl)
        have x2 := cell_keeps hkw (hc1 2 _ rfl)
        have y2 := cell_keeps hkw (hc2 2 _ rfl)
        have x3 := cell_keeps hkw (hc1 3 _ rfl)
        have y3 := cell_keeps hkw (hc2 3 _ rfl)
        have x4 := cell_keeps hkw (hc1 4 _ rfl)
        have y4 := cell_keeps hkw (hc2 4 _ rfl)
        have x5 := cell_keeps hkw (hc1 5 _ rfl)
        have y5 := cell_keeps hkw (hc2 5 _ rfl)
        have x6 := cell_keeps hkw (hc1 6 _ rfl)
        have y6 := cell_keeps hkw (hc2 6 _ rfl)
        have x7 := cell_keeps hkw (hc1 7 _ rfl)
        have y7 := cell_keeps hkw (hc2 7 _ rfl)
        have x8 := cell_keeps hkw (hc1 8 _ rfl)
        have y8 := cell_keeps hkw (hc2 8 _ rfl)
        have x9 := cell_keeps hkw (hc1 9 _ rfl)
        have y9 := cell_keeps hkw (hc2 9 _ rfl)
        have x10 := cell_keeps hkw (hc1 10 _ rfl)
        have y10 := cell_keeps hkw (hc2 10 _ rfl)
        have x11 := cell_keeps hkw (hc1 11 _ rfl)
        have y11 := cell_keeps hkw (hc2 11 _ rfl)
        have x12 := cell_keeps hkw (hc1 12 _ rfl)
        have y12 := cell_keeps hkw (hc2 12 _ rfl)
        have G1 := Lib.hid (fun (W : World) (hW : Keeps wr W) => alikeRuns_of e W A A' args _ _ (ha1.keep (keeps_hk (Keeps.trans hkw hW))) (ha2.keep (keeps_hk (Keeps.trans hkw hW))))
        have G2 := Lib.hid (fun (W : World) (hW : Keeps wr W) => alikeRun_of e W A A' seen _ _ (hs1.keep (keeps_hk (Keeps.trans hkw hW))) (hs2.keep (keeps_hk (Keeps.trans hkw hW))))
        have G3 := Lib.hid (fun (W : World) (hW : Keeps wr W) => alikeRun_of e W A A' wrote _ _ (hw1.keep (keeps_hk (Keeps.trans hkw hW))) (hw2.keep (keeps_hk (Keeps.trans hkw hW))))
        have G4 := Lib.hid (fun (W : World) (hW : Keeps wr W) => IH.out W A A' kids _ _ (hk1.keep (keeps_hk (Keeps.trans hkw hW))) (hk2.keep (keeps_hk (Keeps.trans hkw hW))))
        have k6 : (i : Int) < l.length := by omega
        have k7 : (0 : Int) ≤ i := by omega
        clear hc1 hc2 ha1 ha2 hs1 hs2 hw1 hw2 hk1 hk2 hkw hk
        simp only [Nat.add_zero] at x0 y0
        obtain ⟨W0, hW0⟩ : ∃ W0, W0 = (wr.alloc (Obj.cells #[.bool mod, .int .i64 site, .int .i64 addr, .slice qv args.length dv, .int .i64 ks, .int .i64 ms, .string ss, .slice ps ns cs, .int .i64 kw, .int .i64 mw, .string sw, .slice pw nw cw, .slice qk kids.length dk] 114)).alloc (Obj.cells #[.bool mod, .int .i64 site, .int .i64 addr, .slice qv' args.length dv', .int .i64 ks', .int .i64 ms', .string ss', .slice ps' ns' cs', .int .i64 kw', .int .i64 mw', .string sw', .slice pw' nw' cw', .slice qk' kids.length dk'] 114) := ⟨_, rfl⟩
        have hk0 : Keeps wr W0 := by rw [hW0]; exact Kept.alloc (Keeps.alloc _ _) _
        have hb1 : W0.heap[wr.heap.size]? = some (Obj.cells #[.bool mod, .int .i64 site, .int .i64 addr, .slice qv args.length dv, .int .i64 ks, .int .i64 ms, .string ss, .slice ps ns cs, .int .i64 kw, .int .i64 mw, .string sw, .slice pw nw cw, .slice qk kids.length dk] 114) := by rw [hW0]; exact heap_alloc_old _ (heap_alloc_at _ _)
        have hb2 : W0.heap[wr.heap.size + 1]? = some (Obj.cells #[.bool mod, .int .i64 site, .int .i64 addr, .slice qv' args.length dv', .int .i64 ks', .int .i64 ms', .string ss', .slice ps' ns' cs', .int .i64 kw', .int .i64 mw', .string sw', .slice pw' nw' cw', .slice qk' kids.length dk'] 114) := by
          rw [hW0]
          have h9 := heap_alloc_at (wr.alloc (Obj.cells #[.bool mod, .int .i64 site, .int .i64 addr, .slice qv args.length dv, .int .i64 ks, .int .i64 ms, .string ss, .slice ps ns cs, .int .i64 kw, .int .i64 mw, .string sw, .slice pw nw cw, .slice qk kids.length dk] 114)) (Obj.cells #[.bool mod, .int .i64 site, .int .i64 addr, .slice qv' args.length dv', .int .i64 ks', .int .i64 ms', .string ss', .slice ps' ns' cs', .int .i64 kw', .int .i64 mw', .string sw', .slice pw' nw' cw', .slice qk' kids.length dk'] 114)
          rw [World.size_alloc] at h9
          exact h9
        have HB1 := Lib.hid (fun (W : World) (hW : Keeps W0 W) => show W.cell? ⟨wr.heap.size, 4, none⟩ = some (.int .i64 ks) ∧ W.cell? ⟨wr.heap.size, 5, none⟩ = some (.int .i64 ms) ∧ W.cell? ⟨wr.heap.size, 6, none⟩ = some (.string ss) ∧ W.cell? ⟨wr.heap.size, 7, none⟩ = some (.slice ps ns cs) ∧ W.cell? ⟨wr.heap.size, 8, none⟩ = some (.int .i64 kw) ∧ W.cell? ⟨wr.heap.size, 9, none⟩ = some (.int .i64 mw) ∧ W.cell? ⟨wr.heap.size, 10, none⟩ = some (.string sw) ∧ W.cell? ⟨wr.heap.size, 11, none⟩ = some (.slice pw nw cw) ∧ W.cell? ⟨wr.heap.size, 12, none⟩ = some (.slice qk kids.length dk) ∧ W.cell? ⟨wr.heap.size + 1, 4, none⟩ = some (.int .i64 ks') ∧ W.cell? ⟨wr.heap.size + 1, 5, none⟩ = some (.int .i64 ms') ∧ W.cell? ⟨wr.heap.size + 1, 6, none⟩ = some (.string ss') ∧ W.cell? ⟨wr.heap.size + 1, 7, none⟩ = some (.slice ps' ns' cs') ∧ W.cell? ⟨wr.heap.size + 1, 8, none⟩ = some (.int .i64 kw') ∧ W.cell? ⟨wr.heap.size + 1, 9, none⟩ = some (.int .i64 mw') ∧ W.cell? ⟨wr.heap.size + 1, 10, none⟩ = some (.string sw') ∧ W.cell? ⟨wr.heap.size + 1, 11, none⟩ = some (.slice pw' nw' cw') ∧ W.cell? ⟨wr.heap.size + 1, 12, none⟩ = some (.slice qk' kids.length dk') from ⟨cell_of_block (hW.at hb1 (fun x => x)) 4, cell_of_block (hW.at hb1 (fun x => x)) 5, cell_of_block (hW.at hb1 (fun x => x)) 6, cell_of_block (hW.at hb1 (fun x => x)) 7, cell_of_block (hW.at hb1 (fun x => x)) 8, cell_of_block (hW.at hb1 (fun x => x)) 9, cell_of_block (hW.at hb1 (fun x => x)) 10, cell_of_block (hW.at hb1 (fun x => x)) 11, cell_of_block (hW.at hb1 (fun x => x)) 12, cell_of_block (hW.at hb2 (fun x => x)) 4, cell_of_block (hW.at hb2 (fun x => x)) 5, cell_of_block (hW.at hb2 (fun x => x)) 6, cell_of_block (hW.at hb2 (fun x => x)) 7, cell_of_block (hW.at hb2 (fun x => x)) 8, cell_of_block (hW.at hb2 (fun x => x)) 9, cell_of_block (hW.at hb2 (fun x => x)) 10, cell_of_block (hW.at hb2 (fun x => x)) 11, cell_of_block (hW.at hb2 (fun x => x)) 12⟩)
        have HB2 := Lib.hid (fun (W : World) (hW : Keeps W0 W) => show W.cell? ⟨wr.heap.size, 8, none⟩ = some (.int .i64 kw) ∧ W.cell? ⟨wr.heap.size, 9, none⟩ = some (.int .i64 mw) ∧ W.cell? ⟨wr.heap.size, 10, none⟩ = some (.string sw) ∧ W.cell? ⟨wr.heap.size, 11, none⟩ = some (.slice pw nw cw) ∧ W.cell? ⟨wr.heap.size, 12, none⟩ = some (.slice qk kids.length dk) ∧ W.cell? ⟨wr.heap.size + 1, 8, none⟩ = some (.int .i64 kw') ∧ W.cell? ⟨wr.heap.size + 1, 9, none⟩ = some (.int .i64 mw') ∧ W.cell? ⟨wr.heap.size + 1, 10, none⟩ = some (.string sw') ∧ W.cell? ⟨wr.heap.size + 1, 11, none⟩ = some (.slice pw' nw' cw') ∧ W.cell? ⟨wr.heap.size + 1, 12, none⟩ = some (.slice qk' kids.length dk') from ⟨cell_of_block (hW.at hb1 (fun x => x)) 8, cell_of_block (hW.at hb1 (fun x => x)) 9, cell_of_block (hW.at hb1 (fun x => x)) 10, cell_of_block (hW.at hb1 (fun x => x)) 11, cell_of_block (hW.at hb1 (fun x => x)) 12, cell_of_block (hW.at hb2 (fun x => x)) 8, cell_of_block (hW.at hb2 (fun x => x)) 9, cell_of_block (hW.at hb2 (fun x => x)) 10, cell_of_block (hW.at hb2 (fun x => x)) 11, cell_of_block (hW.at hb2 (fun x => x)) 12⟩)
        have HB3 := Lib.hid (fun (W : World) (hW : Keeps W0 W) => show W.cell? ⟨wr.heap.size, 12, none⟩ = some (.slice qk kids.length dk) ∧ W.cell? ⟨wr.heap.size + 1, 12, none⟩ = some (.slice qk' kids.length dk') from ⟨cell_of_block (hW.at hb1 (fun x => x)) 12, cell_of_block (hW.at hb2 (fun x => x)) 12⟩)
        have HK0 := Lib.hid hk0
        clear hb1 hb2 hk0
        have z0 := cell_keeps (Keeps.alloc wr (Obj.cells #[.bool mod, .int .i64 site, .int .i64 addr, .slice qv args.length dv, .int .i64 ks, .int .i64 ms, .string ss, .slice ps ns cs, .int .i64 kw, .int .i64 mw, .string sw, .slice pw nw cw, .slice qk kids.length dk] 114)) y0
        have z1 := cell_keeps (Keeps.alloc wr (Obj.cells #[.bool mod, .int .i64 site, .int .i64 addr, .slice qv args.length dv, .int .i64 ks, .int .i64 ms, .string ss, .slice ps ns cs, .int .i64 kw, .int .i64 mw, .string sw, .slice pw nw cw, .slice qk kids.length dk] 114)) y1
        have z2 := cell_keeps (Keeps.alloc wr (Obj.cells #[.bool mod, .int .i64 site, .int .i64 addr, .slice qv args.length dv, .int .i64 ks, .int .i64 ms, .string ss, .slice ps ns cs, .int .i64 kw, .int .i64 mw, .string sw, .slice pw nw cw, .slice qk kids.length dk] 114)) y2
        have z3 := cell_keeps (Keeps.alloc wr (Obj.cells #[.bool mod, .int .i64 site, .int .i64 addr, .slice qv args.length dv, .int .i64 ks, .int .i64 ms, .string ss, .slice ps ns cs, .int .i64 kw, .int .i64 mw, .string sw, .slice pw nw cw, .slice qk kids.length dk] 114)) y3
        have z4 := cell_keeps (Keeps.alloc wr (Obj.cells #[.bool mod, .int .i64 site, .int .i64 addr, .slice qv args.length dv, .int .i64 ks, .int .i64 ms, .string ss, .slice ps ns cs, .int .i64 kw, .int .i64 mw, .string sw, .slice pw nw cw, .slice qk kids.length dk] 114)) y4
        have z5 := cell_keeps (Keeps.alloc wr (Obj.cells #[.bool mod, .int .i64 site, .int .i64 addr, .slice qv args.length dv, .int .i64 ks, .int .i64 ms, .string ss, .slice ps ns cs, .int .i64 kw, .int .i64 mw, .string sw, .slice pw nw cw, .slice qk kids.length dk] 114)) y5
        have z6 := cell_keeps (Keeps.alloc wr (Obj.cells #[.bool mod, .int .i64 site, .int .i64 addr, .slice qv args.length dv, .int .i64 ks, .int .i64 ms, .string ss, .slice ps ns cs, .int .i64 kw, .int .i64 mw, .string sw, .slice pw nw cw, .slice qk kids.length dk] 114)) y6
        have z7 := cell_keeps (Keeps.alloc wr (Obj.cells #[.bool mod, .int .i64 site, .int .i64 addr, .slice qv args.length dv, .int .i64 ks, .int .i64 ms, .string ss, .slice ps ns cs, .int .i64 kw, .int .i64 mw, .string sw, .slice pw nw cw, .slice qk kids.length dk] 114)) y7
        have z8 := cell_keeps (Keeps.alloc wr (Obj.cells #[.bool mod, .int .i64 site, .int .i64 addr, .slice qv args.length dv, .int .i64 ks, .int .i64 ms, .string ss, .slice ps ns cs, .int .i64 kw, .int .i64 mw, .string sw, .slice pw nw cw, .slice qk kids.length dk] 114)) y8
        have z9 := cell_keeps (Keeps.alloc wr (Obj.cells #[.bool mod, .int .i64 site, .int .i64 addr, .slice qv args.length dv, .int .i64 ks, .int .i64 ms, .string ss, .slice ps ns cs, .int .i64 kw, .int .i64 mw, .string sw, .slice pw nw cw, .slice qk kids.length dk] 114)) y9
        have z10 := cell_keeps (Keeps.alloc wr (Obj.cells #[.bool mod, .int .i64 site, .int .i64 addr, .slice qv args.length dv, .int .i64 ks, .int .i64 ms, .string ss, .slice ps ns cs, .int .i64 kw, .int .i64 mw, .string sw, .slice pw nw cw, .slice qk kids.length dk] 114)) y10
        have z11 := cell_keeps (Keeps.alloc wr (Obj.cells #[.bool mod, .int .i64 site, .int .i64 addr, .slice qv args.length dv, .int .i64 ks, .int .i64 ms, .string ss, .slice ps ns cs, .int .i64 kw, .int .i64 mw, .string sw, .slice pw nw cw, .slice qk kids.length dk] 114)) y11
        have z12 := cell_keeps (Keeps.alloc wr (Obj.cells #[.bool mod, .int .i64 site, .int .i64 addr, .slice qv args.length dv, .int .i64 ks, .int .i64 ms, .string ss, .slice ps ns cs, .int .i64 kw, .int .i64 mw, .string sw, .slice pw nw cw, .slice qk kids.length dk] 114)) y12
        go_wp2_with (first
          | (go_at_call 58; rw [← hW0]; refine (G1.out _ HK0.out).mono ?_; rintro _ w2 ⟨rfl, hk2⟩; clear x0 x1 x2 x3 x4 x5 x6 x7 x8 x9 x10 x11 x12 y0 y1 y2 y3 y4 y5 y6 y7 y8 y9 y10 y11 y12 z0 z1 z2 z3 z4 z5 z6 z7 z8 z9 z10 z11 z12; clear hW0 G1; obtain ⟨p4, p5, p6, p7, p8, p9, p10, p11, p12, q4, q5, q6, q7, q8, q9, q10, q11, q12⟩ := HB1.out _ hk2; have HK2 := Lib.hid hk2; clear hk2 HB1)
          | (go_at_call 59; refine (G2.out _ (Keeps.trans HK0.out HK2.out)).mono ?_; rintro _ w3 ⟨rfl, hk3⟩; clear G2 p4 q4 p5 q5 p6 q6 p7 q7 p8 q8 p9 q9 p10 q10 p11 q11 p12 q12; obtain ⟨p8, p9, p10, p11, p12, q8, q9, q10, q11, q12⟩ := HB2.out _ (Keeps.trans HK2.out hk3); have HK3 := Lib.hid (Keeps.trans HK2.out hk3); clear hk3 HB2)
          | (go_at_call 59; refine (G3.out _ (Keeps.trans HK0.out HK3.out)).mono ?_; rintro _ w4 ⟨rfl, hk4⟩; clear G3 p8 q8 p9 q9 p10 q10 p11 q11 p12 q12; obtain ⟨p12, q12⟩ := HB3.out _ (Keeps.trans HK3.out hk4); have HK4 := Lib.hid (Keeps.trans HK3.out hk4); clear hk4 HB3)
          | (go_at_call 25; refine (G4.out _ (Keeps.trans HK0.out HK4.out)).mono ?_; rintro _ w5 ⟨rfl, hk5⟩; clear G4 p12 q12))
        all_goals go_roundw
        case rel => exact ⟨i + 1, by omega, by go_num, Keeps.trans HK.out (Keeps.trans HK0.out (Keeps.trans HK4.out hk5))⟩
        case measure => simp [intOf] <;> omega
      · obtain rfl : i = l.length := by omega
        go_wp2_with fail
        go_ret
        exact ⟨rfl, HK.out⟩
end Go.Proofs.YtbhiaeciiphelaaGreatDoor
