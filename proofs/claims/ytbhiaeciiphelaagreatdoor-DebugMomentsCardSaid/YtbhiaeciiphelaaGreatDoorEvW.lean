/-
  DERIVED. Contract of package debug's read: what it returns, and how that lies in memory. Condition: the events lie in a row; there are at most a thousand million.
-/
import Derived.Test.YtbhiaeciiphelaaGreatDoorEvM
import Derived.Test.YtbhiaeciiphelaaGreatDoorEvC
import Derived.Carry
import Derived.OwnWalk
import Derived.StillTailTactics
namespace Go.Proofs.YtbhiaeciiphelaaGreatDoor
open Go.RowKit
/-- Events lie in a row of memory. -/
structure EvsAt (w : World) (a : Option Addr) (evs : List Ev) : Prop where
  ev : ∀ (i : Nat) (e : Ev), evs[i]? = some e → ∃ eb eo, a = some ⟨eb, eo, none⟩ ∧ eb < w.heap.size ∧ ∀ (j : Nat) (v : Value), e.cells[j]? = some v → w.cell? ⟨eb, eo + i * 8 + j, none⟩ = some v
theorem EvsAt.keeps {w w' : World} {a : Option Addr} {evs : List Ev} (h : EvsAt w a evs) (hk : Keeps w w') : EvsAt w' a evs :=
  ⟨fun i e he => by
    obtain ⟨eb, eo, h1, h2, h3⟩ := h.ev i e he
    refine ⟨eb, eo, h1, Nat.lt_of_lt_of_le h2 hk.size, fun j v hv => ?_⟩
    rw [World.cell?_of_block (w' := w') (w := w) (hk.block eb h2 (fun x => x))]
    exact h3 j v hv⟩
theorem EvsAt.cells {w : World} {a : Option Addr} {evs : List Ev} (h : EvsAt w a evs) {i : Nat} {e : Ev} (he : evs[i]? = some e) : ∃ eb eo, a = some ⟨eb, eo, none⟩ ∧ eb < w.heap.size ∧
    w.cell? ⟨eb, eo + i * 8, none⟩ = some (.int .i64 e.kind) ∧ w.cell? ⟨eb, eo + i * 8 + 1, none⟩ = some (.int .i64 e.site) ∧ w.cell? ⟨eb, eo + i * 8 + 2, none⟩ = some (.int .i64 e.addr) ∧
    w.cell? ⟨eb, eo + i * 8 + 3, none⟩ = some (.slice e.args e.argn e.argc) ∧ w.cell? ⟨eb, eo + i * 8 + 4, none⟩ = some (.int .i64 e.vk) ∧ w.cell? ⟨eb, eo + i * 8 + 5, none⟩ = some (.int .i64 e.vn) ∧
    w.cell? ⟨eb, eo + i * 8 + 6, none⟩ = some (.string e.vs) ∧ w.cell? ⟨eb, eo + i * 8 + 7, none⟩ = some (.slice e.va e.van e.vac) := by
  obtain ⟨eb, eo, h1, h2, h3⟩ := h.ev i e he
  exact ⟨eb, eo, h1, h2, h3 0 _ rfl, h3 1 _ rfl, h3 2 _ rfl, h3 3 _ rfl, h3 4 _ rfl, h3 5 _ rfl, h3 6 _ rfl, h3 7 _ rfl⟩

theorem read_stop {evs : List Ev} {i : Nat} {e : Ev} {s : St} (hr : St.start.run 0 (evs.take i) = some s) (he : evs[i]? = some e) (hs : s.step i e = none) : readOf evs = none := by
  have h1 := (St.run_take _ _ _ _ _ hr he).trans hs
  have h2 := St.run_append St.start 0 (evs.take (i + 1)) (evs.drop (i + 1))
  rw [List.take_append_drop, h1] at h2
  unfold readOf
  rw [h2]
  rfl
theorem step_form {s : St} {i : Nat} {e : Ev} (h : e.form = false) : s.step i e = none := by unfold St.step; rw [if_pos h]
theorem step_top {s : St} {i : Nat} {e : Ev} (h : e.form = true) (hk : ¬ e.kind = 1) (ht : s.top = none) : s.step i e = none := by
  unfold St.step; rw [if_neg (by simp [h]), if_neg hk, ht]
theorem step_make {s : St} {i : Nat} {e : Ev} (h : e.form = true) (hk : e.kind = 1) (ha : s.sps.any (fun p => p.addr == e.addr) = false) : s.step i e = some ⟨s.sps ++ [⟨i, 0, s.top, e.addr, []⟩], some s.sps.length, s.nodes + 1, s.within ++ [s.sps.length]⟩ := by
  unfold St.step; rw [if_neg (by simp [h]), if_pos hk, ha]; rfl
theorem step_made {s : St} {i : Nat} {e : Ev} (h : e.form = true) (hk : e.kind = 1) (ha : s.sps.any (fun p => p.addr == e.addr) = true) : s.step i e = none := by
  unfold St.step; rw [if_neg (by simp [h]), if_pos hk, ha]; rfl
theorem step_read {s : St} {i k : Nat} {e : Ev} {p : Sp} (h : e.form = true) (hk : e.kind = 2) (ht : s.top = some k) (hp : s.sps[k]? = some p) : s.step i e = some ⟨s.sps.set k { p with reads := p.reads ++ [i] }, some k, s.nodes + 1, s.within ++ [k]⟩ := by
  unfold St.step; rw [if_neg (by simp [h]), if_neg (by omega), ht]; simp only [hp]; rw [if_pos hk]
theorem step_write {s : St} {i k : Nat} {e : Ev} {p : Sp} (h : e.form = true) (hk : ¬ e.kind = 1) (hk2 : ¬ e.kind = 2) (ht : s.top = some k) (hp : s.sps[k]? = some p) (ha : p.addr = e.addr) : s.step i e = some ⟨s.sps.set k { p with to := i }, p.outer, s.nodes, s.within ++ [k]⟩ := by
  unfold St.step; rw [if_neg (by simp [h]), if_neg hk, ht]; simp only [hp]; rw [if_neg hk2, if_pos ha]
theorem step_wrong {s : St} {i k : Nat} {e : Ev} {p : Sp} (h : e.form = true) (hk : ¬ e.kind = 1) (hk2 : ¬ e.kind = 2) (ht : s.top = some k) (hp : s.sps[k]? = some p) (ha : ¬ p.addr = e.addr) : s.step i e = none := by
  unfold St.step; rw [if_neg (by simp [h]), if_neg hk, ht]; simp only [hp]; rw [if_neg hk2, if_neg ha]
theorem form_kind {e : Ev} (h : e.form = true) (hk : ¬ e.kind = 1) (hk2 : ¬ e.kind = 2) : e.kind = 3 := by
  unfold Ev.form at h
  apply Classical.byContradiction
  intro k3
  simp [hk, hk2, k3] at h
theorem form_addr {e : Ev} (h : e.form = true) : 0 ≤ e.addr ∧ e.addr < 30000 := by
  unfold Ev.form at h
  simp only [Bool.and_eq_true, decide_eq_true_eq] at h
  exact ⟨h.1, h.2.1⟩
theorem look_none {m : List (Int × Nat)} {sps : List Sp} (ha : m.map (·.1) = sps.map (·.addr)) {a : Int} (h : sps.any (fun p => p.addr == a) = false) : lookP m a = none := by
  unfold lookP
  rw [List.find?_eq_none.2]
  · rfl
  · intro x hx hxa
    have : x.1 ∈ sps.map (·.addr) := ha ▸ List.mem_map.2 ⟨x, hx, rfl⟩
    obtain ⟨p, hp, hpa⟩ := List.mem_map.1 this
    have h2 : sps.any (fun p => p.addr == a) = true := List.any_eq_true.2 ⟨p, hp, by simpa [hpa] using hxa⟩
    rw [h] at h2; cases h2
theorem look_some {m : List (Int × Nat)} {sps : List Sp} (ha : m.map (·.1) = sps.map (·.addr)) {a : Int} (h : sps.any (fun p => p.addr == a) = true) : ∃ (k : Nat) (p : Sp) (b : Nat), sps[k]? = some p ∧ p.addr = a ∧ m[k]? = some (a, b) ∧ lookP m a = some ⟨b, 0, none⟩ := by
  unfold lookP
  cases hf : m.find? (fun p => p.1 == a) with
  | none =>
    obtain ⟨p, hp, hpa⟩ := List.any_eq_true.1 h
    have : p.addr ∈ m.map (·.1) := ha ▸ List.mem_map.2 ⟨p, hp, rfl⟩
    obtain ⟨x, hx, hxa⟩ := List.mem_map.1 this
    exact absurd (by simpa [hxa] using hpa) (List.find?_eq_none.1 hf x hx)
  | some x =>
    have hx1 : x.1 = a := by simpa using List.find?_some hf
    obtain ⟨k, hk⟩ := List.mem_iff_getElem?.1 (List.mem_of_find?_eq_some hf)
    have e := congrArg (fun l => l[k]?) ha
    simp only [List.getElem?_map, hk, Option.map_some] at e
    cases hp : sps[k]? with
    | none => rw [hp] at e; cases e
    | some p =>
      rw [hp] at e
      simp only [Option.map_some, Option.some.injEq] at e
      exact ⟨k, p, x.2, hp, e ▸ hx1, by rw [hk, ← hx1], by simp⟩

def ReadPost (w : World) (ev : Value) (evs : List Ev) (x : Ending) (w' : World) : Prop :=
  Keeps w w' ∧ match readOf evs with
    | none => x = .returned (.pointer none)
    | some s => ∃ L M wv m rf, x = .returned (.pointer (some ⟨L, 0, none⟩)) ∧ RMem w w' ev L M wv m rf s.sps s.within
theorem ReadPost.no {w w' : World} {ev : Value} {evs : List Ev} (hk : Keeps w w') (h : readOf evs = none) : ReadPost w ev evs (.returned (.pointer none)) w' := ⟨hk, by rw [h]⟩
theorem row_succ {W : World} {base : Nat} {e : TypeId} {size : Nat} {v : Value} {k : Nat} {xs : List Value} (h : W.ownsRow base e size v (k + 1) xs) : ∃ g cap, v = .slice (some ⟨g, 0, none⟩) (k + 1) cap := by
  rcases h.2 with ⟨_, h⟩ | ⟨g, cap, cur, hv, _⟩
  · omega
  · exact ⟨g, cap, hv⟩
theorem info3 : (Tryz.prog.info? 3).map (fun i => (i.zero, i.size, i.bytes)) = some (some (.int .i64 0), 1, 8) := by kernel_rfl
theorem under35 : Tryz.prog.underlying 35 = some (.slice 3) := by kernel_rfl
theorem info99 : (Tryz.prog.info? 99).map (fun i => (i.zero, i.size, i.bytes)) = some (some (.pointer none), 1, 8) := by kernel_rfl
theorem under128 : Tryz.prog.underlying 128 = some (.slice 99) := by kernel_rfl
set_option maxHeartbeats 4000000 in
set_option maxRecDepth 100000 in
theorem read_of (w : World) (a : Option Addr) (n c : Nat) (evs : List Ev) (hev : EvsAt w a evs) (hn : n = evs.length) (hlen : n ≤ 1000000000) :
    Calls Tryz.prog 47 #[.slice a n c] w (ReadPost w (.slice a n c) evs) := by
  have HE := Lib.hid hev
  have HN := Lib.hid hn
  have Hf := Lib.hid isForm_of
  have hmm := @run_makeMap Tryz.prog
  obtain ⟨i3, hi3, hz3, hs3, hb3⟩ := info_parts info3
  obtain ⟨i9, hi9, hz9, hs9, hb9⟩ := info_parts info99
  clear hev hn
  go_enter Tryz.func47, Tryz.ntmps47
  go_wp2
  clear hmm
  go_loopw [4, 5, 14] (fun o nd q wr => ∃ (i : Nat) (s : St) (wv : Value) (m : List (Int × Nat)) (rf : Nat → Value), i ≤ n ∧ q = .int .i64 i ∧ o = .pointer (ptrOf m s.top) ∧ nd = .int .i64 s.nodes ∧
    St.start.run 0 (evs.take i) = some s ∧ RMem w wr (.slice a n c) (w.heap.size + 1) w.heap.size wv m rf s.sps s.within) (fun _ _ q _ => n - (intOf q).toNat)
  case atStart =>
    have hsz : (w.alloc (.map #[] 0)).heap.size = w.heap.size + 1 := World.size_alloc _ _
    refine ⟨0, St.start, .slice none 0 0, [], fun _ => .slice none 0 0, Nat.zero_le _, rfl, rfl, rfl, rfl, RMem.start (((Kept.refl _ w).alloc _).alloc _) ?_ (Nat.le_succ _) (Nat.le_refl _) ⟨#[], 0, heap_alloc_old _ (heap_alloc_at w _), rfl⟩⟩
    rw [← hsz]; exact heap_alloc_at _ _
  case round =>
    obtain ⟨i, s, wv, m, rf, hi, rfl, rfl, rfl, hrun, hmem⟩ := hrel
    have HM := Lib.hid hmem
    have HR := Lib.hid hrun
    clear hmem hrun
    by_cases hin : i < n
    · obtain ⟨e, he⟩ : ∃ e, evs[i]? = some e := ⟨evs[i]'(by rw [← HN.out]; omega), List.getElem?_eq_getElem _⟩
      obtain ⟨eb, eo, rfl, hlt, c0, c1, c2, c3, c4, c5, c6, c7⟩ := (HE.out.keeps HM.out.kept).cells he
      have HI := Lib.hid he
      clear he
      have k1 : (i : Int) < n := by omega
      have k2 : (0 : Int) ≤ i := by omega
      have k3 : s.nodes ≤ i := (run_ok i (by rw [← HN.out]; omega) HR.out).1.nodes
      generalize hto : ptrOf m s.top = to
      have HTo := Lib.hid hto
      clear hto
      go_wp2_with fail
      refine (Hf.out e _).mono ?_
      rintro _ w2 ⟨rfl, hk2⟩
      have hM2 := (HM.out.keeps (Keeps.alloc _ _)).keeps hk2
      have hE2 := hk2.at (heap_alloc_at _ _) (fun x => x)
      have d0 := cell_of_block hE2 0
      have d1 := cell_of_block hE2 1
      have d2 := cell_of_block hE2 2
      have d3 := cell_of_block hE2 3
      simp at d0 d1 d2 d3
      generalize wr.heap.size = E at *
      have HM2 := Lib.hid hM2
      have HE2 := Lib.hid hE2
      clear hM2 hE2 hk2 c0 c1 c2 c3 c4 c5 c6 c7 HM
      cases hf : e.form with
      | false =>
        go_wp2
        go_ret
        exact ReadPost.no HM2.out.kept (read_stop HR.out HI.out (step_form hf))
      | true =>
        by_cases hk1 : e.kind = 1
        · rw [hk1] at d0
          have e1 : w2.cell? ⟨w.heap.size + 1, 1, none⟩ = some (.map (some w.heap.size)) := by rw [cell_of_block HM2.out.hL]; rfl
          have hnd : (m.map (·.1)).Nodup := by
            rw [HM2.out.addrs]
            exact (run_ok i (by rw [← HN.out]; omega) HR.out).1.nd
          have hlk : ∀ nq, (Instr.lookup 127 (.map (some w.heap.size)) (.int .i64 e.addr) false).run Tryz.prog (w2.drewN nq) = .ok (.pointer (lookP m e.addr)) (w2.drewN nq) :=
            fun nq => (HM2.out.map.same (w' := w2.drewN nq) rfl).look hnd e.addr
          have HND := Lib.hid hnd
          clear hnd
          cases hany : s.sps.any (fun p => p.addr == e.addr) with
          | true =>
            obtain ⟨k, p, b, _, _, _, hlo⟩ := look_some HM2.out.addrs hany
            rw [hlo] at hlk
            go_wp2_with fail
            go_quiet (fail)
            go_wp2
            go_ret
            exact ReadPost.no (Kept.drewN HM2.out.kept _) (read_stop HR.out HI.out (step_made hf hk1 hany))
          | false =>
            have hlo := look_none HM2.out.addrs hany
            rw [hlo] at hlk
            go_wp2_with fail
            go_quiet (fail)
            go_wp2_with fail
            obtain ⟨W3, hW3⟩ : ∃ W3, W3 = ((w2.drewN nq).alloc (.cells #[.int .i64 i, .int .i64 0, .pointer to, .slice none 0 0] 103)).drew := ⟨_, rfl⟩
            have hK3 : Keeps w2 W3 := by rw [hW3]; exact (((Kept.refl _ w2).drewN nq).alloc _).drew
            have hM3 := HM2.out.keeps hK3
            have hE3 := hK3.at HE2.out (fun x => x)
            have hS3 : W3.heap[w2.heap.size]? = some (.cells #[.int .i64 i, .int .i64 0, .pointer to, .slice none 0 0] 103 (0, 0)) := by rw [hW3]; exact heap_alloc_at (w2.drewN nq) _
            obtain ⟨W4, hput, hK4, hmap⟩ := hM3.map.add HND.out e.addr w2.heap.size hlo
            have e3 : W3.cell? ⟨w.heap.size + 1, 1, none⟩ = some (.map (some w.heap.size)) := by rw [cell_of_block hM3.hL]; rfl
            have f2 : W3.cell? ⟨E, 2, none⟩ = some (.int .i64 e.addr) := by rw [cell_of_block hE3]; rfl
            have htop : ∀ k, s.top = some k → k < s.sps.length := (run_ok i (by rw [← HN.out]; omega) HR.out).1.top
            have hE4 := hK4.at hE3 (fun e => by rw [e] at hE3; obtain ⟨es, cl, q, _⟩ := hM3.map; rw [q] at hE3; cases hE3)
            have hM4 := HM2.out.make (i := i) (a := e.addr) htop (nb := w2.heap.size) (Nat.le_refl _) (Kept.trans (T := fun x => x = w.heap.size) (hK3.mono (fun _ _ x => x.elim)) hK4 (fun _ _ x => x))
              (by rw [hK4.at hS3 (fun e => by rw [e] at hS3; obtain ⟨es, cl, q, _⟩ := hM3.map; rw [q] at hS3; cases hS3)]; simp only [spanObj, HTo.out]; rfl) hmap
            have hlenN := (run_ok i (by rw [← HN.out]; omega) HR.out).1
            have hbnd : s.within.length = i := hlenN.win
            have hnds : s.nodes ≤ i := hlenN.nodes
            have e4 : W4.cell? ⟨w.heap.size + 1, 2, none⟩ = some wv := by rw [cell_of_block hM4.hL]; rfl
            have HM4 := Lib.hid hM4
            have HE4 := Lib.hid hE4
            have HB := Lib.hid hbnd
            have HNd := Lib.hid hnds
            have HPo := Lib.hid (show ptrOf (m ++ [(e.addr, w2.heap.size)]) (some s.sps.length) = some ⟨w2.heap.size, 0, none⟩ by simp [ptrOf, ← HM2.out.len])
            clear hM3 hmap hS3 hE3 hK3 hlk hlo d0 d1 d2 d3 e1 hM4 hE4 hK4 htop hlenN hbnd hnds
            refine wp_region_still_tail 7 (by kernel_rfl) (by kernel_rfl) ?_
            simp only [List.take_succ_cons, List.take_zero, List.drop_succ_cons, List.drop_zero]
            change wpStill _ _ (World.drew _) (fun a' => wpList _ _ _ _ a' (World.drew _)) _ _
            rw [← hW3]
            clear hW3
            repeat still_step
            refine wpStill_nil ?_
            go_wp2_with (at_builtin; (refine wpList_append_own_at _ rfl (.tmp 74) (.tmp 76) 128 rfl w.heap.size 99 i9 (.pointer none) 1 8 under128 hi9 hz9 hs9 hb9 rfl (by decide) wv s.within.length (s.within.map fun k => .pointer (ptrOf (m ++ [(e.addr, w2.heap.size)]) (some k))) rfl (HM4.out.winr.alloc _) ⟨W4.heap.size, 0, none⟩ 1 1 [.pointer (some ⟨w2.heap.size, 0, none⟩)] rfl rfl (cell_one_new _ _ _) (by simp [Value.oneCell']) (by rw [HB.out]; unfold maxLen; omega) (by rw [HB.out]; omega) (by have := HM4.out.kept.size; simp; omega) ?_; intro v5 w5 hown5 hgrow5 hnil5 hat5; obtain ⟨g5, cap5, rfl⟩ := row_succ hown5; obtain ⟨hM6, hL5, hEk⟩ := HM4.out.gathered (k := s.sps.length) (by simp) hgrow5 (by rw [HPo.out]; exact hown5); have hE6 := hEk _ _ HE4.out; have g0 := cell_of_block hE6 0; have g1 := cell_of_block hL5 2; have g2 := free_of_block hL5 2; simp at g0 g1; have HM6 := Lib.hid hM6; clear hM6 hL5 hEk hE6 hown5 hgrow5 hnil5 hat5))
            go_roundw
            case rel => exact ⟨i + 1, _, _, _, _, by omega, by go_num, by rw [HPo.out], by have h1 := HNd.out; go_num, (St.run_take _ _ _ _ _ HR.out HI.out).trans (step_make hf hk1 hany), HM6.out⟩
            case measure => simp [intOf]; omega
        · cases htop : s.top with
          | none =>
            have hto := HTo.out
            rw [htop] at hto
            simp only [ptrOf] at hto
            subst hto
            go_wp2
            go_ret
            exact ReadPost.no HM2.out.kept (read_stop HR.out HI.out (step_top hf hk1 htop))
          | some k =>
            have hok := (run_ok i (by rw [← HN.out]; omega) HR.out).1
            have hkl := hok.top k htop
            obtain ⟨p, hp⟩ : ∃ p, s.sps[k]? = some p := ⟨_, List.getElem?_eq_getElem hkl⟩
            obtain ⟨b, hx, hbn, hb⟩ := HM2.out.at hp
            have hto := HTo.out
            rw [htop] at hto
            simp only [ptrOf, hx, Option.map_some] at hto
            subst hto
            have b0 : w2.cell? ⟨b, 0, none⟩ = some (.int .i64 p.frm) := by rw [cell_of_block hb]; rfl
            have b3 : w2.cell? ⟨b, 3, none⟩ = some (rf k) := by rw [cell_of_block hb]; rfl
            have e2 : w2.cell? ⟨w.heap.size + 1, 2, none⟩ = some wv := by rw [cell_of_block HM2.out.hL]; rfl
            have HB := Lib.hid hok.win
            have HNd := Lib.hid hok.nodes
            have HRd := Lib.hid (hok.reads k p hp)
            have HFr := Lib.hid (hok.frm k p hp)
            have HP := Lib.hid hp
            have HX := Lib.hid hx
            have HBk := Lib.hid hb
            have HT := Lib.hid htop
            have hpo : ptrOf m (some k) = some ⟨b, 0, none⟩ := by simp [ptrOf, hx]
            have HPo := Lib.hid hpo
            clear hok hkl hp hx hb htop hbn hpo
            by_cases hk2 : e.kind = 2
            · rw [hk2] at d0
              go_wp2_with (first
                | (at_builtin; refine wpList_append_own_at _ rfl (.tmp 62) (.tmp 64) 35 rfl w.heap.size 3 i3 (.int .i64 0) 1 8 under35 hi3 hz3 hs3 hb3 rfl (by decide) (rf k) p.reads.length (nums p.reads) rfl ((HM2.out.rows k p HP.out).alloc _) ⟨w2.heap.size, 0, none⟩ 1 1 [.int .i64 i] rfl rfl (cell_one_new _ _ _) (by simp [Value.oneCell']) (by have := HRd.out; unfold maxLen; omega) (by have := HRd.out; omega) (by have := HM2.out.kept.size; simp; omega) ?_; (intro v5 w5 hown5 hgrow5 hnil5 hat5; obtain ⟨g5, cap5, rfl⟩ := row_succ hown5; obtain ⟨hM6, hL5, hEk⟩ := HM2.out.noted HP.out HX.out hgrow5 hown5 hat5; have hE6 := hEk _ _ HE2.out; have g0 := cell_of_block hE6 0; have g1 := cell_of_block hL5 3; have g2 := free_of_block hL5 3; have e6 := cell_of_block hM6.hL 2; simp at g0 g1 e6; have HM6 := Lib.hid hM6; have HE6 := Lib.hid hE6; clear hM6 hL5 hEk hE6 hown5 hgrow5 hnil5 hat5))
                | (at_builtin; (refine wpList_append_own_at _ rfl (.tmp 74) (.tmp 76) 128 rfl w.heap.size 99 i9 (.pointer none) 1 8 under128 hi9 hz9 hs9 hb9 rfl (by decide) wv s.within.length (s.within.map fun k => .pointer (ptrOf m (some k))) rfl (HM6.out.winr.alloc _) ⟨_, 0, none⟩ 1 1 [.pointer (some ⟨b, 0, none⟩)] rfl rfl (by intro j u hj; have h9 := cell_one_new (w5.setCell ⟨b, 3, none⟩ (.slice (some ⟨g5, 0, none⟩) (p.reads.length + 1) cap5)) (.pointer (some ⟨b, 0, none⟩)) 99 j u hj; simpa [World.setCell] using h9) (by simp [Value.oneCell']) (by rw [HB.out]; unfold maxLen; omega) (by rw [HB.out]; omega) (by have h9 := HM6.out.kept.size; rw [World.size_alloc]; exact Nat.le_succ_of_le h9) ?_; (intro v7 w7 hown7 hgrow7 hnil7 hat7; obtain ⟨g7, cap7, rfl⟩ := row_succ hown7; obtain ⟨hM8, hL7, hEk⟩ := HM6.out.gathered (k := k) (by simpa using (List.getElem?_eq_some_iff.1 HP.out).1) hgrow7 (by rw [HPo.out]; exact hown7); have hE8 := hEk _ _ HE6.out; have q0 := cell_of_block hE8 0; have q1 := cell_of_block hL7 2; have q2 := free_of_block hL7 2; simp at q0 q1; have HM8 := Lib.hid hM8; clear hM8 hL7 hEk hE8 hown7 hgrow7 hnil7 hat7))))
              go_roundw
              case rel => exact ⟨i + 1, _, _, _, _, by omega, by go_num, by rw [HPo.out], by have h1 := HNd.out; go_num, (St.run_take _ _ _ _ _ HR.out HI.out).trans (step_read hf hk2 HT.out HP.out), HM8.out⟩
              case measure => simp [intOf]; omega
            · have hk3 := form_kind hf hk1 hk2
              rw [hk3] at d0
              go_wp2_with (at_builtin; refine wpList_append_own_at _ rfl (.tmp 74) (.tmp 76) 128 rfl w.heap.size 99 i9 (.pointer none) 1 8 under128 hi9 hz9 hs9 hb9 rfl (by decide) wv s.within.length (s.within.map fun k => .pointer (ptrOf m (some k))) rfl (HM2.out.winr.alloc _) ⟨_, 0, none⟩ 1 1 [.pointer (some ⟨b, 0, none⟩)] rfl rfl (cell_one_new _ _ _) (by simp [Value.oneCell']) (by rw [HB.out]; unfold maxLen; omega) (by rw [HB.out]; omega) (by have := HM2.out.kept.size; simp; omega) ?_; (intro v7 w7 hown7 hgrow7 hnil7 hat7; obtain ⟨g7, cap7, rfl⟩ := row_succ hown7; obtain ⟨hM8, hL7, hEk⟩ := HM2.out.gathered (k := k) ((List.getElem?_eq_some_iff.1 HP.out).1) hgrow7 (by rw [HPo.out]; exact hown7); have hE8 := hEk _ _ HE2.out; have q0 := cell_of_block hE8 0; have q3 := cell_of_block hE8 2; have q1 := cell_of_block hL7 2; have q2 := free_of_block hL7 2; simp at q0 q1 q3; have HM8 := Lib.hid hM8; have HE8 := Lib.hid hE8; clear hM8 hL7 hEk hE8 hown7 hgrow7 hnil7 hat7))
              obtain ⟨hfr, e0, he0, hea⟩ := HFr.out
              have hb8 := HM8.out.sp k p _ HP.out HX.out
              obtain ⟨eb', eo', heq, hlt', _, _, r2, _⟩ := (HE.out.keeps HM8.out.kept).cells he0
              injection heq with heq
              injection heq with heq1 heq2
              subst heq1 heq2
              have q4 := cell_of_block hb8 0
              have q5 := cell_of_block hb8 2
              simp at q4 q5
              have q6 := free_of_block hb8 1
              have q7 := cell_of_block hb8 1
              simp at q7
              have k4 : (p.frm : Int) < n := by omega
              have k5 : (0 : Int) ≤ p.frm := by omega
              rw [hea] at r2
              generalize hto2 : ptrOf m p.outer = to2 at q5
              have HTo2 := Lib.hid hto2
              have HC := Lib.hid (HM8.out.closed (i := i) HP.out HX.out)
              clear hto2 hb8 hlt' he0 hea
              by_cases hpa : p.addr = e.addr
              · go_quiet (fail)
                go_wp2
                go_roundw
                case rel => exact ⟨i + 1, ⟨s.sps.set k { p with to := i }, p.outer, s.nodes, s.within ++ [k]⟩, _, _, _, by omega, by go_num, by rw [HTo2.out], rfl, (St.run_take _ _ _ _ _ HR.out HI.out).trans (step_write hf hk1 hk2 HT.out HP.out hpa), HC.out.keeps (Keeps.drewN _ _)⟩
                case measure => simp [intOf]; omega
              · go_quiet (fail)
                go_wp2
                go_ret
                exact ReadPost.no (Kept.drewN HM8.out.kept _) (read_stop HR.out HI.out (step_wrong hf hk1 hk2 HT.out HP.out hpa))
    · obtain rfl : i = n := by omega
      have hrun := HR.out
      rw [HN.out, List.take_length] at hrun
      have hro : readOf evs = if s.top = none ∧ s.nodes ≤ 30000 then some s else none := by unfold readOf; rw [hrun]
      have HRo := Lib.hid hro
      clear hrun hro
      cases htop : s.top with
      | none =>
        simp only [ptrOf]
        by_cases hnn : s.nodes ≤ 30000
        · have k1 : ¬ (30000 : Int) < s.nodes := by omega
          go_wp2
          go_ret
          refine ⟨HM.out.kept, ?_⟩
          rw [HRo.out, if_pos ⟨htop, hnn⟩]
          exact ⟨_, _, _, _, _, rfl, HM.out⟩
        · have k1 : (30000 : Int) < s.nodes := by omega
          go_wp2
          go_ret
          exact ReadPost.no HM.out.kept (by rw [HRo.out, if_neg (fun h => hnn h.2)])
      | some k =>
        have hkl := (run_ok i (by rw [← HN.out]; omega) HR.out).1.top k htop
        obtain ⟨b, hx, h8, h9⟩ := HM.out.at (List.getElem?_eq_getElem hkl)
        simp only [ptrOf, hx, Option.map_some]
        clear h8 h9 hx hkl
        go_wp2
        go_ret
        exact ReadPost.no HM.out.kept (by rw [HRo.out, if_neg (fun h => by rw [htop] at h; cases h.1)])
end Go.Proofs.YtbhiaeciiphelaaGreatDoor
