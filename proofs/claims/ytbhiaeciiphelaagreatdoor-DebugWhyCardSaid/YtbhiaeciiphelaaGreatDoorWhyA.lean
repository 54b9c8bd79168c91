/-
  DERIVED. Whether some event has one of two addresses, as package debug asks it. Condition: the events lie in a row; there are at most sixty thousand.
-/
import Derived.Test.YtbhiaeciiphelaaGreatDoorEvX
import Derived.Test.YtbhiaeciiphelaaGreatDoorDepP
import Derived.Test.YtbhiaeciiphelaaGreatDoorDepC
import Derived.Deep.Cut
namespace Go.Proofs.YtbhiaeciiphelaaGreatDoor
open Go.RowKit
def Ev.either (e : Ev) (x y : Int) : Bool := decide (e.addr = x) || decide (e.addr = y)
set_option maxHeartbeats 1600000 in
theorem either_of (e : Ev) (x y : Int) (w : World) (bx bt : Nat) (hx : w.heap[bx]? = some (.cells #[.int .i64 x] 3 (0, 0))) (ht : w.heap[bt]? = some (.cells #[.int .i64 y] 3 (0, 0))) :
    Calls Tryz.prog 71 #[.agg e.cells.toArray, .pointer (some ⟨bx, 0, none⟩), .pointer (some ⟨bt, 0, none⟩)] w fun r w' => r = .returned (.bool (e.either x y)) ∧ Keeps w w' := by
  obtain ⟨kind, site, addr, args, argn, argc, vk, vn, vs, va, van, vac⟩ := e
  have h1 := cell_of_block (heap_alloc_old (.cells #[.int .i64 kind, .int .i64 site, .int .i64 addr, .slice args argn argc, .int .i64 vk, .int .i64 vn, .string vs, .slice va van vac] 98) hx) 0
  have h2 := cell_of_block (heap_alloc_old (.cells #[.int .i64 kind, .int .i64 site, .int .i64 addr, .slice args argn argc, .int .i64 vk, .int .i64 vn, .string vs, .slice va van vac] 98) ht) 0
  have l1 := heap_lt hx
  have l2 := heap_lt ht
  have h3 := cell_of_block hx 0
  have h4 := cell_of_block ht 0
  simp at h1 h2 h3 h4
  clear hx ht
  simp only [Ev.cells]
  unfold Ev.either
  by_cases e1 : addr = x
  · subst e1
    go_enter Tryz.func71, Tryz.ntmps71
    go_wp2
    go_ret
    exact ⟨by simp, Keeps.alloc _ _⟩
  · by_cases e2 : addr = y
    · subst e2
      go_enter Tryz.func71, Tryz.ntmps71
      go_wp2
      go_ret
      exact ⟨by simp, Keeps.alloc _ _⟩
    · go_enter Tryz.func71, Tryz.ntmps71
      go_wp2
      go_ret
      exact ⟨by simp [e1, e2], Keeps.alloc _ _⟩
set_option maxHeartbeats 4000000 in
set_option maxRecDepth 100000 in
theorem indexFunc_of (w : World) (a : Option Addr) (n c : Nat) (evs : List Ev) (h : EvIn w a n evs) (x y : Int) (bx bt : Nat) (hx : w.heap[bx]? = some (.cells #[.int .i64 x] 3 (0, 0))) (ht : w.heap[bt]? = some (.cells #[.int .i64 y] 3 (0, 0))) :
    Calls Tryz.prog 99 #[.slice a n c, .func (.func 71) #[] #[.pointer (some ⟨bx, 0, none⟩), .pointer (some ⟨bt, 0, none⟩)]] w fun r w' => ∃ i : Int, r = .returned (.int .i64 i) ∧ ((0 ≤ i) ↔ evs.any (fun e => e.either x y) = true) ∧ Keeps w w' := by
  have HI := Lib.hid h
  have hfew := h.few
  have HF := Lib.hid (fun (e : Ev) (W : World) (hW : Keeps w W) => either_of e x y W bx bt (hW.at hx (fun x => x)) (hW.at ht (fun x => x)))
  clear h hx ht
  go_enter Tryz.func99, Tryz.ntmps99
  go_wp2
  go_loopw [8] (fun q W => ∃ i : Nat, i ≤ n ∧ q = .int .i64 i ∧ Keeps w W ∧ (evs.take i).any (fun e => e.either x y) = false) (fun q _ => n - (intOf q).toNat)
  case atStart => exact ⟨0, Nat.zero_le _, rfl, Keeps.refl _, by simp⟩
  case round =>
    obtain ⟨i, hi, rfl, hk, hany⟩ := hrel
    have HK := Lib.hid hk
    have HA := Lib.hid hany
    clear hk hany
    by_cases hin : i < n
    · obtain ⟨e, he⟩ : ∃ e, evs[i]? = some e := ⟨evs[i]'(by rw [← HI.out.len]; omega), List.getElem?_eq_getElem _⟩
      obtain ⟨eb, eo, rfl, hlt, c0, c1, c2, c3, c4, c5, c6, c7⟩ := (HI.out.ev.keeps HK.out).cells he
      have HE := Lib.hid he
      clear he
      have k1 : (i : Int) < n := by omega
      have k2 : (0 : Int) ≤ i := by omega
      go_wp2_with fail
      refine (HF.out e _ HK.out).mono ?_
      rintro _ w2 ⟨rfl, hk2⟩
      have HK2 := Lib.hid (Keeps.trans HK.out hk2)
      clear hk2 c0 c1 c2 c3 c4 c5 c6 c7
      cases hb : e.either x y with
      | true =>
        go_wp2
        go_ret
        refine ⟨i, rfl, ⟨fun _ => ?_, fun _ => k2⟩, HK2.out⟩
        exact List.any_eq_true.2 ⟨e, List.mem_of_getElem? HE.out, hb⟩
      | false =>
        go_wp2
        go_roundw
        case rel =>
          refine ⟨i + 1, by omega, by go_num, HK2.out, ?_⟩
          obtain ⟨h1, h2⟩ := List.getElem?_eq_some_iff.1 HE.out
          rw [List.take_succ_eq_append_getElem h1, h2, List.any_append, HA.out]
          simp [hb]
        case measure => simp [intOf] <;> omega
    · obtain rfl : i = n := by omega
      go_wp2
      go_ret
      refine ⟨-1, rfl, ⟨fun h => by omega, fun h => ?_⟩, HK.out⟩
      have := HA.out
      rw [List.take_of_length_le (by rw [HI.out.len]; exact Nat.le_refl _), h] at this
      cases this
set_option maxHeartbeats 1600000 in
theorem containsFunc_of (w : World) (a : Option Addr) (n c : Nat) (evs : List Ev) (h : EvIn w a n evs) (x y : Int) (bx bt : Nat) (hx : w.heap[bx]? = some (.cells #[.int .i64 x] 3 (0, 0))) (ht : w.heap[bt]? = some (.cells #[.int .i64 y] 3 (0, 0))) :
    Calls Tryz.prog 72 #[.slice a n c, .func (.func 71) #[] #[.pointer (some ⟨bx, 0, none⟩), .pointer (some ⟨bt, 0, none⟩)]] w fun r w' => r = .returned (.bool (evs.any fun e => e.either x y)) ∧ Keeps w w' := by
  have HX := Lib.hid (indexFunc_of w a n c evs h x y bx bt hx ht)
  clear h hx ht
  go_enter Tryz.func72, Tryz.ntmps72
  go_wp2_with fail
  refine HX.out.mono ?_
  rintro _ w1 ⟨i, rfl, hi, hk⟩
  have HK := Lib.hid hk
  have HI := Lib.hid hi
  clear hi hk
  go_wp2
  go_ret
  refine ⟨?_, HK.out⟩
  show Ending.returned (.bool (decide (0 ≤ i))) = _
  congr 2
  rw [Bool.eq_iff_iff, decide_eq_true_iff]
  exact HI.out
end Go.Proofs.YtbhiaeciiphelaaGreatDoor
namespace Go.Proofs.YtbhiaeciiphelaaGreatDoor
structure Near (evs : List Ev) (f : St) (y x : Int) (d : Nat) : Prop where
  steps : Steps evs f y d x
  least : ∀ k, Steps evs f y k x → d ≤ k
theorem Near.uniq {evs : List Ev} {f : St} {y x : Int} {d d' : Nat} (h : Near evs f y x d) (h' : Near evs f y x d') : d = d' := Nat.le_antisymm (h.least _ h'.steps) (h'.least _ h.steps)
theorem Bfs.near {evs : List Ev} {f : St} {y : Int} {met : List (Int × Int)} {lev : Int → Nat} (h : Bfs evs f [y] none met [] lev) (hy : Met met y) {x : Int} (hx : Met met x) : Near evs f y x (lev x) :=
  ⟨h.steps _ _ rfl hx, fun k hk => (h.dist hy k x hk).2⟩
structure FarI (evs : List Ev) (f : St) (y x : Int) (n : Nat) (now R : List Int) : Prop where
  pos : 0 < n
  reach : ∀ k z, k < n → Steps evs f y k z → z ∈ R
  level : ∀ z ∈ now, Steps evs f y (n - 1) z
  clos : ∀ u ∈ R, u ∈ now ∨ ∀ z ∈ sq evs f u, z ∈ R
  no : x ∉ R
  rng : ∀ u ∈ R, 0 ≤ u ∧ u < 30000
  inR : ∀ u ∈ now, u ∈ R
structure FarJ (evs : List Ev) (f : St) (y x : Int) (n : Nat) (now R0 : List Int) (i j : Nat) (next R : List Int) : Prop where
  lvl : FarI evs f y x n now R0
  old : ∀ u ∈ R0, u ∈ R
  more : ∀ u ∈ R, u ∈ R0 ∨ u ∈ next
  ahead : ∀ z ∈ next, Steps evs f y n z
  done : ∀ (k : Nat) (u : Int), k < i → now[k]? = some u → ∀ z ∈ sq evs f u, z ∈ R
  part : ∀ (u : Int), now[i]? = some u → ∀ (k : Nat) (z : Int), k < j → (sq evs f u)[k]? = some z → z ∈ R
  no : x ∉ R
  rng : ∀ u ∈ R, 0 ≤ u ∧ u < 30000
  inN : ∀ u ∈ next, u ∈ R
section
variable {evs : List Ev} {f : St} {y x : Int} {n : Nat} {now next R R0 : List Int} {i j : Nat}
theorem FarI.start (hxy : x ≠ y) (h0 : 0 ≤ y ∧ y < 30000) : FarI evs f y x 1 [y] [y] :=
  ⟨Nat.one_pos, fun k z hk hs => by
    obtain rfl : k = 0 := by omega
    cases hs; simp, fun z hz => by rw [List.mem_singleton] at hz; subst hz; exact .zero, fun u hu => .inl hu, by simpa using hxy, fun u hu => by rw [List.mem_singleton] at hu; subst hu; exact h0, fun u hu => hu⟩
theorem FarI.begin (h : FarI evs f y x n now R) : FarJ evs f y x n now R 0 0 [] R :=
  ⟨h, fun u hu => hu, fun u hu => .inl hu, fun z hz => by simp at hz, fun k u hk => absurd hk (Nat.not_lt_zero _), fun u _ k z hk => absurd hk (Nat.not_lt_zero _), h.no, h.rng, fun u hu => by simp at hu⟩
theorem FarJ.skip (h : FarJ evs f y x n now R0 i j next R) {u z : Int} (hu : now[i]? = some u) (hz : (sq evs f u)[j]? = some z) (hm : z ∈ R) : FarJ evs f y x n now R0 i (j + 1) next R :=
  ⟨h.lvl, h.old, h.more, h.ahead, h.done, fun u' hu' k z' hk hz' => by
      rw [hu] at hu'; injection hu' with hu'; subst hu'
      by_cases e : k = j
      · subst e; rw [hz] at hz'; injection hz' with hz'; subst hz'; exact hm
      · exact h.part _ hu k z' (by omega) hz', h.no, h.rng, h.inN⟩
theorem FarJ.new (h : FarJ evs f y x n now R0 i j next R) {u z : Int} (hu : now[i]? = some u) (hz : (sq evs f u)[j]? = some z) (hx : z ≠ x) (h0 : 0 ≤ z ∧ z < 30000) : FarJ evs f y x n now R0 i (j + 1) (next ++ [z]) (R ++ [z]) := by
  have hst : Steps evs f y n z := by
    have := Steps.succ (h.lvl.level u (List.mem_of_getElem? hu)) (List.mem_of_getElem? hz)
    rwa [Nat.sub_add_cancel h.lvl.pos] at this
  have up : ∀ v, v ∈ R → v ∈ R ++ [z] := fun v hv => List.mem_append.2 (.inl hv)
  refine ⟨h.lvl, fun v hv => up v (h.old v hv), fun v hv => ?_, fun v hv => ?_, fun k v hk hv w hw => up w (h.done k v hk hv w hw), fun u' hu' k z' hk hz' => ?_, fun hm => ?_, fun v hv => ?_, fun v hv => ?_⟩
  · rcases List.mem_append.1 hv with hv | hv
    · exact (h.more v hv).imp id fun h => List.mem_append.2 (.inl h)
    · exact .inr (List.mem_append.2 (.inr hv))
  · rcases List.mem_append.1 hv with hv | hv
    · exact h.ahead v hv
    · rw [List.mem_singleton] at hv; subst hv; exact hst
  · rw [hu] at hu'; injection hu' with hu'; subst hu'
    by_cases e : k = j
    · subst e; rw [hz] at hz'; injection hz' with hz'; subst hz'; simp
    · exact up _ (h.part _ hu k z' (by omega) hz')
  · rcases List.mem_append.1 hm with hm | hm
    · exact h.no hm
    · rw [List.mem_singleton] at hm; exact hx hm.symm
  · rcases List.mem_append.1 hv with hv | hv
    · exact h.rng v hv
    · rw [List.mem_singleton] at hv; subst hv; exact h0
  · rcases List.mem_append.1 hv with hv | hv
    · exact up v (h.inN v hv)
    · exact List.mem_append.2 (.inr hv)
theorem FarJ.row (h : FarJ evs f y x n now R0 i j next R) {u : Int} (hu : now[i]? = some u) (hj : j = (sq evs f u).length) : FarJ evs f y x n now R0 (i + 1) 0 next R :=
  ⟨h.lvl, h.old, h.more, h.ahead, fun k v hk hv z hz => by
      by_cases e : k = i
      · subst e; rw [hu] at hv; injection hv with hv; subst hv
        obtain ⟨q, hq, e⟩ := List.getElem_of_mem hz
        exact h.part _ hu q z (by omega) (by rw [List.getElem?_eq_getElem hq, e])
      · exact h.done k v (by omega) hv z hz, fun v _ k z hk => absurd hk (Nat.not_lt_zero _), h.no, h.rng, h.inN⟩
theorem FarJ.close (h : FarJ evs f y x n now R0 now.length j next R) : FarI evs f y x (n + 1) next R := by
  have hall : ∀ u ∈ now, ∀ z ∈ sq evs f u, z ∈ R := fun u hu z hz => by
    obtain ⟨k, hk, e⟩ := List.getElem_of_mem hu
    exact h.done k u hk (by rw [List.getElem?_eq_getElem hk, e]) z hz
  have hcl : ∀ u ∈ R0, ∀ z ∈ sq evs f u, z ∈ R := fun u hu z hz => by
    rcases h.lvl.clos u hu with h1 | h1
    · exact hall u h1 z hz
    · exact h.old z (h1 z hz)
  refine ⟨by have := h.lvl.pos; omega, fun k z hk hs => ?_, fun z hz => h.ahead z hz, fun u hu => (h.more u hu).elim (fun h1 => .inr (hcl u h1)) .inl, h.no, h.rng, h.inN⟩
  by_cases e : k < n
  · exact h.old z (h.lvl.reach k z e hs)
  · obtain rfl : k = n := by omega
    cases hs with
    | zero => exact absurd h.lvl.pos (Nat.lt_irrefl 0)
    | succ hs hz => exact hcl _ (h.lvl.reach _ _ (by omega) hs) z hz
theorem FarJ.found (h : FarJ evs f y x n now R0 i j next R) {u : Int} (hu : now[i]? = some u) (hz : (sq evs f u)[j]? = some x) : Near evs f y x n := by
  have hst : Steps evs f y n x := by
    have := Steps.succ (h.lvl.level u (List.mem_of_getElem? hu)) (List.mem_of_getElem? hz)
    rwa [Nat.sub_add_cancel h.lvl.pos] at this
  refine ⟨hst, fun k hk => ?_⟩
  rcases Nat.lt_or_ge k n with hlt | hge
  · exact absurd (h.lvl.reach k x hlt hk) h.lvl.no
  · exact hge
theorem FarI.never (h : FarI evs f y x n [] R) : ∀ k, ¬ Steps evs f y k x := by
  have key : ∀ k z, Steps evs f y k z → z ∈ R := fun k z hs => by
    induction hs with
    | zero => exact h.reach 0 y h.pos .zero
    | succ hs hz ih =>
      rcases h.clos _ ih with h1 | h1
      · simp at h1
      · exact h1 _ hz
  exact fun k hk => h.no (key k x hk)
end
open Classical in
noncomputable def farOf (evs : List Ev) (f : St) (x y : Int) : Nat := if evs.any (fun e => decide (e.addr = x)) = true then (if h : ∃ d, Near evs f y x d then h.choose + 1 else 0) else 0
theorem far_near {evs : List Ev} {f : St} {x y : Int} {d : Nat} (hk : evs.any (fun e => decide (e.addr = x)) = true) (h : Near evs f y x d) : farOf evs f x y = d + 1 := by
  have hx : ∃ d, Near evs f y x d := ⟨d, h⟩
  unfold farOf
  rw [if_pos hk, dif_pos hx, hx.choose_spec.uniq h]
theorem far_never {evs : List Ev} {f : St} {x y : Int} (h : ∀ k, ¬ Steps evs f y k x) : farOf evs f x y = 0 := by
  unfold farOf
  split
  · rw [dif_neg (fun ⟨d, hd⟩ => h d hd.steps)]
  · rfl
theorem far_unknown {evs : List Ev} {f : St} {x y : Int} (h : evs.any (fun e => decide (e.addr = x)) = false) : farOf evs f x y = 0 := by
  unfold farOf
  rw [h, if_neg (by simp)]
end Go.Proofs.YtbhiaeciiphelaaGreatDoor
namespace Go.Proofs.YtbhiaeciiphelaaGreatDoor
open Go.RowKit
structure FarMem (wm wB W : World) (D : Nat) (nv xv : Value) (now next R : List Int) : Prop where
  nrow : W.ownsRow wB.heap.size 3 1 nv now.length (ints now)
  xrow : W.ownsRow wB.heap.size 3 1 xv next.length (ints next)
  apart : ∀ g, nv.ownBlock = some g → xv.ownBlock ≠ some g
  mks : Marked wm W D R
  kept : Kept (fun b => b = D) wB W
section
variable {wm wB W W' : World} {D : Nat} {nv xv : Value} {now next R : List Int}
theorem FarMem.mark (h : FarMem wm wB W D nv xv now next R) {z : Int} (hz : 0 ≤ z ∧ z < 30000) : FarMem wm wB (W.setCell ⟨D, z.toNat, none⟩ (.bool true)) D nv xv now next (R ++ [z]) := by
  obtain ⟨cu2, hc2, _⟩ := h.mks.row
  refine ⟨row_same h.nrow fun g hg => heap_set_other _ fun e => ?_, row_same h.xrow fun g hg => heap_set_other _ fun e => ?_, h.apart, h.mks.mark hz.1 hz.2, h.kept.one1 _ _⟩
  · obtain ⟨cur, hc⟩ := row_block h.nrow hg
    rw [e, hc2] at hc; simp at hc
  · obtain ⟨cur, hc⟩ := row_block h.xrow hg
    rw [e, hc2] at hc; simp at hc
theorem FarMem.app (h : FarMem wm wB W D nv xv now next R) {o : Obj} {v : Value} {z : Int} (hg : (W.alloc o).grownBy W' xv.ownBlock) (hr : W'.ownsRow wB.heap.size 3 1 v (next.length + 1) (ints next ++ [.int .i64 z])) (hat : ∀ g, v.ownBlock = some g → xv.ownBlock = some g ∨ W.heap.size ≤ g) : FarMem wm wB W' D nv v now (next ++ [z]) R := by
  have hk : Kept (fun b => xv.ownBlock = some b) W W' := ((Kept.refl _ W).alloc o).grown hg (fun b hb _ => hb)
  have hne : xv.ownBlock ≠ some D := by
    intro e
    obtain ⟨cur, hc⟩ := row_block h.xrow e
    obtain ⟨cu2, hc2, _⟩ := h.mks.row
    rw [hc2] at hc; simp at hc
  have e1 : (next ++ [z]).length = next.length + 1 := by simp
  have e2 : ints (next ++ [z]) = ints next ++ [.int .i64 z] := by simp [ints]
  refine ⟨row_same h.nrow fun g hg' => hk.block g (h.nrow.lt g hg').2 (fun e => h.apart g hg' e), by rw [e1, e2]; exact hr, fun g hg' e => ?_, h.mks.same fun o ho _ => hk.at ho hne, Kept.trans h.kept hk (fun b hb e => by have := (h.xrow.lt b e).1; omega)⟩
  rcases hat g e with h1 | h1
  · exact h.apart g hg' h1
  · have := (h.nrow.lt g hg').2; omega
end
theorem row_cap {w : World} {base : Nat} {e : TypeId} {size : Nat} {v : Value} {n : Nat} {xs : List Value} (h : w.ownsRow base e size v n xs) : n ≤ 9223372036854775807 := by
  rcases h.2 with ⟨_, h2⟩ | ⟨g, cap, cur, hv, _, _, hc, hm, _⟩
  · omega
  · exact Nat.le_trans hc hm
theorem sq_out {evs : List Ev} {f : St} (hro : readOf evs = some f) {y : Int} (h : y < 0 ∨ 30000 ≤ y) : sq evs f y = [] := by
  unfold sq
  cases hix : idxOf f y with
  | none => rfl
  | some k =>
    obtain ⟨p, hp, hpy⟩ := idx_some hix
    obtain ⟨s0, st0, wr0, hr0, ha0⟩ := momRun hro evs.length (Nat.le_refl _)
    rw [List.take_length] at hr0
    obtain ⟨rfl, _⟩ := momEnd hro hr0 ha0
    obtain ⟨py0, py1⟩ := InB.run _ _ _ _ InB.start hr0 k p hp
    omega
theorem steps_none {evs : List Ev} {f : St} {y : Int} (h : sq evs f y = []) : ∀ k z, Steps evs f y k z → k = 0 ∧ z = y := by
  intro k z hs
  induction hs with
  | zero => exact ⟨rfl, rfl⟩
  | succ hs hz ih => rw [ih.2, h] at hz; simp at hz
set_option maxHeartbeats 8000000 in
set_option maxRecDepth 100000 in
theorem far_of (w : World) (a : Option Addr) (n c : Nat) (evs : List Ev) (h : EvIn w a n evs) (f : St) (hro : readOf evs = some f) (x y : Int) :
    Calls Tryz.prog 40 #[.slice a n c, .int .i64 x, .int .i64 y] w fun e w' => e = .returned (.int .i64 (farOf evs f x y : Nat)) ∧ Keeps w w' := by
  have HI := Lib.hid h
  have HO := Lib.hid hro
  have hfew := h.few
  obtain ⟨big, hbig⟩ : ∃ big, big = madeCells #[.bool false] 30000 := ⟨_, rfl⟩
  have hmk : ∀ w : World, (Instr.makeSlice 49 (.int .i64 30000) (.int .i64 30000)).run Tryz.prog w = .ok (.slice (some ⟨w.heap.size, 0, none⟩) 30000 30000) (w.alloc (.cells big 4)) := by
    intro w
    rw [hbig]
    exact run_make_row' 49 4 (.bool false) 1 (by kernel_rfl) info4 rfl .i64 .i64 30000 (by decide) (by decide) w
  have Hbig := Lib.hid hbig
  have HMk := Lib.hid hmk
  have HLen := Lib.hid h.len
  clear h hro hbig hmk
  go_enter Tryz.func40, Tryz.ntmps40
  go_wp2_with fail
  go_loopw [7, 8] (fun kn q W => ∃ i : Nat, i ≤ n ∧ q = .int .i64 i ∧ kn = .bool ((evs.take i).any fun e => decide (e.addr = x)) ∧ w = W) (fun _ q _ => n - (intOf q).toNat)
  case atStart => exact ⟨0, Nat.zero_le _, rfl, rfl, rfl⟩
  case round =>
    obtain ⟨i, hi, rfl, rfl, rfl⟩ := hrel
    by_cases hin : i < n
    · obtain ⟨e, he⟩ : ∃ e, evs[i]? = some e := ⟨evs[i]'(by have := HLen.out; omega), List.getElem?_eq_getElem _⟩
      obtain ⟨eb, eo, rfl, hlt, c0, c1, c2, c3, c4, c5, c6, c7⟩ := HI.out.ev.cells he
      have k1 : (i : Int) < n := by omega
      have k2 : (0 : Int) ≤ i := by omega
      have hts : (evs.take (i + 1)).any (fun e => decide (e.addr = x)) = ((evs.take i).any (fun e => decide (e.addr = x)) || decide (e.addr = x)) := by
        obtain ⟨h1, h2⟩ := List.getElem?_eq_some_iff.1 he
        rw [List.take_succ_eq_append_getElem h1, h2, List.any_append]
        simp
      have HTs := Lib.hid hts
      clear he c0 c1 c3 c4 c5 c6 c7 hts
      cases hb : (evs.take i).any fun e => decide (e.addr = x) with
      | true =>
        go_wp2_with fail
        go_roundw
        case rel => exact ⟨i + 1, by omega, by go_num, by rw [HTs.out, hb]; rfl, by trivial⟩
        case measure => simp [intOf] <;> omega
      | false =>
        by_cases hex : e.addr = x
        · go_wp2_with fail
          go_roundw
          case rel => exact ⟨i + 1, by omega, by go_num, by rw [HTs.out, hb, decide_eq_true hex]; simp, by trivial⟩
          case measure => simp [intOf] <;> omega
        · go_wp2_with fail
          go_roundw
          case rel => exact ⟨i + 1, by omega, by go_num, by rw [HTs.out, hb, decide_eq_false hex]; simp [hex], by trivial⟩
          case measure => simp [intOf] <;> omega
    · obtain rfl : i = n := by omega
      have htl : evs.take i = evs := List.take_of_length_le (by have := HLen.out; omega)
      rw [htl]
      cases hkn : evs.any fun e => decide (e.addr = x) with
      | false =>
        have hz := far_unknown (f := f) (y := y) hkn
        go_wp2_with fail
        go_ret
        exact ⟨by first | (rw [hz]; rfl) | rfl, Keeps.refl _⟩
      | true =>
        by_cases hxy : x = y
        · have hz : farOf evs f x y = 1 := by subst hxy; exact far_near hkn (d := 0) ⟨.zero, fun k _ => Nat.zero_le _⟩
          subst hxy
          go_wp2_with fail
          go_ret
          exact ⟨by first | (rw [hz]; rfl) | rfl, Keeps.refl _⟩
        · by_cases hyr : 0 ≤ y ∧ y < 30000
          · obtain ⟨y0, y1⟩ := hyr
            have HKn := Lib.hid hkn
            clear hkn htl
            have HSe := Lib.hid (sees_of _ a _ c evs HI.out f HO.out)
            go_wp2_with (go_at_call 66; refine hold ?_)
            refine Lib.hid ?_
            refine HSe.out.mono ?_
            rintro _ w3 ⟨B, F, C, V, rfl, _, hvis, hvl, hmm, hC⟩
            obtain ⟨s0, st0, wr0, hr0, ha0⟩ := momRun HO.out evs.length (Nat.le_refl _)
            rw [List.take_length] at hr0
            obtain ⟨hfs, _⟩ := momEnd HO.out hr0 ha0
            have HOu := Lib.hid ha0.ok.outer
            rw [hfs] at HOu
            have hve := visOf_eq hvis HOu.out
            have hC2 : ∀ k, k < f.sps.length → C (k + 1) = seesOf evs f k := fun k hk => by rw [hC k hk, ← hve]; rfl
            have hsl : ∀ a, (sq evs f a).length ≤ 60000 := by
              intro a
              unfold sq
              split
              · rename_i k _
                unfold seesOf
                rw [List.length_map, hve]
                exact Nat.le_trans (hvl k) hfew
              · simp
            have hkw3 := hmm.kept
            have HKw := Lib.hid hkw3
            have HMm := Lib.hid hmm
            have HC := Lib.hid hC2
            have HSl := Lib.hid hsl
            have hmk := HMk.out
            clear hvis hvl hmm hC hve hC2 hsl hkw3 ha0 hr0 hfs
            go_upto_region 15 with (fail)
            obtain ⟨D, hD⟩ : ∃ D, D = w3.heap.size := ⟨_, rfl⟩
            obtain ⟨wB, hwB⟩ : ∃ wB, wB = w3.alloc (.cells big 4) := ⟨_, rfl⟩
            have hd : Marked w wB D [] := by
              rw [hwB]
              refine ⟨by rw [hD]; exact HKw.out.size, big, by rw [hD]; exact heap_alloc_at _ _, by rw [Hbig.out]; exact size_madeCells _ _, fun a h0 h1 => ?_⟩
              rw [Hbig.out]
              simp [madeCells, h1, Nat.mod_one]
            have hsB : SeesMem w wB B (f.sps.map (·.addr)) F C := by rw [hwB]; exact HMm.out.keeps (Keeps.alloc _ _)
            have hszB : w3.heap.size + 1 = wB.heap.size := by rw [hwB, World.size_alloc]
            have hBD : B ≠ D := by
              intro e
              obtain ⟨cur, hc, _⟩ := hsB.great
              obtain ⟨cu2, hc2, _⟩ := hd.row
              rw [e, hc2] at hc
              simp at hc
            have hm0 : FarMem w wB (wB.alloc (.cells #[.int .i64 y] 3)) D (.slice (some ⟨wB.heap.size, 0, none⟩) 1 1) (.slice none 0 0) [y] [] [] :=
              ⟨World.ownsRow_lit wB #[.int .i64 y] 1 (Nat.le_refl _) (by decide) rfl, World.ownsRow_nil _ _ _ _, fun g _ e => (by cases e), hd.keeps (Keeps.alloc _ _), (Kept.refl _ _).alloc _⟩
            have HM0 := Lib.hid hm0
            have HSB := Lib.hid hsB
            have HDm := Lib.hid hd
            have HKB := Lib.hid (show Keeps w wB by rw [hwB]; exact Kept.alloc HKw.out _)
            obtain ⟨i3, hi3, hz3, hs3, hb3⟩ := info_parts info3
            rw [hszB, ← hwB, ← hD]
            obtain ⟨W4, hW4⟩ : ∃ W4, W4 = wB.alloc (.cells #[.int .i64 y] 3) := ⟨_, rfl⟩
            rw [← hW4]
            rw [← hW4] at HM0
            have m0 := HM0.out.mks.cell y0 y1
            rw [decide_eq_false (by simp)] at m0
            have m1 := HM0.out.mks.free y.toNat
            have hlB := hsB.lt
            have hlD := hd.lt
            have hnD : w.heap.size ≤ D := hd.nD
            clear hW4 hszB hwB hD hd hsB hm0 hmk HMk Hbig HMm HKw
            have hm1 := HM0.out.mark ⟨y0, y1⟩
            have HM1 := Lib.hid hm1
            clear hm1
            go_wp2_with fail
            have hmA : ∀ W : World, unmarked D W ≤ 30000 := fun W => unmarked_le D W
            have HmA := Lib.hid hmA
            clear hmA m0 m1
            go_loopw [11, 12] (fun nv q W => ∃ (k : Nat) (now R : List Int), q = .int .i64 k ∧ FarMem w wB W D nv (.slice none 0 0) now [] R ∧ FarI evs f y x k now R ∧ k + unmarked D W ≤ 30001 + (if now = [] then 1 else 0)) (fun nv _ W => 2 * unmarked D W + min 1 (lenOf nv))
            case atStart =>
              refine ⟨1, [y], [] ++ [y], rfl, HM1.out, FarI.start hxy ⟨y0, y1⟩, ?_⟩
              have := HmA.out (W4.setCell ⟨D, y.toNat, none⟩ (.bool true))
              rw [if_neg (by simp)]
              omega
            case round =>
              obtain ⟨k, now, R, rfl, hfm, hfi, hbd⟩ := hrel
              by_cases hnn : now = []
              · subst hnn
                obtain ⟨p0, c0, hv⟩ := row_slice hfm.nrow
                simp only [List.length_nil] at hv
                subst hv
                have hz : farOf evs f x y = 0 := far_never hfi.never
                have HK := Lib.hid hfm.kept
                clear hfm hfi hbd
                go_wp2_with fail
                go_ret
                exact ⟨by first | (rw [hz]; rfl) | rfl, Kept.trans HKB.out HK.out (fun b hb e => by omega)⟩
              · rw [if_neg hnn] at hbd
                obtain ⟨pn, cn, hv⟩ := row_slice hfm.nrow
                subst hv
                have hncap := row_cap hfm.nrow
                have hnpos : 0 < now.length := List.length_pos_iff.2 hnn
                have k0 : (0 : Int) < now.length := by omega
                have w1' : IntKind.i64.wrap ((k : Int) + 1) = (k : Int) + 1 := by rw [IntKind.wrap_i64]; omega
                have HFm := Lib.hid hfm
                have HFi := Lib.hid hfi
                obtain ⟨wo, hwo⟩ : ∃ wo : World, wo = wr := ⟨_, rfl⟩
                have hnD2 : ∀ b, (Value.slice pn now.length cn).ownBlock = some b → b ≠ D := by
                  intro b hb e
                  obtain ⟨cur, hc⟩ := row_block hfm.nrow hb
                  obtain ⟨cu2, hc2, _⟩ := hfm.mks.row
                  rw [e, hc2] at hc
                  simp at hc
                have HnD := Lib.hid hnD2
                clear hfm hfi hnD2
                go_wp2_with fail
                go_loopw [13, 14] (fun xv q W => ∃ (i : Nat) (next R' : List Int), q = .int .i64 i ∧ i ≤ now.length ∧ FarMem w wB W D (.slice pn now.length cn) xv now next R' ∧ FarJ evs f y x k now R i 0 next R' ∧ unmarked D W + next.length ≤ unmarked D wo) (fun _ q _ => now.length - (intOf q).toNat)
                case atStart => exact ⟨0, [], R, rfl, Nat.zero_le _, HFm.out, HFi.out.begin, by rw [hwo]; exact Nat.le_refl _⟩
                case round =>
                  obtain ⟨i, next, R', rfl, hi, hfm, hfj, hbu⟩ := hrel
                  have G1 := Lib.hid hfm
                  have G2 := Lib.hid hfj
                  clear hfm hfj
                  by_cases hil : i < now.length
                  · obtain ⟨u, hu⟩ : ∃ u, now[i]? = some u := ⟨_, List.getElem?_eq_getElem hil⟩
                    have k6 : (i : Int) < now.length := by omega
                    have k7 : (0 : Int) ≤ i := by omega
                    have HU := Lib.hid hu
                    clear hu
                    have hur := HFi.out.rng u (HFi.out.inR u (List.mem_of_getElem? HU.out))
                    obtain ⟨v, hv1, hv2⟩ := sees_at HSB.out HC.out hur.1 hur.2
                    obtain ⟨p5, c5, rfl⟩ := row_slice hv2
                    have hn5 : ∀ b, (Value.slice p5 (sq evs f u).length c5).ownBlock = some b → b ≠ D := by
                      intro b hb e
                      obtain ⟨cur, hc⟩ := row_block hv2 hb
                      obtain ⟨cu2, hc2, _⟩ := HDm.out.row
                      rw [e, hc2] at hc
                      simp at hc
                    have ha0 := hur.1
                    have ha1 := hur.2
                    have hsa := HSl.out u
                    have HV1 := Lib.hid hv1
                    have HV2 := Lib.hid hv2
                    have HN5 := Lib.hid hn5
                    clear hur hv1 hv2 hn5
                    go_wp2_with fail
                    go_loopw [13, 15] (fun xv q W => ∃ (j : Nat) (next R' : List Int), q = .int .i64 j ∧ j ≤ (sq evs f u).length ∧ FarMem w wB W D (.slice pn now.length cn) xv now next R' ∧ FarJ evs f y x k now R i j next R' ∧ unmarked D W + next.length ≤ unmarked D wo) (fun _ q _ => (sq evs f u).length - (intOf q).toNat)
                    case atStart => exact ⟨0, next, R', rfl, Nat.zero_le _, G1.out, G2.out, hbu⟩
                    case round =>
                      obtain ⟨j, next2, R2, rfl, hj, hfm, hfj, hbu2⟩ := hrel
                      obtain ⟨pq, cq, hpq, hncell⟩ := ints_at hfm.nrow
                      injection hpq with hpq1 _ hpq3
                      subst hpq1 hpq3
                      obtain ⟨g1, o1, rfl, hcu⟩ := hncell i u HU.out
                      have hcB : wr.cell? ⟨B, u.toNat, none⟩ = some (.slice p5 (sq evs f u).length c5) := by
                        rw [World.cell?_of_block (w := wB) (a := ⟨B, u.toNat, none⟩) (hfm.kept.block B hlB hBD)]; exact HV1.out
                      have hB3 : B < wr.heap.size := Nat.lt_of_lt_of_le hlB hfm.kept.size
                      obtain ⟨px, cx, hv⟩ := row_slice hfm.xrow
                      subst hv
                      have F1 := Lib.hid hfm
                      have F2 := Lib.hid hfj
                      clear hfm hfj hncell
                      by_cases hjl : j < (sq evs f u).length
                      · obtain ⟨z, hz⟩ : ∃ z, (sq evs f u)[j]? = some z := ⟨_, List.getElem?_eq_getElem hjl⟩
                        obtain ⟨z0, z1⟩ := sq_rng HO.out u z (List.mem_of_getElem? hz)
                        have hrw := row_same HV2.out fun b hb => F1.out.kept.block b (HV2.out.lt b hb).2 (HN5.out b hb)
                        obtain ⟨px2, cx2, hpx, hcell⟩ := ints_at hrw
                        injection hpx with hpx _ hcx
                        subst hpx hcx
                        obtain ⟨gz, oz, rfl, hcz⟩ := hcell j z hz
                        have m0 := F1.out.mks.cell z0 z1
                        have m1 := F1.out.mks.free z.toNat
                        have l4 := F1.out.mks.lt
                        have k8 : (j : Int) < (sq evs f u).length := by omega
                        have k9 : (0 : Int) ≤ j := by omega
                        have HZ := Lib.hid hz
                        clear hz hcell hrw
                        by_cases hzx : z = x
                        · have hz9 : farOf evs f x y = k + 1 := by
                            subst hzx
                            exact far_near HKn.out (F2.out.found HU.out HZ.out)
                          subst hzx
                          go_wp2_with fail
                          go_ret
                          exact ⟨rfl, Kept.trans HKB.out F1.out.kept (fun b hb e => by omega)⟩
                        · by_cases hin : z ∈ R2
                          · rw [decide_eq_true hin] at m0
                            have HIn := Lib.hid hin
                            clear hin
                            go_wp2_with fail
                            go_roundw
                            case rel => exact ⟨j + 1, next2, R2, by go_num, by omega, F1.out, F2.out.skip HU.out HZ.out HIn.out, hbu2⟩
                            case measure => simp [intOf] <;> omega
                          · rw [decide_eq_false hin] at m0
                            have hmk := F1.out.mark ⟨z0, z1⟩
                            have HMk := Lib.hid hmk
                            have HIn := Lib.hid hin
                            clear hmk hin
                            have hnb := HmA.out wo
                            go_wp2_with (at_builtin; refine hold ?_)
                            refine Lib.hid ?_
                            refine wpList_append_own_at _ rfl (.tmp 97) (.tmp 99) 35 rfl wB.heap.size 3 i3 (.int .i64 0) 1 8 under35 hi3 hz3 hs3 hb3 rfl (by decide) (.slice px next2.length cx) next2.length (ints next2) rfl (HMk.out.xrow.alloc _) ⟨_, 0, none⟩ 1 1 [.int .i64 z] rfl rfl (by intro j' u' hj'; have h9 := cell_one_new (wr.setCell ⟨D, z.toNat, none⟩ (.bool true)) (.int .i64 z) 3 j' u' hj'; simpa [World.setCell] using h9) (by simp [Value.oneCell']) (by unfold maxLen; omega) (by omega) (by have h9 := HMk.out.kept.size; rw [World.size_alloc]; exact Nat.le_succ_of_le h9) ?_
                            intro v7 w7 hown7 hgrow7 hnil7 hat7
                            have hca := HMk.out.app hgrow7 hown7 (fun g8 hg8 => by
                              rcases hat7 with h8 | h8
                              · exact .inl (h8 ▸ hg8)
                              · right
                                rw [h8] at hg8
                                injection hg8 with hg8
                                rw [World.size_alloc] at hg8
                                omega)
                            have hl7 := unmarked_less F1.out.mks hca.mks ⟨z0, z1⟩ HIn.out
                            have HCa := Lib.hid hca
                            clear hca hown7 hgrow7 hnil7 hat7
                            go_wp2_with fail
                            go_roundw
                            case rel => exact ⟨j + 1, next2 ++ [z], R2 ++ [z], by go_num, by omega, HCa.out, F2.out.new HU.out HZ.out hzx ⟨z0, z1⟩, by rw [List.length_append, List.length_singleton]; omega⟩
                            case measure => simp [intOf] <;> omega
                      · obtain rfl : j = (sq evs f u).length := by omega
                        go_wp2_with fail
                        go_roundw
                        case rel => exact ⟨i + 1, next2, R2, by go_num, by omega, F1.out, F2.out.row HU.out rfl, hbu2⟩
                        case measure => simp [intOf] <;> omega
                  · obtain rfl : i = now.length := by omega
                    obtain ⟨px, cx, hv⟩ := row_slice G1.out.xrow
                    subst hv
                    go_wp2_with fail
                    go_roundw
                    case rel =>
                      refine ⟨k + 1, next, R', by go_num, ⟨G1.out.xrow, World.ownsRow_nil _ _ _ _, fun g _ e => (by cases e), G1.out.mks, G1.out.kept⟩, G2.out.close, ?_⟩
                      rw [hwo] at hbu
                      split
                      · omega
                      · rename_i hne
                        have := List.length_pos_iff.2 hne
                        omega
                    case measure =>
                      rw [hwo] at hbu
                      simp only [lenOf]
                      omega
          · have hz : farOf evs f x y = 0 := far_never fun k hs => by
              have := steps_none (sq_out HO.out (by omega)) k x hs
              exact hxy this.2
            by_cases hy0 : y < 0
            · go_wp2_with fail
              go_ret
              exact ⟨by first | (rw [hz]; rfl) | rfl, Keeps.refl _⟩
            · have hy1 : 30000 ≤ y := by omega
              go_wp2_with fail
              go_ret
              exact ⟨by first | (rw [hz]; rfl) | rfl, Keeps.refl _⟩
end Go.Proofs.YtbhiaeciiphelaaGreatDoor
namespace Go.Proofs.YtbhiaeciiphelaaGreatDoor
open Go.RowKit
structure Leads (evs : List Ev) (f : St) (x y : Int) (l : List Int) : Prop where
  pos : 0 < l.length
  head : l[0]? = some x
  last : l[l.length - 1]? = some y
  chain : ∀ (i : Nat) (z u : Int), l[i]? = some z → l[i + 1]? = some u → z ∈ sq evs f u
set_option maxHeartbeats 8000000 in
set_option maxRecDepth 100000 in
theorem leads_of (w : World) (a : Option Addr) (n c : Nat) (evs : List Ev) (h : EvIn w a n evs) (f : St) (hro : readOf evs = some f) (v : Value) (l : List Int) (hv : IntsAt w v l) (hll : l.length ≤ 1000000) (x y : Int) (hl : Leads evs f x y l) :
    Calls Tryz.prog 41 #[.slice a n c, v, .int .i64 x, .int .i64 y] w fun e w' => e = .returned (.bool true) ∧ Keeps w w' := by
  have HI := Lib.hid h
  have HO := Lib.hid hro
  have HL := Lib.hid hl
  have hfew := h.few
  have hpos := hl.pos
  have HV := Lib.hid hv
  obtain ⟨p, cp, rfl, hcell⟩ := hv
  obtain ⟨g, o, rfl, hc0⟩ := hcell 0 x hl.head
  obtain ⟨g', o', hpe, hcl⟩ := hcell (l.length - 1) y hl.last
  injection hpe with hpe
  injection hpe with e1 e2
  subst e1 e2
  have HC := Lib.hid hcell
  obtain ⟨N, hN⟩ : ∃ N, N = l.length := ⟨_, rfl⟩
  rw [← hN] at hcl hll hpos ⊢
  have HN := Lib.hid hN
  have k0 : ¬ N = 0 := by omega
  have k1 : (0 : Int) < N := by omega
  have w1' : IntKind.i64.wrap ((N : Int) - 1) = ((N - 1 : Nat) : Int) := by rw [IntKind.wrap_i64]; omega
  have k2 : ((N - 1 : Nat) : Int) < N := by omega
  have k3 : (0 : Int) ≤ ((N - 1 : Nat) : Int) := by omega
  have HSe := Lib.hid (sees_of _ a _ c evs HI.out f HO.out)
  simp only [Nat.add_zero] at hc0
  clear h hro hl hcell hN
  go_enter Tryz.func41, Tryz.ntmps41
  go_wp2_with (go_at_call 66; refine hold ?_)
  refine Lib.hid ?_
  refine HSe.out.mono ?_
  rintro _ w3 ⟨B, F, C, V, rfl, _, hvis, hvl, hmm, hC⟩
  obtain ⟨s0, st0, wr0, hr0, ha0⟩ := momRun HO.out evs.length (Nat.le_refl _)
  rw [List.take_length] at hr0
  obtain ⟨hfs, _⟩ := momEnd HO.out hr0 ha0
  have HOu := Lib.hid ha0.ok.outer
  rw [hfs] at HOu
  have hve := visOf_eq hvis HOu.out
  have hC2 : ∀ k, k < f.sps.length → C (k + 1) = seesOf evs f k := fun k hk => by rw [hC k hk, ← hve]; rfl
  have hsl : ∀ a, (sq evs f a).length ≤ 60000 := by
    intro a
    unfold sq
    split
    · rename_i k _
      unfold seesOf
      rw [List.length_map, hve]
      exact Nat.le_trans (hvl k) hfew
    · simp
  have HKw := Lib.hid hmm.kept
  have HMm := Lib.hid hmm
  have HCC := Lib.hid hC2
  have HSl := Lib.hid hsl
  clear hvis hvl hmm hC hve hC2 hsl ha0 hr0 hfs hc0 hcl k2 k3 w1'
  go_wp2_with fail
  go_loopw [10] (fun q W => ∃ i : Nat, 1 ≤ i ∧ i ≤ N ∧ q = .int .i64 i ∧ Keeps w3 W) (fun q _ => N - (intOf q).toNat)
  case atStart => exact ⟨1, Nat.le_refl _, by omega, rfl, Keeps.refl _⟩
  case round =>
    obtain ⟨i, hi1, hi, rfl, hk⟩ := hrel
    have HK := Lib.hid hk
    clear hk
    by_cases hil : i < N
    · obtain ⟨u, hu⟩ : ∃ u, l[i]? = some u := ⟨l[i]'(by rw [← HN.out]; exact hil), List.getElem?_eq_getElem _⟩
      obtain ⟨z, hz⟩ : ∃ z, l[i - 1]? = some z := ⟨l[i - 1]'(by have := HN.out; omega), List.getElem?_eq_getElem _⟩
      obtain ⟨g1, o1, e1, hcu⟩ := HC.out i u hu
      injection e1 with e1
      injection e1 with e1 e2
      subst e1 e2
      obtain ⟨g1, o1, e1, hcz⟩ := HC.out (i - 1) z hz
      injection e1 with e1
      injection e1 with e1 e2
      subst e1 e2
      have hzu : z ∈ sq evs f u := HL.out.chain (i - 1) z u hz (by rw [Nat.sub_add_cancel hi1]; exact hu)
      have hur : 0 ≤ u ∧ u < 30000 := by
        rcases Int.lt_or_le u 0 with h1 | h1
        · rw [sq_out HO.out (.inl h1)] at hzu; simp at hzu
        · rcases Int.lt_or_le u 30000 with h2 | h2
          · exact ⟨h1, h2⟩
          · rw [sq_out HO.out (.inr h2)] at hzu; simp at hzu
      obtain ⟨v, hv1, hv2⟩ := sees_at HMm.out HCC.out hur.1 hur.2
      obtain ⟨p5, c5, rfl⟩ := row_slice hv2
      have hcu2 := cell_keeps HK.out (cell_keeps HKw.out hcu)
      have hcz2 := cell_keeps HK.out (cell_keeps HKw.out hcz)
      have hb2 := cell_keeps HK.out hv1
      have k6 : (i : Int) < N := by omega
      have k7 : (0 : Int) ≤ i := by omega
      have u0 := hur.1
      have u1 := hur.2
      have u2 : ¬ u < 0 := by omega
      have u3 : ¬ 30000 ≤ u := by omega
      have hsa := HSl.out u
      have HZu := Lib.hid hzu
      have HV2 := Lib.hid hv2
      have HCu := Lib.hid (cell_keeps HKw.out hcu)
      have HCz := Lib.hid (cell_keeps HKw.out hcz)
      have HB1 := Lib.hid hv1
      have w2' : IntKind.i64.wrap ((i : Int) - 1) = ((i - 1 : Nat) : Int) := by rw [IntKind.wrap_i64]; omega
      have k8 : ((i - 1 : Nat) : Int) < N := by omega
      have k9 : (0 : Int) ≤ ((i - 1 : Nat) : Int) := by omega
      clear hu hz hcu hcz hzu hur hv1 hv2
      go_wp2_with fail
      go_loopw [11, 12] (fun b q W => ∃ k : Nat, k ≤ (sq evs f u).length ∧ q = .int .i64 k ∧ b = .bool (((sq evs f u).take k).any fun v => decide (v = z)) ∧ Keeps w3 W) (fun _ q _ => (sq evs f u).length - (intOf q).toNat)
      case atStart => exact ⟨0, Nat.zero_le _, rfl, rfl, HK.out⟩
      case round =>
        obtain ⟨k, hk, rfl, rfl, hkp⟩ := hrel
        have HK2 := Lib.hid hkp
        have hcu2 := cell_keeps hkp HCu.out
        have hcz2 := cell_keeps hkp HCz.out
        have hb2 := cell_keeps hkp HB1.out
        have hrw := row_same HV2.out fun b hb => hkp.block b (HV2.out.lt b hb).2 (fun x => x)
        obtain ⟨px, cx, hpx, hcell⟩ := ints_at hrw
        injection hpx with hpx _ hcx
        subst hpx hcx
        clear hkp hrw
        by_cases hkl : k < (sq evs f u).length
        · obtain ⟨s, hs⟩ : ∃ s, (sq evs f u)[k]? = some s := ⟨_, List.getElem?_eq_getElem hkl⟩
          obtain ⟨gz, oz, rfl, hcs⟩ := hcell k s hs
          have m6 : (k : Int) < (sq evs f u).length := by omega
          have m7 : (0 : Int) ≤ k := by omega
          have hts : ((sq evs f u).take (k + 1)).any (fun v => decide (v = z)) = (((sq evs f u).take k).any (fun v => decide (v = z)) || decide (s = z)) := by
            obtain ⟨h1, h2⟩ := List.getElem?_eq_some_iff.1 hs
            rw [List.take_succ_eq_append_getElem h1, h2, List.any_append]
            simp
          have HTs := Lib.hid hts
          clear hs hcell hts
          cases hb : ((sq evs f u).take k).any fun v => decide (v = z) with
          | true =>
            rw [hb] at HTs
            go_wp2_with fail
            go_quiet (fail)
            go_wp2_with fail
            go_roundw
            case rel => exact ⟨k + 1, by omega, by go_num, by rw [HTs.out]; rfl, Kept.drewN HK2.out _⟩
            case measure => simp [intOf] <;> omega
          | false =>
            rw [hb] at HTs
            by_cases hsz : s = z
            · rw [decide_eq_true hsz] at HTs
              go_wp2_with fail
              go_quiet (fail)
              go_wp2_with fail
              go_roundw
              case rel => exact ⟨k + 1, by omega, by go_num, by rw [HTs.out]; simp, Kept.drewN HK2.out _⟩
              case measure => simp [intOf] <;> omega
            · rw [decide_eq_false hsz] at HTs
              go_wp2_with fail
              go_quiet (fail)
              go_wp2_with fail
              go_roundw
              case rel => exact ⟨k + 1, by omega, by go_num, by rw [HTs.out]; simp [hsz], Kept.drewN HK2.out _⟩
              case measure => simp [intOf] <;> omega
        · obtain rfl : k = (sq evs f u).length := by omega
          have hall : ((sq evs f u).take (sq evs f u).length).any (fun v => decide (v = z)) = true := by
            rw [List.take_length]
            exact List.any_eq_true.2 ⟨z, HZu.out, by simp⟩
          rw [hall]
          clear hcell
          go_wp2_with fail
          go_roundw
          case rel => exact ⟨i + 1, by omega, by omega, by go_num, HK2.out⟩
          case measure => simp [intOf] <;> omega
    · obtain rfl : i = N := by omega
      go_wp2_with fail
      go_ret
      exact ⟨rfl, Keeps.trans HKw.out HK.out⟩
end Go.Proofs.YtbhiaeciiphelaaGreatDoor
