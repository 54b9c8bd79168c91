/-
  DERIVED. Nodes with their cells, the events that they are, and how they lie in memory. No condition.
-/
import Derived.Test.YtbhiaeciiphelaaGreatDoorTrP
import Derived.Deep.AppendLies
namespace Go.Proofs.YtbhiaeciiphelaaGreatDoor
open Go.RowKit
structure NR where
  site : Int
  addr : Int
  pa : Option Addr
  na : Nat
  ca : Nat
  sk : Int
  sm : Int
  ss : ByteArray
  sp : Option Addr
  sn : Nat
  sc : Nat
  wk : Int
  wm : Int
  ws : ByteArray
  wp : Option Addr
  wn : Nat
  wc : Nat
  args : List RV
  seen : RV
  wrote : RV
inductive NP where
  | mk (mod : Bool) (r : NR) (kids : List NP)
def NR.cells (r : NR) (mod : Bool) (vk : Value) : List Value := [.bool mod, .int .i64 r.site, .int .i64 r.addr, .slice r.pa r.na r.ca, .int .i64 r.sk, .int .i64 r.sm, .string r.ss, .slice r.sp r.sn r.sc, .int .i64 r.wk, .int .i64 r.wm, .string r.ws, .slice r.wp r.wn r.wc, vk]
def NR.mkEv (r : NR) : ET := ⟨⟨1, r.site, r.addr, r.pa, r.na, r.ca, 0, 0, ⟨#[]⟩, none, 0, 0⟩, r.args, RV.none⟩
def NR.rdEv (r : NR) : ET := ⟨⟨2, r.site, r.addr, none, 0, 0, r.sk, r.sm, r.ss, r.sp, r.sn, r.sc⟩, [], r.seen⟩
def NR.wrEv (r : NR) : ET := ⟨⟨3, 0, r.addr, none, 0, 0, r.wk, r.wm, r.ws, r.wp, r.wn, r.wc⟩, [], r.wrote⟩
def flat : List NP → List ET
  | [] => []
  | .mk true r kids :: l => (r.mkEv :: (flat kids ++ [r.wrEv])) ++ flat l
  | .mk false r kids :: l => (r.rdEv :: flat kids) ++ flat l
def cnt : List NP → Nat
  | [] => 0
  | .mk _ _ kids :: l => 1 + cnt kids + cnt l
theorem len_cnt : ∀ (l : List NP), l.length ≤ cnt l
  | [] => by simp
  | .mk _ _ _ :: l => by
    have := len_cnt l
    simp only [List.length_cons, cnt]
    omega
theorem cnt_append : ∀ (l l' : List NP), cnt (l ++ l') = cnt l + cnt l'
  | [], l' => by simp [cnt]
  | .mk m r k :: l, l' => by rw [List.cons_append, cnt, cnt, cnt_append l l']; omega
theorem flat_append : ∀ (l l' : List NP), flat (l ++ l') = flat l ++ flat l'
  | [], l' => by simp [flat]
  | .mk true r k :: l, l' => by rw [List.cons_append, flat, flat, flat_append l l', List.append_assoc]
  | .mk false r k :: l, l' => by rw [List.cons_append, flat, flat, flat_append l l', List.append_assoc]
theorem flat_len : ∀ (l : List NP), (flat l).length ≤ 2 * cnt l
  | [] => by simp [flat]
  | .mk true r k :: l => by
    have := flat_len k
    have := flat_len l
    simp only [flat, cnt, List.length_append, List.length_cons, List.length_nil]
    omega
  | .mk false r k :: l => by
    have := flat_len k
    have := flat_len l
    simp only [flat, cnt, List.length_append, List.length_cons]
    omega
def NPAt (w : World) (A : Nat → Prop) (e : Nat) : Nat → List NP → Value → Prop
  | 0, l, v => l = [] ∧ ∃ p c, v = .slice p 0 c
  | d + 1, l, v => ∃ p c, v = .slice p l.length c ∧
      ∀ (j : Nat) (mod : Bool) (r : NR) (kids : List NP), l[j]? = some (.mk mod r kids) → ∃ g o vk, p = some ⟨g, o, none⟩ ∧ ¬ A g ∧
        (∀ (i : Nat) (v : Value), (r.cells mod vk)[i]? = some v → w.cell? ⟨g, o + j * 13 + i, none⟩ = some v) ∧
        RunsAt w A e (.slice r.pa r.na r.ca) r.args ∧ RunAt w A e r.seen [.int .i64 r.sk, .int .i64 r.sm, .string r.ss, .slice r.sp r.sn r.sc] ∧ RunAt w A e r.wrote [.int .i64 r.wk, .int .i64 r.wm, .string r.ws, .slice r.wp r.wn r.wc] ∧ NPAt w A e d kids vk
theorem NPAt.form {w : World} {A : Nat → Prop} {e d : Nat} {l : List NP} {v : Value} (h : NPAt w A e d l v) : ∃ p c, v = .slice p l.length c := by
  cases d with
  | zero =>
    obtain ⟨rfl, p, c, rfl⟩ := h
    exact ⟨p, c, rfl⟩
  | succ d =>
    obtain ⟨p, c, rfl, _⟩ := h
    exact ⟨p, c, rfl⟩
theorem NPAt.keep {w w' : World} {A A' : Nat → Prop} {e : Nat} (hk : ∀ (g : Nat) (o : Obj), w.heap[g]? = some o → ¬ A g → w'.heap[g]? = some o ∧ ¬ A' g) : ∀ {d : Nat} {l : List NP} {v : Value}, NPAt w A e d l v → NPAt w' A' e d l v
  | 0, _, _, h => h
  | d + 1, l, v, h => by
    obtain ⟨p, c, rfl, h1⟩ := h
    refine ⟨p, c, rfl, fun j mod r kids hj => ?_⟩
    obtain ⟨g, o, vk, rfl, hA, hc, ha, hs, hw, hk2⟩ := h1 j mod r kids hj
    have hg := World.block_lt_of_cell? _ _ (hc 0 _ rfl)
    obtain ⟨h5, h6⟩ := hk g _ (Array.getElem?_eq_getElem hg) hA
    refine ⟨g, o, vk, rfl, h6, fun i v hi => ?_, ha.keep hk, hs.keep hk, hw.keep hk, NPAt.keep hk hk2⟩
    rw [World.cell?_of_block (w := w) (a := ⟨g, o + j * 13 + i, none⟩) (by rw [h5, Array.getElem?_eq_getElem hg])]
    exact hc i v hi
theorem NPAt.node {w : World} {A : Nat → Prop} {e d : Nat} {l : List NP} {p : Option Addr} {n c : Nat} (h : NPAt w A e d l (.slice p n c)) {j : Nat} {mod : Bool} {r : NR} {kids : List NP} (hj : l[j]? = some (.mk mod r kids)) :
    ∃ d' g o pk ck, d = d' + 1 ∧ p = some ⟨g, o, none⟩ ∧ ¬ A g ∧ (∀ (i : Nat) (v : Value), (r.cells mod (.slice pk kids.length ck))[i]? = some v → w.cell? ⟨g, o + j * 13 + i, none⟩ = some v) ∧
      RunsAt w A e (.slice r.pa r.na r.ca) r.args ∧ RunAt w A e r.seen [.int .i64 r.sk, .int .i64 r.sm, .string r.ss, .slice r.sp r.sn r.sc] ∧ RunAt w A e r.wrote [.int .i64 r.wk, .int .i64 r.wm, .string r.ws, .slice r.wp r.wn r.wc] ∧ NPAt w A e d' kids (.slice pk kids.length ck) := by
  cases d with
  | zero =>
    obtain ⟨rfl, _⟩ := h
    simp at hj
  | succ d =>
    obtain ⟨p', c', he, h1⟩ := h
    injection he with he1 he2 he3
    subst he1
    obtain ⟨g, o, vk, h2, h3, h4, h5, h6, h7, h8⟩ := h1 j mod r kids hj
    obtain ⟨pk, ck, rfl⟩ := h8.form
    exact ⟨d, g, o, pk, ck, rfl, h2, h3, h4, h5, h6, h7, h8⟩
theorem cnt_split (l : List NP) (j : Nat) : cnt l = cnt (l.take j) + cnt (l.drop j) := by
  rw [← cnt_append, List.take_append_drop]
theorem cnt_part {l : List NP} {j : Nat} {mod : Bool} {r : NR} {kids : List NP} (hj : l[j]? = some (.mk mod r kids)) : cnt (l.take j) + (1 + cnt kids) ≤ cnt l := by
  obtain ⟨hjl, he⟩ := List.getElem?_eq_some_iff.1 hj
  have h1 := cnt_split l j
  rw [List.drop_eq_getElem_cons hjl, he, cnt] at h1
  omega
theorem cnt_take {l : List NP} {j : Nat} {mod : Bool} {r : NR} {kids : List NP} (hj : l[j]? = some (.mk mod r kids)) : cnt (l.take (j + 1)) = cnt (l.take j) + (1 + cnt kids) := by
  obtain ⟨hjl, he⟩ := List.getElem?_eq_some_iff.1 hj
  rw [List.take_succ_eq_append_getElem hjl, cnt_append, he, cnt, cnt]
  omega
theorem flat_take {l : List NP} {j : Nat} {mod : Bool} {r : NR} {kids : List NP} (hj : l[j]? = some (.mk mod r kids)) : flat (l.take (j + 1)) = flat (l.take j) ++ (if mod then r.mkEv :: (flat kids ++ [r.wrEv]) else r.rdEv :: flat kids) := by
  obtain ⟨hjl, he⟩ := List.getElem?_eq_some_iff.1 hj
  rw [List.take_succ_eq_append_getElem hjl, flat_append, he]
  cases mod <;> simp [flat]
end Go.Proofs.YtbhiaeciiphelaaGreatDoor
namespace Go.Proofs.YtbhiaeciiphelaaGreatDoor
open Go.RowKit
def CountPost (w : World) (tb k : Nat) (l : List NP) (x : Ending) (w' : World) : Prop :=
  ∃ (b : Bool) (k' : Nat), x = .returned (.bool b) ∧ Kept (fun g => g = tb) w w' ∧ w'.heap[tb]? = some (.cells #[.int .i64 k'] 3 (0, 0)) ∧ (b = true → k' = k + cnt l ∧ k' ≤ 30000)
theorem keep_at {w w' : World} {A : Nat → Prop} {tb : Nat} (hk : Kept (fun g => g = tb) w w') (hA : A tb) : ∀ (g : Nat) (o : Obj), w.heap[g]? = some o → ¬ A g → w'.heap[g]? = some o ∧ ¬ A g := fun _ _ hg hx => ⟨hk.at hg fun e => hx (e ▸ hA), hx⟩
set_option maxHeartbeats 8000000 in
set_option maxRecDepth 100000 in
theorem countNodes_of (e : Nat) : ∀ (d : Nat) (l : List NP) (v : Value) (w : World) (A : Nat → Prop) (tb k deep : Nat), NPAt w A e d l v → A tb → w.heap[tb]? = some (.cells #[.int .i64 k] 3 (0, 0)) → k ≤ 30000 →
    Calls Tryz.prog 60 #[v, .int .i64 deep, .pointer (some ⟨tb, 0, none⟩)] w (CountPost w tb k l) := by
  intro d
  induction d with
  | zero =>
    intro l v w A tb k deep h hA htb hk
    obtain ⟨rfl, p, c, rfl⟩ := h
    have HTb := Lib.hid htb
    clear htb hA
    go_enter Tryz.func60, Tryz.ntmps60
    go_wp2_with fail
    go_loopw [7] (fun q W => q = .int .i64 0 ∧ W = w) (fun _ _ => 0)
    case atStart => exact ⟨rfl, rfl⟩
    case round =>
      obtain ⟨rfl, rfl⟩ := hrel
      go_wp2_with fail
      go_ret
      exact ⟨true, k, rfl, Kept.refl _ _, HTb.out, fun _ => ⟨by simp [cnt], hk⟩⟩
  | succ d ih =>
    intro l v w A tb k deep h hA htb hk
    have HI := Lib.hid ih
    have H := Lib.hid h
    have HA := Lib.hid hA
    have HTb := Lib.hid htb
    obtain ⟨p, c, rfl⟩ := h.form
    obtain ⟨n, hn⟩ : ∃ n, n = l.length := ⟨_, rfl⟩
    rw [← hn]
    rw [← hn] at H
    have HN := Lib.hid hn
    clear ih h hA htb hn
    go_enter Tryz.func60, Tryz.ntmps60
    go_wp2_with fail
    go_loopw [7] (fun q W => ∃ (i k' : Nat), i ≤ n ∧ q = .int .i64 i ∧ Kept (fun g => g = tb) w W ∧ W.heap[tb]? = some (.cells #[.int .i64 k'] 3 (0, 0)) ∧ k' = k + cnt (l.take i) ∧ k' ≤ 30000) (fun q _ => n - (intOf q).toNat)
    case atStart => exact ⟨0, k, Nat.zero_le _, rfl, Kept.refl _ _, HTb.out, by simp [cnt], hk⟩
    case round =>
      obtain ⟨i, k', hi, rfl, hkw, htb, hk', hk3⟩ := hrel
      have hi30 : i ≤ 30000 := by
        have h1 := len_cnt (l.take i)
        rw [List.length_take, ← HN.out] at h1
        omega
      have HKw := Lib.hid hkw
      have HT := Lib.hid htb
      have HK' := Lib.hid hk'
      have k7 : (0 : Int) ≤ i := by omega
      have t0 := cell_of_block htb 0
      have t1 := free_of_block htb 0
      simp at t0
      clear hkw htb hk'
      by_cases hil : i < n
      · obtain ⟨nd, hu⟩ : ∃ nd, l[i]? = some nd := ⟨_, List.getElem?_eq_getElem (by rw [← HN.out]; exact hil)⟩
        obtain ⟨mod, r, kids⟩ := nd
        have k6 : (i : Int) < n := by omega
        obtain ⟨d', g, o, pk, ck, hd, rfl, hg, hc, _, _, _, hkids⟩ := (H.out.keep (keep_at HKw.out HA.out)).node hu
        obtain rfl : d' = d := by omega
        have x12 := hc 12 _ rfl
        have z1 : tb ≠ g := fun e => hg (e ▸ HA.out)
        have z2 : g ≠ tb := fun e => z1 e.symm
        have HU := Lib.hid hu
        have hks : Kept (fun g => g = tb) wr (wr.setCell ⟨tb, 0, none⟩ (.int .i64 ((k' : Int) + 1))) := (Kept.refl (fun g => g = tb) wr).setCell (p := ⟨tb, 0, none⟩) (fun _ => rfl) _
        have hts : (wr.setCell ⟨tb, 0, none⟩ (.int .i64 ((k' : Int) + 1))).heap[tb]? = some (.cells #[.int .i64 ((k' + 1 : Nat) : Int)] 3 (0, 0)) := by
          rw [heap_set_same HT.out]; simp
        have HKs := Lib.hid hks
        have HTs := Lib.hid hts
        have HKids := Lib.hid hkids
        clear hc hg hu hkids hks hts hd
        by_cases h1 : k' + 1 ≤ 30000
        · have j1 : decide ((30000 : Int) < (k' : Int) + 1) = false := by simp; omega
          by_cases h2 : deep ≤ 20000
          · have j2 : decide ((20000 : Int) < (deep : Int)) = false := by simp; omega
            have HC := Lib.hid (HI.out kids (.slice pk kids.length ck) _ A tb (k' + 1) (deep + 1) (HKids.out.keep (keep_at HKs.out HA.out)) HA.out HTs.out h1)
            rw [show ((deep + 1 : Nat) : Int) = (deep : Int) + 1 by omega] at HC
            go_wp2_with (go_at_call 60; refine HC.out.mono ?_; rintro _ w2 ⟨b2, k2, rfl, hk2, ht2, hb2⟩)
            · cases b2 with
              | true => simp_all
              | false =>
                go_ret
                exact ⟨false, k2, rfl, Kept.trans HKw.out (Kept.trans HKs.out hk2 (fun _ _ x => x)) (fun _ _ x => x), ht2, fun h => by cases h⟩
            · cases b2 with
              | false => simp_all
              | true =>
                obtain ⟨q1, q2⟩ := hb2 rfl
                have HQ := Lib.hid (show k2 = k + cnt (l.take (i + 1)) by rw [cnt_take HU.out, q1, HK'.out]; omega)
                have H2 := Lib.hid hk2
                have HT2 := Lib.hid ht2
                clear hb2 q1 hk2 ht2
                go_roundw
                case rel => exact ⟨i + 1, k2, by omega, by go_num, Kept.trans HKw.out (Kept.trans HKs.out H2.out (fun _ _ x => x)) (fun _ _ x => x), HT2.out, HQ.out, q2⟩
                case measure => simp [intOf] <;> omega
          · have j2 : decide ((20000 : Int) < (deep : Int)) = true := by simp; omega
            go_wp2_with fail
            go_ret
            exact ⟨false, k' + 1, rfl, Kept.trans HKw.out HKs.out (fun _ _ x => x), HTs.out, fun h => by cases h⟩
        · have j1 : decide ((30000 : Int) < (k' : Int) + 1) = true := by simp; omega
          go_wp2_with fail
          go_ret
          exact ⟨false, k' + 1, rfl, Kept.trans HKw.out HKs.out (fun _ _ x => x), HTs.out, fun h => by cases h⟩
      · obtain rfl : i = n := by omega
        have hq : k' = k + cnt l := by rw [HK'.out, HN.out, List.take_length]
        have HQ := Lib.hid hq
        clear hq
        have k6 : ¬ (i : Int) < i := by omega
        go_wp2_with fail
        go_ret
        exact ⟨true, k', rfl, HKw.out, HT.out, fun _ => ⟨HQ.out, hk3⟩⟩
end Go.Proofs.YtbhiaeciiphelaaGreatDoor
namespace Go.Proofs.YtbhiaeciiphelaaGreatDoor
open Go.RowKit
structure SR where
  ps : Option Addr
  ns : Nat
  cs : Nat
  pl : Option Addr
  nl : Nat
  cl : Nat
  pi : Option Addr
  ni : Nat
  ci : Nat
  pr : Option Addr
  nr : Nat
  cr : Nat
  steps : Int
def SR.cells (s : SR) : Array Value := #[.slice s.ps s.ns s.cs, .slice s.pl s.nl s.cl, .slice s.pi s.ni s.ci, .slice s.pr s.nr s.cr, .int .i64 s.steps]
def LittlePost (w : World) (ns : Nat) (l : List NP) (x : Ending) (w' : World) : Prop := ∃ b : Bool, x = .returned (.bool b) ∧ Keeps w w' ∧ (b = true → ns ≤ 2000 ∧ cnt l ≤ 600)
set_option maxHeartbeats 4000000 in
set_option maxRecDepth 100000 in
theorem little_of (e d : Nat) (w : World) (A : Nat → Prop) (s : SR) (l : List NP) (h : NPAt w A e d l (.slice s.pr s.nr s.cr)) :
    Calls Tryz.prog 26 #[.agg s.cells] w (LittlePost w s.ns l) := by
  obtain ⟨ps, ns, cs, pl, nl, cl, pi, ni, ci, pr, nr, cr, steps⟩ := s
  simp only [SR.cells] at *
  have hk0 : Keeps w ((w.alloc (.cells #[.slice ps ns cs, .slice pl nl cl, .slice pi ni ci, .slice pr nr cr, .int .i64 steps] 51)).alloc (.cells #[.int .i64 0] 3)) := Kept.alloc (Keeps.alloc _ _) _
  have hsz : (w.alloc (.cells #[.slice ps ns cs, .slice pl nl cl, .slice pi ni ci, .slice pr nr cr, .int .i64 steps] 51)).heap.size = w.heap.size + 1 := World.size_alloc _ _
  have htb : ((w.alloc (.cells #[.slice ps ns cs, .slice pl nl cl, .slice pi ni ci, .slice pr nr cr, .int .i64 steps] 51)).alloc (.cells #[.int .i64 0] 3)).heap[w.heap.size + 1]? = some (.cells #[.int .i64 ((0 : Nat) : Int)] 3 (0, 0)) := by
    have h9 := heap_alloc_at (w.alloc (.cells #[.slice ps ns cs, .slice pl nl cl, .slice pi ni ci, .slice pr nr cr, .int .i64 steps] 51)) (.cells #[.int .i64 0] 3)
    rw [hsz] at h9
    exact h9
  have HC := Lib.hid (countNodes_of e d l (.slice pr nr cr) _ (fun g => g = w.heap.size + 1) (w.heap.size + 1) 0 1 (h.keep fun g o hg _ => ⟨hk0.at hg (fun x => x), fun e => by have := heap_lt hg; omega⟩) rfl htb (by omega))
  have HK0 := Lib.hid hk0
  clear h hk0 hsz htb
  by_cases h1 : ns ≤ 2000
  · have j1 : (ns : Int) ≤ 2000 := by omega
    go_enter Tryz.func26, Tryz.ntmps26
    go_wp2_with (go_at_call 60; refine HC.out.mono ?_; rintro _ w2 ⟨b2, k2, rfl, hk2, ht2, hb2⟩; have t0 := cell_of_block ht2 0; simp at t0)
    all_goals go_ret
    all_goals have hkw : Keeps w w2 := Kept.trans HK0.out hk2 fun g hg hx => by omega
    · exact ⟨_, rfl, hkw, fun h => ⟨h1, by have := (hb2 (by assumption)).1; simp at h; omega⟩⟩
    · exact ⟨_, rfl, hkw, fun h => by cases h⟩
  · have j1 : ¬ (ns : Int) ≤ 2000 := by omega
    go_enter Tryz.func26, Tryz.ntmps26
    go_wp2_with fail
    go_ret
    exact ⟨false, rfl, HK0.out, fun h => by cases h⟩
end Go.Proofs.YtbhiaeciiphelaaGreatDoor
namespace Go.Proofs.YtbhiaeciiphelaaGreatDoor
open Go.RowKit
theorem info98 : (Tryz.prog.info? 98).map (fun i => (i.zero, i.size, i.bytes)) = some (some (.agg #[.int .i64 0, .int .i64 0, .int .i64 0, .slice none 0 0, .int .i64 0, .int .i64 0, .string ⟨#[]⟩, .slice none 0 0]), 8, 104) := by kernel_rfl
theorem under22 : Tryz.prog.underlying 22 = some (.slice 98) := by kernel_rfl
def evCells (evs : List ET) : List Value := evs.flatMap fun t => t.ev.cells
theorem evCells_append (evs : List ET) (t : ET) : evCells (evs ++ [t]) = evCells evs ++ t.ev.cells := by simp [evCells]
structure FlatMem (w W : World) (bn bo : Nat) (v : Value) (evs : List ET) (k : Nat) : Prop where
  kept : Keeps w W
  nbn : w.heap.size ≤ bn
  nbo : w.heap.size ≤ bo
  hbn : W.heap[bn]? = some (.cells #[.int .i64 k] 3 (0, 0))
  hbo : W.heap[bo]? = some (.cells #[v] 22 (0, 0))
  row : W.ownsRow w.heap.size 98 8 v evs.length (evCells evs)
section
variable {w W W' : World} {bn bo k : Nat} {v : Value} {evs : List ET}
theorem FlatMem.keeps (h : FlatMem w W bn bo v evs k) (hk : Keeps W W') : FlatMem w W' bn bo v evs k :=
  ⟨Keeps.trans h.kept hk, h.nbn, h.nbo, hk.at h.hbn (fun x => x), hk.at h.hbo (fun x => x), row_same h.row fun g hg => hk.block g (h.row.lt g hg).2 (fun x => x)⟩
theorem FlatMem.ne (h : FlatMem w W bn bo v evs k) : bn ≠ bo ∧ v.ownBlock ≠ some bn ∧ v.ownBlock ≠ some bo := by
  refine ⟨fun e => ?_, fun e => ?_, fun e => ?_⟩
  · have h1 := h.hbn
    rw [e, h.hbo] at h1
    simp at h1
  · obtain ⟨cur, hc⟩ := row_block h.row e
    rw [h.hbn] at hc
    simp at hc
  · obtain ⟨cur, hc⟩ := row_block h.row e
    rw [h.hbo] at hc
    simp at hc
theorem FlatMem.count (h : FlatMem w W bn bo v evs k) : FlatMem w (W.setCell ⟨bn, 0, none⟩ (.int .i64 ((k : Int) + 1))) bn bo v evs (k + 1) ∧ Kept (fun g => g = bn) W (W.setCell ⟨bn, 0, none⟩ (.int .i64 ((k : Int) + 1))) := by
  obtain ⟨n1, n2, n3⟩ := h.ne
  refine ⟨⟨Kept.one0 h.kept h.nbn _ _, h.nbn, h.nbo, by rw [heap_set_same h.hbn]; simp, by rw [heap_set_other _ (Ne.symm n1)]; exact h.hbo, row_same h.row fun g hg => heap_set_other _ fun e => n2 (e ▸ hg)⟩, ?_⟩
  exact (Kept.refl (fun g => g = bn) W).setCell (p := ⟨bn, 0, none⟩) (fun _ => rfl) _
theorem FlatMem.push {w5 : World} {O : Obj} {v5 : Value} {t : ET} (h : FlatMem w W bn bo v evs k) (hg : (W.alloc O).grownBy w5 v.ownBlock) (hr : w5.ownsRow w.heap.size 98 8 v5 (evs.length + 1) (evCells evs ++ t.ev.cells)) :
    w5.heap[bo]? = some (.cells #[v] 22 (0, 0)) ∧ FlatMem w (w5.setCell ⟨bo, 0, none⟩ v5) bn bo v5 (evs ++ [t]) k ∧ Kept (fun g => g = bo ∨ v.ownBlock = some g) W (w5.setCell ⟨bo, 0, none⟩ v5) := by
  obtain ⟨n1, n2, n3⟩ := h.ne
  have hk5 : Kept (fun g => v.ownBlock = some g) W w5 := ((Kept.refl _ W).alloc O).grown hg (fun b hb _ => hb)
  have hbo := hk5.at h.hbo n3
  have hk6 : Kept (fun g => g = bo ∨ v.ownBlock = some g) W (w5.setCell ⟨bo, 0, none⟩ v5) := (hk5.mono fun _ _ x => .inr x).setCell (p := ⟨bo, 0, none⟩) (fun _ => .inl rfl) _
  refine ⟨hbo, ⟨Kept.trans h.kept hk6 fun g hgl hx => ?_, h.nbn, h.nbo, hk6.at h.hbn fun hx => ?_, by rw [heap_set_same hbo]; rfl, ?_⟩, hk6⟩
  · rcases hx with rfl | hx
    · exact absurd hgl (Nat.not_lt.2 h.nbo)
    · have := (h.row.lt g hx).1; omega
  · rcases hx with hx | hx
    · exact n1 hx
    · exact n2 hx
  · rw [evCells_append, List.length_append]
    refine row_same hr fun g hg' => heap_set_other _ fun e => ?_
    obtain ⟨cur, hc⟩ := row_block hr hg'
    rw [e, hbo] at hc
    simp at hc
end
end Go.Proofs.YtbhiaeciiphelaaGreatDoor
namespace Go.Proofs.YtbhiaeciiphelaaGreatDoor
open Go.RowKit
def FlatPost (w W : World) (bn bo : Nat) (v : Value) (evs : List ET) (k : Nat) (l : List NP) (x : Ending) (W' : World) : Prop :=
  ∃ v', x = .returned (.tuple #[]) ∧ FlatMem w W' bn bo v' (evs ++ flat l) (k + cnt l) ∧ Kept (fun g => g = bn ∨ g = bo ∨ v.ownBlock = some g) W W' ∧ (v'.ownBlock = v.ownBlock ∨ ∃ g, v'.ownBlock = some g ∧ W.heap.size ≤ g)
structure FlatBox (W : World) (bn bf bo ba : Nat) : Prop where
  hbf : W.heap[bf]? = some (.cells #[.bool true] 4 (0, 0))
  hba : W.heap[ba]? = some (.cells #[.func (.func 90) #[] #[.pointer (some ⟨bn, 0, none⟩), .pointer (some ⟨bf, 0, none⟩), .pointer (some ⟨bo, 0, none⟩), .pointer (some ⟨ba, 0, none⟩)]] 170 (0, 0))
theorem FlatMem.far {w W W' : World} {bn bo k : Nat} {v : Value} {evs : List ET} (h : FlatMem w W bn bo v evs k) (hk : Kept (fun g => g = bn ∨ g = bo ∨ v.ownBlock = some g) W W') {b : Nat} {c : Array Value} {t : TypeId} (hb : W.heap[b]? = some (.cells c t (0, 0))) (h1 : t ≠ 3) (h2 : t ≠ 22) (h3 : t ≠ 98) : W'.heap[b]? = some (.cells c t (0, 0)) := by
  refine hk.at hb ?_
  rintro (rfl | rfl | e)
  · rw [h.hbn] at hb
    simp at hb
    exact h1 hb.2.symm
  · rw [h.hbo] at hb
    simp at hb
    exact h2 hb.2.symm
  · obtain ⟨cur, hc⟩ := row_block h.row e
    rw [hc] at hb
    simp at hb
    exact h3 hb.2.symm
theorem FlatBox.far {w W W' : World} {bn bf bo ba k : Nat} {v : Value} {evs : List ET} (hB : FlatBox W bn bf bo ba) (h : FlatMem w W bn bo v evs k) (hk : Kept (fun g => g = bn ∨ g = bo ∨ v.ownBlock = some g) W W') : FlatBox W' bn bf bo ba :=
  ⟨h.far hk hB.hbf (by decide) (by decide) (by decide), h.far hk hB.hba (by decide) (by decide) (by decide)⟩
theorem FlatMem.form {w W : World} {bn bo k : Nat} {v : Value} {evs : List ET} (h : FlatMem w W bn bo v evs k) : ∃ q c, v = .slice q evs.length c := by
  rcases h.row.2 with ⟨hv, h0⟩ | ⟨g, cap, cur, hv, _⟩
  · exact ⟨none, 0, by rw [hv, h0]⟩
  · exact ⟨_, cap, hv⟩
theorem kept_chain {W X Y : World} {bn bo : Nat} {vo vi : Value} (hkw : Kept (fun g => g = bn ∨ g = bo ∨ vo.ownBlock = some g) W X) (hat : vi.ownBlock = vo.ownBlock ∨ ∃ g, vi.ownBlock = some g ∧ W.heap.size ≤ g) (hk : Kept (fun g => g = bn ∨ g = bo ∨ vi.ownBlock = some g) X Y) : Kept (fun g => g = bn ∨ g = bo ∨ vo.ownBlock = some g) W Y :=
  Kept.trans hkw hk fun g hg hx => by
    rcases hx with hx | hx | hx
    · exact .inl hx
    · exact .inr (.inl hx)
    · rcases hat with e | ⟨g', e, hg'⟩
      · exact .inr (.inr (e ▸ hx))
      · rw [e] at hx
        injection hx with hx
        omega
theorem at_chain {W X : World} {vo vi v5 : Value} (hs : W.heap.size ≤ X.heap.size) (hat : vi.ownBlock = vo.ownBlock ∨ ∃ g, vi.ownBlock = some g ∧ W.heap.size ≤ g) (h5 : v5.ownBlock = vi.ownBlock ∨ ∃ g, v5.ownBlock = some g ∧ X.heap.size ≤ g) : v5.ownBlock = vo.ownBlock ∨ ∃ g, v5.ownBlock = some g ∧ W.heap.size ≤ g := by
  rcases h5 with e | ⟨g, e, hg⟩
  · rw [e]; exact hat
  · exact .inr ⟨g, e, Nat.le_trans hs hg⟩
theorem at_new {X : World} {O : Obj} {v5 v : Value} (h : v5.ownBlock = v.ownBlock ∨ v5.ownBlock = some (X.alloc O).heap.size) : v5.ownBlock = v.ownBlock ∨ ∃ g, v5.ownBlock = some g ∧ X.heap.size ≤ g := by
  rcases h with e | e
  · exact .inl e
  · exact .inr ⟨_, e, by rw [World.size_alloc]; exact Nat.le_succ _⟩
set_option maxHeartbeats 8000000 in
set_option maxRecDepth 100000 in
theorem flat1_of (e : Nat) (w : World) (A0 : Nat → Prop) (bn bf bo ba : Nat) : ∀ (d : Nat) (l : List NP) (v : Value) (W : World) (vo : Value) (evs : List ET) (k deep : Nat), NPAt w A0 e d l v → FlatMem w W bn bo vo evs k → FlatBox W bn bf bo ba → k + cnt l ≤ 30000 → deep + cnt l ≤ 30000 → evs.length ≤ 2 * k →
    Calls Tryz.prog 90 #[v, .int .i64 deep, .pointer (some ⟨bn, 0, none⟩), .pointer (some ⟨bf, 0, none⟩), .pointer (some ⟨bo, 0, none⟩), .pointer (some ⟨ba, 0, none⟩)] W (FlatPost w W bn bo vo evs k l) := by
  intro d
  induction d with
  | zero =>
    intro l v W vo evs k deep h hM hB hk hdp hev
    obtain ⟨rfl, p, c, rfl⟩ := h
    have HM := Lib.hid hM
    clear hM hB
    go_enter Tryz.func90, Tryz.ntmps90
    go_wp2_with fail
    go_loopw [12] (fun q W' => q = .int .i64 0 ∧ W' = W) (fun _ _ => 0)
    case atStart => exact ⟨rfl, rfl⟩
    case round =>
      obtain ⟨rfl, rfl⟩ := hrel
      go_wp2_with fail
      refine bodyPost_ret (results_none rfl _ _ _) rfl ?_
      exact ⟨vo, rfl, by simpa [flat, cnt] using HM.out, Kept.refl _ _, .inl rfl⟩
  | succ d ih =>
    intro l v W vo evs k deep h hM hB hk hdp hev
    have HI := Lib.hid ih
    have H := Lib.hid h
    have HM := Lib.hid hM
    have HB := Lib.hid hB
    obtain ⟨p, c, rfl⟩ := h.form
    have hln := len_cnt l
    obtain ⟨i98, hi98, hz98, hs98, hb98⟩ := info_parts info98
    obtain ⟨n, hn⟩ : ∃ n, n = l.length := ⟨_, rfl⟩
    rw [← hn]
    rw [← hn] at H hln
    have HN := Lib.hid hn
    clear ih h hM hB hn
    go_enter Tryz.func90, Tryz.ntmps90
    go_wp2_with fail
    go_loopw [12] (fun q W' => ∃ (i : Nat) (vi : Value), i ≤ n ∧ q = .int .i64 i ∧ FlatMem w W' bn bo vi (evs ++ flat (l.take i)) (k + cnt (l.take i)) ∧ FlatBox W' bn bf bo ba ∧ Kept (fun g => g = bn ∨ g = bo ∨ vo.ownBlock = some g) W W' ∧ (vi.ownBlock = vo.ownBlock ∨ ∃ g, vi.ownBlock = some g ∧ W.heap.size ≤ g)) (fun q _ => n - (intOf q).toNat)
    case atStart => exact ⟨0, vo, Nat.zero_le _, rfl, by simpa [flat, cnt] using HM.out, HB.out, Kept.refl _ _, .inl rfl⟩
    case round =>
      obtain ⟨i, vi, hi, rfl, hM, hB, hkw, hat⟩ := hrel
      have HKw := Lib.hid hkw
      have k7 : (0 : Int) ≤ i := by omega
      by_cases hil : i < n
      · obtain ⟨nd, hu⟩ : ∃ nd, l[i]? = some nd := ⟨_, List.getElem?_eq_getElem (by rw [← HN.out]; exact hil)⟩
        obtain ⟨mod, r, kids⟩ := nd
        have k6 : (i : Int) < n := by omega
        obtain ⟨d', g, o, pk, ck, hd, rfl, hg, hc, hta, hts, htw, hkids⟩ := H.out.node hu
        obtain rfl : d' = d := by omega
        have hpart := cnt_part hu
        have hsplit := cnt_take hu
        have x0 := cell_keeps hM.kept (hc 0 _ rfl)
        have x1 := cell_keeps hM.kept (hc 1 _ rfl)
        have x2 := cell_keeps hM.kept (hc 2 _ rfl)
        have x3 := cell_keeps hM.kept (hc 3 _ rfl)
        have x4 := cell_keeps hM.kept (hc 4 _ rfl)
        have x5 := cell_keeps hM.kept (hc 5 _ rfl)
        have x6 := cell_keeps hM.kept (hc 6 _ rfl)
        have x7 := cell_keeps hM.kept (hc 7 _ rfl)
        have x8 := cell_keeps hM.kept (hc 8 _ rfl)
        have x9 := cell_keeps hM.kept (hc 9 _ rfl)
        have x10 := cell_keeps hM.kept (hc 10 _ rfl)
        have x11 := cell_keeps hM.kept (hc 11 _ rfl)
        have x12 := cell_keeps hM.kept (hc 12 _ rfl)
        simp only [Nat.add_zero] at x0
        generalize hkk : k + cnt (l.take i) = kk at hM
        generalize hee : evs ++ flat (l.take i) = ee at hM
        have hel : ee.length ≤ 2 * kk := by
          have := flat_len (l.take i)
          rw [← hee, List.length_append]
          omega
        have hkb : kk + 1 + cnt kids ≤ 30000 := by omega
        have hdb : deep + 1 + cnt kids ≤ 30000 := by omega
        obtain ⟨qv, cv, rfl⟩ := hM.form
        obtain ⟨nE, hnE⟩ : ∃ nE, nE = ee.length := ⟨_, rfl⟩
        rw [← hnE] at hM hat hel
        have HNE := Lib.hid hnE
        obtain ⟨n1, _, n3⟩ := hM.ne
        have n1' : bo ≠ bn := fun e => n1 e.symm
        have b0 : wr.cell? ⟨bo, 0, none⟩ = some (.slice qv nE cv) := by rw [cell_of_block hM.hbo]; rfl
        have b1 := free_of_block hM.hbo 0
        have hlo := heap_lt hM.hbo
        have t0 : wr.cell? ⟨bn, 0, none⟩ = some (.int .i64 kk) := by rw [cell_of_block hM.hbn]; rfl
        have t1 := free_of_block hM.hbn 0
        have j1 : decide ((30000 : Int) < (kk : Int) + 1) = false := by simp; omega
        have j2 : decide ((30000 : Int) < (deep : Int)) = false := by simp; omega
        have HU := Lib.hid hu
        have HKids := Lib.hid hkids
        have HEe := Lib.hid hee
        have HKk := Lib.hid hkk
        have HSp := Lib.hid hsplit
        have HMi := Lib.hid hM
        have HAt := Lib.hid hat
        have HBi := Lib.hid hB
        have hlb := heap_lt hM.hbn
        clear hc hg hta hts htw hu hkids hd hee hkk hsplit hM hB hkw hat hpart hnE n3
        cases mod with
        | true =>
          go_wp2_with (at_builtin; refine holdT ?_)
          refine Lib.hid ?_
          obtain ⟨Wc, hWc⟩ : ∃ Wc, Wc = (wr.setCell ⟨bn, 0, none⟩ (.int .i64 ((kk : Int) + 1))).alloc (.cells #[.bool true, .int .i64 r.site, .int .i64 r.addr, .slice r.pa r.na r.ca, .int .i64 r.sk, .int .i64 r.sm, .string r.ss, .slice r.sp r.sn r.sc, .int .i64 r.wk, .int .i64 r.wm, .string r.ws, .slice r.wp r.wn r.wc, .slice pk kids.length ck] 114) := ⟨_, rfl⟩
          rw [← hWc]
          have hMc : FlatMem w Wc bn bo (.slice qv nE cv) ee (kk + 1) := by rw [hWc]; exact HMi.out.count.1.keeps (Keeps.alloc _ _)
          have hkc : Kept (fun g => g = bn) wr Wc := by rw [hWc]; exact HMi.out.count.2.alloc _
          have hsz : (wr.setCell ⟨bn, 0, none⟩ (.int .i64 ((kk : Int) + 1))).heap.size = wr.heap.size := by simp [World.setCell]
          have hNc : Wc.heap[wr.heap.size]? = some (.cells #[.bool true, .int .i64 r.site, .int .i64 r.addr, .slice r.pa r.na r.ca, .int .i64 r.sk, .int .i64 r.sm, .string r.ss, .slice r.sp r.sn r.sc, .int .i64 r.wk, .int .i64 r.wm, .string r.ws, .slice r.wp r.wn r.wc, .slice pk kids.length ck] 114 (0, 0)) := by
            rw [hWc]
            have h9 := heap_alloc_at (wr.setCell ⟨bn, 0, none⟩ (.int .i64 ((kk : Int) + 1))) (.cells #[.bool true, .int .i64 r.site, .int .i64 r.addr, .slice r.pa r.na r.ca, .int .i64 r.sk, .int .i64 r.sm, .string r.ss, .slice r.sp r.sn r.sc, .int .i64 r.wk, .int .i64 r.wm, .string r.ws, .slice r.wp r.wn r.wc, .slice pk kids.length ck] 114)
            rw [hsz] at h9
            exact h9
          have hWl : Wc.heap.size = wr.heap.size + 1 := by rw [hWc, World.size_alloc, hsz]
          have HMc := Lib.hid hMc
          have HKc := Lib.hid hkc
          have HNc := Lib.hid hNc
          have HWl := Lib.hid hWl
          have HRc := Lib.hid (show Wc.ownsRow w.heap.size 98 8 (.slice qv nE cv) nE (evCells ee) by have h9 := hMc.row; rw [← HNE.out] at h9; exact h9)
          have HSc := Lib.hid hMc.kept.size
          have HBc := Lib.hid (HBi.out.far HMi.out (hkc.mono fun _ _ x => .inl x))
          clear hWc hMc hkc hsz hNc hWl x0 x1 x2 x3 x4 x5 x6 x7 x8 x9 x10 x11 x12 t0 t1 b0 b1
          refine wpList_append_own_at _ rfl (.tmp 43) (.tmp 51) 22 rfl w.heap.size 98 i98 (.agg #[.int .i64 0, .int .i64 0, .int .i64 0, .slice none 0 0, .int .i64 0, .int .i64 0, .string ⟨#[]⟩, .slice none 0 0]) 8 104 under22 hi98 hz98 hs98 hb98 rfl (by decide) (.slice qv nE cv) nE (evCells ee) rfl (HRc.out.alloc _) ⟨wr.heap.size + 1, 0, none⟩ 1 1 [.int .i64 1, .int .i64 r.site, .int .i64 r.addr, .slice r.pa r.na r.ca, .int .i64 0, .int .i64 0, .string ⟨#[]⟩, .slice none 0 0] rfl rfl
            (World.news_of_block (cs := #[.int .i64 1, .int .i64 r.site, .int .i64 r.addr, .slice r.pa r.na r.ca, .int .i64 0, .int .i64 0, .string ⟨#[]⟩, .slice none 0 0]) (t := 98) (fr := (0, 0)) (by have h9 := heap_alloc_at Wc (.cells #[.int .i64 1, .int .i64 r.site, .int .i64 r.addr, .slice r.pa r.na r.ca, .int .i64 0, .int .i64 0, .string ⟨#[]⟩, .slice none 0 0] 98); rw [HWl.out] at h9; exact h9)) (by simp [Value.oneCell']) (by unfold maxLen; omega) (by omega) (by have := HSc.out; rw [World.size_alloc]; omega) ?_
          intro v5 w5 hown hgrow hnil hat5
          obtain ⟨g5, cap5, rfl⟩ := row_succ hown
          rw [HNE.out] at hown
          obtain ⟨hbo5, hM5, hk5⟩ := HMc.out.push (t := r.mkEv) hgrow hown
          rw [← HNE.out] at hM5 hk5
          have b0 := cell_of_block hbo5 0
          have b1 := free_of_block hbo5 0
          simp at b0
          have HM5 := Lib.hid hM5
          have HK5 := Lib.hid (hk5.mono (T := fun g => g = bn ∨ g = bo ∨ (Value.slice qv nE cv).ownBlock = some g) fun _ _ x => .inr x)
          have HN5 := Lib.hid (HMc.out.far HK5.out HNc.out (by decide) (by decide) (by decide))
          have HB5 := Lib.hid (HBc.out.far HMc.out HK5.out)
          have HA5 := Lib.hid (at_new hat5)
          have a0 := cell_of_block HB5.out.hba 0
          have y12 := cell_of_block HN5.out 12
          simp at a0 y12
          clear hown hgrow hnil hat5 hbo5 hM5 hk5
          have HC := Lib.hid (HI.out kids (.slice pk kids.length ck) _ _ (ee ++ [r.mkEv]) (kk + 1) (deep + 1) HKids.out HM5.out HB5.out hkb hdb (by rw [List.length_append, ← HNE.out]; simp; omega))
          rw [show ((deep + 1 : Nat) : Int) = (deep : Int) + 1 by omega] at HC
          go_wp2_with (go_at_call 90; refine holdT ?_)
          refine Lib.hid ?_
          refine HC.out.mono ?_
          rintro _ W7 ⟨v7, rfl, hM7, hk7, hat7⟩
          have HM7 := Lib.hid hM7
          have HB7 := Lib.hid (HB5.out.far HM5.out hk7)
          have hszW : W.heap.size ≤ Wc.heap.size := Nat.le_trans HKw.out.size HKc.out.size
          have HKc2 := Lib.hid (kept_chain HKw.out HAt.out (HKc.out.mono fun _ _ x => .inl x))
          have HK52 := Lib.hid (kept_chain HKc2.out HAt.out HK5.out)
          have HA52 := Lib.hid (at_chain hszW HAt.out HA5.out)
          have HK72 := Lib.hid (kept_chain HK52.out HA52.out hk7)
          have HA72 := Lib.hid (at_chain (Nat.le_trans hszW HK5.out.size) HA52.out hat7)
          have HN7 := Lib.hid (HM5.out.far hk7 HN5.out (by decide) (by decide) (by decide))
          obtain ⟨q7, c7, rfl⟩ := hM7.form
          obtain ⟨nF, hnF⟩ : ∃ nF, nF = (ee ++ [r.mkEv] ++ flat kids).length := ⟨_, rfl⟩
          have hnF6 : nF ≤ 60000 := by
            have h9 := flat_len kids
            rw [hnF, List.length_append, List.length_append, ← HNE.out]
            simp
            omega
          rw [← hnF] at HM7 HA72 hM7
          have HNF := Lib.hid hnF
          have b0' := cell_of_block hM7.hbo 0
          have b1' := free_of_block hM7.hbo 0
          have hlo7 := heap_lt hM7.hbo
          have y2 := cell_of_block HN7.out 2
          have y8 := cell_of_block HN7.out 8
          have y9 := cell_of_block HN7.out 9
          have y10 := cell_of_block HN7.out 10
          have y11 := cell_of_block HN7.out 11
          simp at b0' y2 y8 y9 y10 y11
          have HR7 := Lib.hid (show W7.ownsRow w.heap.size 98 8 (.slice q7 nF c7) nF (evCells (ee ++ [r.mkEv] ++ flat kids)) by have h9 := hM7.row; rw [← hnF] at h9; exact h9)
          have HS7 := Lib.hid hM7.kept.size
          have HL := Lib.hid (show ((ee ++ [r.mkEv]) ++ flat kids) ++ [r.wrEv] = evs ++ flat (l.take (i + 1)) by rw [flat_take HU.out, ← HEe.out]; simp)
          have HKt := Lib.hid (show kk + 1 + cnt kids = k + cnt (l.take (i + 1)) by rw [HSp.out, ← HKk.out]; omega)
          clear hM7 hk7 hat7 a0 y12 b0 b1 hnF
          go_wp2_with (at_builtin; refine holdT ?_)
          refine Lib.hid ?_
          refine wpList_append_own_at _ rfl (.tmp 59) (.tmp 65) 22 rfl w.heap.size 98 i98 (.agg #[.int .i64 0, .int .i64 0, .int .i64 0, .slice none 0 0, .int .i64 0, .int .i64 0, .string ⟨#[]⟩, .slice none 0 0]) 8 104 under22 hi98 hz98 hs98 hb98 rfl (by decide) (.slice q7 nF c7) nF (evCells (ee ++ [r.mkEv] ++ flat kids)) rfl (HR7.out.alloc _) ⟨W7.heap.size, 0, none⟩ 1 1 [.int .i64 3, .int .i64 0, .int .i64 r.addr, .slice none 0 0, .int .i64 r.wk, .int .i64 r.wm, .string r.ws, .slice r.wp r.wn r.wc] rfl rfl
            (World.news_of_block (cs := #[.int .i64 3, .int .i64 0, .int .i64 r.addr, .slice none 0 0, .int .i64 r.wk, .int .i64 r.wm, .string r.ws, .slice r.wp r.wn r.wc]) (t := 98) (fr := (0, 0)) (heap_alloc_at W7 (.cells #[.int .i64 3, .int .i64 0, .int .i64 r.addr, .slice none 0 0, .int .i64 r.wk, .int .i64 r.wm, .string r.ws, .slice r.wp r.wn r.wc] 98))) (by simp [Value.oneCell']) (by unfold maxLen; omega) (by omega) (by have := HS7.out; rw [World.size_alloc]; omega) ?_
          intro v9 w9 hown hgrow hnil hat9
          obtain ⟨g9, cap9, rfl⟩ := row_succ hown
          rw [HNF.out] at hown
          obtain ⟨hbo9, hM9, hk9⟩ := HM7.out.push (t := r.wrEv) hgrow hown
          rw [← HNF.out] at hM9 hk9
          have b0 := cell_of_block hbo9 0
          have b1 := free_of_block hbo9 0
          simp at b0
          have HM9 := Lib.hid hM9
          have HK9 := Lib.hid (hk9.mono (T := fun g => g = bn ∨ g = bo ∨ (Value.slice q7 nF c7).ownBlock = some g) fun _ _ x => .inr x)
          have HB9 := Lib.hid (HB7.out.far HM7.out HK9.out)
          have HK92 := Lib.hid (kept_chain HK72.out HA72.out HK9.out)
          have HA92 := Lib.hid (at_chain HK72.out.size HA72.out (at_new hat9))
          clear hown hgrow hnil hat9 hbo9 hM9 hk9 b0' b1' y2 y8 y9 y10 y11
          go_wp2_with fail
          go_roundw
          case rel => exact ⟨i + 1, _, by omega, by go_num, by rw [← HL.out, ← HKt.out]; exact HM9.out, HB9.out, HK92.out, HA92.out⟩
          case measure => simp [intOf] <;> omega
        | false =>
          go_wp2_with (at_builtin; refine holdT ?_)
          refine Lib.hid ?_
          obtain ⟨Wc, hWc⟩ : ∃ Wc, Wc = (wr.setCell ⟨bn, 0, none⟩ (.int .i64 ((kk : Int) + 1))).alloc (.cells #[.bool false, .int .i64 r.site, .int .i64 r.addr, .slice r.pa r.na r.ca, .int .i64 r.sk, .int .i64 r.sm, .string r.ss, .slice r.sp r.sn r.sc, .int .i64 r.wk, .int .i64 r.wm, .string r.ws, .slice r.wp r.wn r.wc, .slice pk kids.length ck] 114) := ⟨_, rfl⟩
          rw [← hWc]
          have hMc : FlatMem w Wc bn bo (.slice qv nE cv) ee (kk + 1) := by rw [hWc]; exact HMi.out.count.1.keeps (Keeps.alloc _ _)
          have hkc : Kept (fun g => g = bn) wr Wc := by rw [hWc]; exact HMi.out.count.2.alloc _
          have hsz : (wr.setCell ⟨bn, 0, none⟩ (.int .i64 ((kk : Int) + 1))).heap.size = wr.heap.size := by simp [World.setCell]
          have hNc : Wc.heap[wr.heap.size]? = some (.cells #[.bool false, .int .i64 r.site, .int .i64 r.addr, .slice r.pa r.na r.ca, .int .i64 r.sk, .int .i64 r.sm, .string r.ss, .slice r.sp r.sn r.sc, .int .i64 r.wk, .int .i64 r.wm, .string r.ws, .slice r.wp r.wn r.wc, .slice pk kids.length ck] 114 (0, 0)) := by
            rw [hWc]
            have h9 := heap_alloc_at (wr.setCell ⟨bn, 0, none⟩ (.int .i64 ((kk : Int) + 1))) (.cells #[.bool false, .int .i64 r.site, .int .i64 r.addr, .slice r.pa r.na r.ca, .int .i64 r.sk, .int .i64 r.sm, .string r.ss, .slice r.sp r.sn r.sc, .int .i64 r.wk, .int .i64 r.wm, .string r.ws, .slice r.wp r.wn r.wc, .slice pk kids.length ck] 114)
            rw [hsz] at h9
            exact h9
          have hWl : Wc.heap.size = wr.heap.size + 1 := by rw [hWc, World.size_alloc, hsz]
          have HMc := Lib.hid hMc
          have HKc := Lib.hid hkc
          have HNc := Lib.hid hNc
          have HWl := Lib.hid hWl
          have HRc := Lib.hid (show Wc.ownsRow w.heap.size 98 8 (.slice qv nE cv) nE (evCells ee) by have h9 := hMc.row; rw [← HNE.out] at h9; exact h9)
          have HSc := Lib.hid hMc.kept.size
          have HBc := Lib.hid (HBi.out.far HMi.out (hkc.mono fun _ _ x => .inl x))
          clear hWc hMc hkc hsz hNc hWl x0 x1 x2 x3 x4 x5 x6 x7 x8 x9 x10 x11 x12 t0 t1 b0 b1
          refine wpList_append_own_at _ rfl (.tmp 27) (.tmp 35) 22 rfl w.heap.size 98 i98 (.agg #[.int .i64 0, .int .i64 0, .int .i64 0, .slice none 0 0, .int .i64 0, .int .i64 0, .string ⟨#[]⟩, .slice none 0 0]) 8 104 under22 hi98 hz98 hs98 hb98 rfl (by decide) (.slice qv nE cv) nE (evCells ee) rfl (HRc.out.alloc _) ⟨wr.heap.size + 1, 0, none⟩ 1 1 [.int .i64 2, .int .i64 r.site, .int .i64 r.addr, .slice none 0 0, .int .i64 r.sk, .int .i64 r.sm, .string r.ss, .slice r.sp r.sn r.sc] rfl rfl
            (World.news_of_block (cs := #[.int .i64 2, .int .i64 r.site, .int .i64 r.addr, .slice none 0 0, .int .i64 r.sk, .int .i64 r.sm, .string r.ss, .slice r.sp r.sn r.sc]) (t := 98) (fr := (0, 0)) (by have h9 := heap_alloc_at Wc (.cells #[.int .i64 2, .int .i64 r.site, .int .i64 r.addr, .slice none 0 0, .int .i64 r.sk, .int .i64 r.sm, .string r.ss, .slice r.sp r.sn r.sc] 98); rw [HWl.out] at h9; exact h9)) (by simp [Value.oneCell']) (by unfold maxLen; omega) (by omega) (by have := HSc.out; rw [World.size_alloc]; omega) ?_
          intro v5 w5 hown hgrow hnil hat5
          obtain ⟨g5, cap5, rfl⟩ := row_succ hown
          rw [HNE.out] at hown
          obtain ⟨hbo5, hM5, hk5⟩ := HMc.out.push (t := r.rdEv) hgrow hown
          rw [← HNE.out] at hM5 hk5
          have b0 := cell_of_block hbo5 0
          have b1 := free_of_block hbo5 0
          simp at b0
          have HM5 := Lib.hid hM5
          have HK5 := Lib.hid (hk5.mono (T := fun g => g = bn ∨ g = bo ∨ (Value.slice qv nE cv).ownBlock = some g) fun _ _ x => .inr x)
          have HN5 := Lib.hid (HMc.out.far HK5.out HNc.out (by decide) (by decide) (by decide))
          have HB5 := Lib.hid (HBc.out.far HMc.out HK5.out)
          have HA5 := Lib.hid (at_new hat5)
          have a0 := cell_of_block HB5.out.hba 0
          have y12 := cell_of_block HN5.out 12
          simp at a0 y12
          clear hown hgrow hnil hat5 hbo5 hM5 hk5
          have HC := Lib.hid (HI.out kids (.slice pk kids.length ck) _ _ (ee ++ [r.rdEv]) (kk + 1) (deep + 1) HKids.out HM5.out HB5.out hkb hdb (by rw [List.length_append, ← HNE.out]; simp; omega))
          rw [show ((deep + 1 : Nat) : Int) = (deep : Int) + 1 by omega] at HC
          go_wp2_with (go_at_call 90; refine holdT ?_)
          refine Lib.hid ?_
          refine HC.out.mono ?_
          rintro _ W7 ⟨v7, rfl, hM7, hk7, hat7⟩
          have HM7 := Lib.hid hM7
          have HB7 := Lib.hid (HB5.out.far HM5.out hk7)
          have hszW : W.heap.size ≤ Wc.heap.size := Nat.le_trans HKw.out.size HKc.out.size
          have HKc2 := Lib.hid (kept_chain HKw.out HAt.out (HKc.out.mono fun _ _ x => .inl x))
          have HK52 := Lib.hid (kept_chain HKc2.out HAt.out HK5.out)
          have HA52 := Lib.hid (at_chain hszW HAt.out HA5.out)
          have HK72 := Lib.hid (kept_chain HK52.out HA52.out hk7)
          have HA72 := Lib.hid (at_chain (Nat.le_trans hszW HK5.out.size) HA52.out hat7)
          have HL := Lib.hid (show (ee ++ [r.rdEv]) ++ flat kids = evs ++ flat (l.take (i + 1)) by rw [flat_take HU.out, ← HEe.out]; simp)
          have HKt := Lib.hid (show kk + 1 + cnt kids = k + cnt (l.take (i + 1)) by rw [HSp.out, ← HKk.out]; omega)
          clear hM7 hk7 hat7 a0 y12 b0 b1
          go_wp2_with fail
          go_roundw
          case rel => exact ⟨i + 1, v7, by omega, by go_num, by rw [← HL.out, ← HKt.out]; exact HM7.out, HB7.out, HK72.out, HA72.out⟩
          case measure => simp [intOf] <;> omega
      · obtain rfl : i = n := by omega
        have hM' := hM
        rw [HN.out, List.take_length] at hM'
        have HMe := Lib.hid hM'
        have HAt := Lib.hid hat
        have k6 : ¬ (i : Int) < i := by omega
        clear hM hM' hB hkw hat
        go_wp2_with fail
        refine bodyPost_ret (results_none rfl _ _ _) rfl ?_
        exact ⟨vi, rfl, HMe.out, HKw.out, HAt.out⟩
end Go.Proofs.YtbhiaeciiphelaaGreatDoor
namespace Go.Proofs.YtbhiaeciiphelaaGreatDoor
open Go.RowKit
theorem run_store_func {P : Program} {w : World} {a : Addr} {m : Mode} (f : Fn) (x y : Array Value) : (store a (.func f x y) m).run P w = stored P w a (.func f x y) m := run_store P w a _ m rfl
attribute [local go_sem] run_store_func
def FlattenPost (w : World) (l : List NP) (x : Ending) (w' : World) : Prop := ∃ vo, x = .returned (.tuple #[vo, .bool true]) ∧ w'.ownsRow w.heap.size 98 8 vo (flat l).length (evCells (flat l)) ∧ Keeps w w'
set_option maxHeartbeats 8000000 in
set_option maxRecDepth 100000 in
theorem flatten_of (e d : Nat) (w : World) (A : Nat → Prop) (l : List NP) (v : Value) (h : NPAt w A e d l v) (hc : cnt l ≤ 600) : Calls Tryz.prog 61 #[v] w (FlattenPost w l) := by
  have H := Lib.hid h
  obtain ⟨p, c, rfl⟩ := h.form
  obtain ⟨n, hn⟩ : ∃ n, n = l.length := ⟨_, rfl⟩
  rw [← hn] at H ⊢
  obtain ⟨W0, hW0⟩ : ∃ W0, W0 = ((((w.alloc (.cells #[.slice none 0 0] 22)).alloc (.cells #[.int .i64 0] 3)).alloc (.cells #[.bool true] 4)).alloc (.cells #[.func (.func 90) #[] #[.pointer (some ⟨w.heap.size + 1, 0, none⟩), .pointer (some ⟨w.heap.size + 1 + 1, 0, none⟩), .pointer (some ⟨w.heap.size, 0, none⟩), .pointer (some ⟨w.heap.size + 1 + 1 + 1, 0, none⟩)]] 170)) := ⟨_, rfl⟩
  have h1 : (w.alloc (.cells #[.slice none 0 0] 22)).heap.size = w.heap.size + 1 := World.size_alloc _ _
  have h2 : ((w.alloc (.cells #[.slice none 0 0] 22)).alloc (.cells #[.int .i64 0] 3)).heap.size = w.heap.size + 1 + 1 := by rw [World.size_alloc, h1]
  have h3 : (((w.alloc (.cells #[.slice none 0 0] 22)).alloc (.cells #[.int .i64 0] 3)).alloc (.cells #[.bool true] 4)).heap.size = w.heap.size + 1 + 1 + 1 := by rw [World.size_alloc, h2]
  have hk0 : Keeps w W0 := by rw [hW0]; exact (((Kept.refl _ w).alloc _).alloc _).alloc _ |>.alloc _
  have hbo : W0.heap[w.heap.size]? = some (.cells #[.slice none 0 0] 22 (0, 0)) := by
    rw [hW0]; exact heap_alloc_old _ (heap_alloc_old _ (heap_alloc_old _ (heap_alloc_at _ _)))
  have hbn : W0.heap[w.heap.size + 1]? = some (.cells #[.int .i64 ((0 : Nat) : Int)] 3 (0, 0)) := by
    have h9 := heap_alloc_at (w.alloc (.cells #[.slice none 0 0] 22)) (.cells #[.int .i64 0] 3)
    rw [h1] at h9
    rw [hW0]; exact heap_alloc_old _ (heap_alloc_old _ h9)
  have hbf : W0.heap[w.heap.size + 1 + 1]? = some (.cells #[.bool true] 4 (0, 0)) := by
    have h9 := heap_alloc_at ((w.alloc (.cells #[.slice none 0 0] 22)).alloc (.cells #[.int .i64 0] 3)) (.cells #[.bool true] 4)
    rw [h2] at h9
    rw [hW0]; exact heap_alloc_old _ h9
  have hba : W0.heap[w.heap.size + 1 + 1 + 1]? = some (.cells #[.func (.func 90) #[] #[.pointer (some ⟨w.heap.size + 1, 0, none⟩), .pointer (some ⟨w.heap.size + 1 + 1, 0, none⟩), .pointer (some ⟨w.heap.size, 0, none⟩), .pointer (some ⟨w.heap.size + 1 + 1 + 1, 0, none⟩)]] 170 (0, 0)) := by
    have h9 := heap_alloc_at (((w.alloc (.cells #[.slice none 0 0] 22)).alloc (.cells #[.int .i64 0] 3)).alloc (.cells #[.bool true] 4)) (.cells #[.func (.func 90) #[] #[.pointer (some ⟨w.heap.size + 1, 0, none⟩), .pointer (some ⟨w.heap.size + 1 + 1, 0, none⟩), .pointer (some ⟨w.heap.size, 0, none⟩), .pointer (some ⟨w.heap.size + 1 + 1 + 1, 0, none⟩)]] 170)
    rw [h3] at h9
    rw [hW0]; exact h9
  have hM : FlatMem w W0 (w.heap.size + 1) w.heap.size (.slice none 0 0) [] 0 := ⟨hk0, Nat.le_succ _, Nat.le_refl _, hbn, hbo, World.ownsRow_nil _ _ _ _⟩
  have HC := Lib.hid (flat1_of e w A (w.heap.size + 1) (w.heap.size + 1 + 1) w.heap.size (w.heap.size + 1 + 1 + 1) d l (.slice p n c) W0 (.slice none 0 0) [] 0 1 H.out hM ⟨hbf, hba⟩ (by omega) (by omega) (Nat.zero_le _))
  have HM0 := Lib.hid hM
  have HBf := Lib.hid hbf
  have HW0 := Lib.hid hW0
  clear hW0 h1 h2 h3 hk0 hbo hbn hbf hba hM
  clear h hn
  go_enter Tryz.func61, Tryz.ntmps61
  go_wp2_with (go_at_call 90; refine holdT ?_)
  refine Lib.hid ?_
  rw [← HW0.out]
  refine HC.out.mono ?_
  rintro _ W7 ⟨v7, rfl, hM7, hk7, _⟩
  have b0 := cell_of_block hM7.hbo 0
  have b1 := cell_of_block (HM0.out.far hk7 HBf.out (by decide) (by decide) (by decide)) 0
  simp at b0 b1
  have HK7 := Lib.hid hM7.kept
  have HR7 := Lib.hid hM7.row
  clear hM7 hk7
  go_wp2_with fail
  go_quiet (fail)
  go_wp2_with fail
  go_ret2
  exact ⟨v7, rfl, by simpa using row_same (w' := World.drewN _ _) HR7.out fun g hg => rfl, Kept.drewN HK7.out _⟩
end Go.Proofs.YtbhiaeciiphelaaGreatDoor
