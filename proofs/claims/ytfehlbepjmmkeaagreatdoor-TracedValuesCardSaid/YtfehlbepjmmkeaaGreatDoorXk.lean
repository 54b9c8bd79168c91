/-
  DERIVED. An abstract machine, and that its runs are runs of the model: part 11 of 11. No condition.
-/
import Derived.Test.YtfehlbepjmmkeaaGreatDoorXj
namespace Go.Proofs.YtfehlbepjmmkeaaGreatDoor
open Go.RowKit
namespace Ex
noncomputable section
variable {P : Program} {C : T PF} {φ : Nat → Loc} {dm : Nat → Prop} {bs : List Frame} {s s' s1 s2 r : AS} {fr : Frame} {frs cs : List Frame} {w w' : World}
def ReachL (lo : Nat) (P : Program) (s s' : AS) : Prop := ∀ (φ : Nat → Loc) (dm : Nat → Prop) (bs : List Frame) (fr : Frame) (frs : List Frame) (w : World), SRelX P φ dm bs s fr frs w → SimL lo P φ dm bs s s' fr frs w
theorem ReachL.trans {lo : Nat} (h : ReachL lo P s s1) (h' : ReachL lo P s1 s2) : ReachL lo P s s2 := fun φ dm bs fr frs w R => (h φ dm bs fr frs w R).bind fun R' => h' _ _ _ _ _ _ R'
theorem fork_wayS {s0 r : AS} {fr0 : Frame} {φ0 : Nat → Loc} {dm0 : Nat → Prop} {w0 : World} (R : SRelX P φ dm bs s fr frs w)
    (hst : Steps P (lone fr (frs ++ bs) w) (lone fr0 (frs ++ bs) w0)) (R0 : SRelX P φ0 dm0 (frs ++ bs) s0 fr0 [] w0) (g0 : GrowS s.fr.lo φ dm s.H w φ0 dm0 s0.H w0) (hway : ReachL s.fr.lo P s0 r) (hrcs : r.cs = [])
    (hrlo : r.fr.lo = s.fr.lo) : Sim P φ dm bs s { r with cs := s.cs } fr frs w := by
  obtain ⟨φ1, dm1, fr1, frs1, w1, a1, a2, a3⟩ := hway _ _ _ _ _ _ R0
  have hfr1 : frs1 = [] := by
    have := a2.cs
    rw [hrcs] at this
    exact this.nil_inv
  subst hfr1
  have G : GrowS s.fr.lo φ dm s.H w φ1 dm1 r.H w1 := g0.trans a3 (Nat.le_refl _)
  refine ⟨φ1, dm1, fr1, frs, w1, hst.trans a1, ⟨a2.fr, a2.hlo, ?_, a2.heap⟩, G⟩
  show Stk P φ1 dm1 r.fr.lo s.cs frs
  rw [hrlo]
  exact R.cs.mono G.dms G.ph G.fresh
theorem fork_reach (E : Ext P) {ws : List AS} {k : List AI} (hfork : forkOf s = some (ws, k)) (h : ∀ x ∈ ws, ReachL s.fr.lo P x r) (hrcs : r.cs = []) (hrlo : r.fr.lo = s.fr.lo)
    (R : SRelX P φ dm bs s fr frs w) : Sim P φ dm bs s { r with cs := s.cs } fr frs w := by
  unfold forkOf at hfork
  split at hfork
  · rename_i hd hm
    have R' := R.plain hd
    have hmode : fr.mode = .run := by have := R'.fr.mode; rw [hm] at this; exact this
    have htodo := R'.fr.todo hm
    split at hfork
    · rename_i ls kk hk
      injection hfork with hfork
      injection hfork with hws hkk
      rw [hk] at htodo
      cases ht : fr.todo with
      | nil => rw [ht] at htodo; cases htodo
      | cons y ys =>
        rw [ht] at htodo
        cases htodo with
        | cons hy hys =>
          cases y with
          | code c' =>
            have hcc : prepC P c' = .fork ls := hy
            have hreg : ∃ id ops, c' = .region id ops true ∧ prepDrawn P ops = .fork ls := by
              cases c' with
              | region id ops dr =>
                cases dr with
                | true => exact ⟨id, ops, rfl, by simpa only [prepC] using hcc⟩
                | false => simp [prepC] at hcc
              | cond o x z => simp only [prepC] at hcc; split at hcc <;> cases hcc
              | rangeFunc o x z u => simp only [prepC] at hcc; split at hcc <;> cases hcc
              | _ => simp [prepC] at hcc
            obtain ⟨id, ops, rfl, hpd⟩ := hreg
            rcases prepDrawn_cases (P := P) ops with ⟨F, hF⟩ | hF | hF
            · rw [hF] at hpd; cases hpd
            · rw [hF] at hpd; cases hpd
            rw [hF] at hpd
            injection hpd with hls
            obtain ⟨t, hst⟩ := st_drawn (P := P) (cs := frs ++ bs) (w := w) hmode ht E.mix
            obtain ⟨r1, g1⟩ := R'.heap.same (w' := w.drew) rfl rfl rfl rfl
            have hmem := go_allLin ops ops.size t (Array.replicate ops.size false)
            have hlt := go_lt ops ops.size t (Array.replicate ops.size false)
            obtain ⟨idx, hidx⟩ : ∃ idx, idx = Region.linearise .any ops t := ⟨_, rfl⟩
            have hmem' : idx ∈ allLin ops ops.size (Array.replicate ops.size false) := by rw [hidx]; exact hmem
            have hlt' : ∀ i ∈ idx, i < ops.size := by rw [hidx]; exact hlt
            rw [← hidx] at hst
            obtain ⟨s0, hs0⟩ : ∃ s0 : AS, s0 = { s with fr := { s.fr with todo := .inReg (idx.filterMap fun i => (ops[i]?).map (prepO P ops 0)) :: kk }, cs := [] } := ⟨_, rfl⟩
            have hsm : s0 ∈ ws := by
              rw [← hws, ← hls, hs0]
              exact List.mem_map.2 ⟨_, List.mem_map.2 ⟨idx, hmem', rfl⟩, rfl⟩
            have hway := h s0 hsm
            have R0 : SRelX P φ dm (frs ++ bs) s0 { fr with todo := .inRegion ops idx :: ys } [] w.drew := by
              rw [hs0]
              exact SRel.x ⟨⟨R'.fr.fn, R'.fr.fun_, R'.fr.size, R'.fr.reg, fun _ => .cons (all2_idx ops idx hlt') hys, R'.fr.ds, R'.fr.mode, R'.fr.kind, R'.fr.round, R'.fr.nd⟩, R'.hlo, .nil, r1⟩
            exact fork_wayS R (.one hst) R0 (by rw [hs0]; exact g1.s R.hlo) hway hrcs hrlo
          | _ => exact (by first | exact hy.elim | cases hy)
    · rename_i o l kk hk
      split at hfork
      · rename_i x hir
        split at hfork
        · rename_i b hx hg
          split at hfork
          · contradiction
          · rename_i hways
            injection hfork with hfork
            injection hfork with hws hkk
            obtain ⟨op, A⟩ := atOp R' hm hk (by rw [hg]; rfl)
            obtain ⟨it, hop, hit⟩ := nextM_inv (A.ir.symm.trans hir)
            obtain ⟨ops, i, rest, k0, ht, ho, hw⟩ := A.at_
            obtain ⟨e1, e2⟩ := od_spec R'.rr hit hx
            have hlen : (nextWays s b (waysA s.H b)).length = waysA s.H b := by
              rcases Decidable.em ((nextWays s b (waysA s.H b)).length = waysA s.H b) with h | h
              · exact h
              · exact absurd (.inr h) hways
            obtain ⟨j, v, H1, q1, q2, q3⟩ := next_sound (t := op.type) R'.heap e2 (fun i hi => by
              obtain ⟨v, H, f1, p1, _⟩ := nextWays_mem _ hlen i hi
              rw [p1]; rfl)
            obtain ⟨v', H', f1, p1, p2, p3⟩ := nextWays_mem _ hlen j q1
            rw [q2] at p1
            injection p1 with p1
            injection p1 with p4 p5
            subst p4 p5
            rw [hws] at p3
            have hway := h _ p3
            obtain ⟨φ1, dm1, w1, nx, n1, n2, n3, n4, n5⟩ := q3
            have hnd : ∀ c, op.op ≠ .defer c := by rw [hop]; simp
            have hex : (execOp fr.eval op).run P w = .ok nx w1 := by
              rw [← n1, ← eval_frame (s := s) R'.fr, ← e1]
              obtain ⟨dst, opp, type, pos, after, guard⟩ := op
              simp only at hop
              subst hop
              rfl
            have hfx := finishX p2 ((R'.fr.mono n5.dms n5.ph).x (hi := s.H.next)) n3
            have hst : step P (lone fr (frs ++ bs) w) = .next (lone (fr.finish (conc φ1 v)) (frs ++ bs) w1) := by
              rcases n2 with rfl | ⟨rfl, rfl⟩
              · exact st_value A.mode ht ho hw (.inr hnd) hex
              · exact st_skipped A.mode ht ho hw (.inr hnd) hex
            have R0 : SRelX P φ1 dm1 (frs ++ bs) ⟨f1, [], H1⟩ (fr.finish (conc φ1 v)) [] w1 := ⟨hfx.1.hi_le n5.next, by show f1.lo ≤ H1.next; rw [hfx.2]; exact Nat.le_trans R.hlo n5.next, .nil, n4⟩
            exact fork_wayS R (.one hst) R0 (n5.s R.hlo) hway hrcs hrlo
        · contradiction
      · contradiction
    · contradiction
  · contradiction
def bigsL (C : T PF) (d lo : Nat) : Nat → AS → Option AS
  | 0, s => some s
  | n + 1, s => match big C d s with
    | some s' => match Nat.ble lo s'.fr.lo with
      | true => bigsL C d lo n s'
      | false => none
    | none => none
theorem bigsL_sound (E : Ext P) (hC : Table P C) (d : Nat) {lo : Nat} : ∀ (n : Nat) {s s' : AS}, lo ≤ s.fr.lo → bigsL C d lo n s = some s' → ReachL lo P s s' ∧ lo ≤ s'.fr.lo
  | 0, s, s', hl, h => by
    injection h with h
    subst h
    exact ⟨fun φ dm bs fr frs w R => ⟨φ, dm, fr, frs, w, Steps.refl P _, R, .refl _ _ _ _ _⟩, hl⟩
  | n + 1, s, s', hl, h => by
    simp only [bigsL] at h
    split at h
    · rename_i s1 h1
      split at h
      · rename_i hle
        obtain ⟨q1, q2⟩ := bigsL_sound E hC d n (Nat.le_of_ble_eq_true hle) h
        exact ⟨fun φ dm bs fr frs w R => ((big_sound E hC d _ _ _ _ _ _ _ _ R h1).low hl).bind fun R1 => q1 _ _ _ _ _ _ R1, q2⟩
      · contradiction
    · contradiction
def bigsLG (C : T PF) (d lo n : Nat) (k : AS → Bool) : AS → Bool :=
  Nat.rec (motive := fun _ => AS → Bool) k (fun _ ih s => match hot s with
    | some s' => match Nat.ble lo s'.fr.lo with
      | true => ih s'
      | false => false
    | none => match bigF C d s with
      | some s' => match Nat.ble lo s'.fr.lo with
        | true => packS s' ih
        | false => false
      | none => false) n
theorem bigsLG_spec (C : T PF) (d lo : Nat) (k : AS → Bool) : ∀ (n : Nat) (s : AS), bigsLG C d lo n k s = true → ∃ a, bigsL C d lo n s = some a ∧ k a = true
  | 0, s, h => ⟨s, rfl, h⟩
  | n + 1, s, h => by
    have h' : (match hot s with
    | some s' => match Nat.ble lo s'.fr.lo with
      | true => bigsLG C d lo n k s'
      | false => false
    | none => match bigF C d s with
      | some s' => match Nat.ble lo s'.fr.lo with
        | true => packS s' (bigsLG C d lo n k)
        | false => false
      | none => false) = true := h
    simp only [bigF_eq, packS_eq] at h'
    simp only [bigsL]
    cases hh : hot s with
    | some s' =>
      rw [hh] at h'
      rw [hot_big C d hh]
      simp only at h' ⊢
      cases hb : Nat.ble lo s'.fr.lo with
      | true => rw [hb] at h'; exact bigsLG_spec C d lo k n s' h'
      | false => rw [hb] at h'; cases h'
    | none =>
      rw [hh] at h'
      simp only at h'
      cases hg : big C d s with
      | none => rw [hg] at h'; cases h'
      | some s' =>
        rw [hg] at h'
        simp only at h' ⊢
        cases hb : Nat.ble lo s'.fr.lo with
        | true => rw [hb] at h'; exact bigsLG_spec C d lo k n s' h'
        | false => rw [hb] at h'; cases h'
def chkL (C : T PF) (d lo n : Nat) (s r : AS) : Bool := Nat.ble lo s.fr.lo && bigsLG C d lo n (fun a => leS a r) s
theorem chkL_reach (E : Ext P) (hC : Table P C) {d lo n : Nat} (h : chkL C d lo n s r = true) : ReachL lo P s r := by
  unfold chkL at h
  rw [Bool.and_eq_true] at h
  obtain ⟨a, h1, h2⟩ := bigsLG_spec C d lo _ n s h.2
  obtain ⟨q1, q2⟩ := bigsL_sound E hC d n (Nat.le_of_ble_eq_true h.1) h1
  intro φ dm bs fr frs w R
  refine (q1 _ _ _ _ _ _ R).bind fun R1 => ?_
  obtain ⟨r1, r2⟩ := R1.weak (leS_spec h2)
  exact ⟨_, _, _, _, _, Steps.refl P _, r1, r2.low q2⟩
def waysOf (s : AS) : List AS := match forkOf s with
  | some (ws, _) => ws
  | none => []
def way (s : AS) (i : Nat) : AS := (waysOf s).getD i s
def runL (C : T PF) (d lo n : Nat) (s : AS) : AS := (bigsL C d lo n s).getD s
def forkN (s : AS) (lo n : Nat) : Bool := match forkOf s with
  | some (ws, _) => Nat.beq ws.length n && Nat.beq s.fr.lo lo
  | none => false
theorem fork_all (E : Ext P) {n lo : Nat} (hn : forkN s lo n = true) (h : ∀ i, i < n → ReachL lo P (way s i) r) (hrcs : r.cs = []) (hrlo : r.fr.lo = lo)
    (R : SRelX P φ dm bs s fr frs w) : Sim P φ dm bs s { r with cs := s.cs } fr frs w := by
  unfold forkN at hn
  split at hn
  · rename_i ws k hf
    rw [Bool.and_eq_true] at hn
    have h1 := Nat.eq_of_beq_eq_true hn.1
    have h2 := Nat.eq_of_beq_eq_true hn.2
    refine fork_reach E hf (fun x hx => ?_) hrcs (hrlo.trans h2.symm) R
    obtain ⟨i, hi, hx⟩ := List.getElem_of_mem hx
    have := h i (by omega)
    unfold way waysOf at this
    rw [hf] at this
    simp only [List.getD_eq_getElem?_getD, List.getElem?_eq_getElem hi, Option.getD_some, hx] at this
    rw [h2]
    exact this
  · cases hn
theorem forkN_lo {n lo : Nat} (hn : forkN s lo n = true) : s.fr.lo = lo := by
  unfold forkN at hn
  split at hn
  · rw [Bool.and_eq_true] at hn
    exact Nat.eq_of_beq_eq_true hn.2
  · cases hn
def toFork (C : T PF) (d lo n m : Nat) (s : AS) : Bool := Nat.ble lo s.fr.lo && (match bigsL C d lo n s with
  | some a => forkN a lo m && (match a.cs with | [] => true | _ => false)
  | none => false)
theorem toFork_reach (E : Ext P) (hC : Table P C) {d lo n m : Nat} (ht : toFork C d lo n m s = true) (h : ∀ i, i < m → ReachL lo P (way (runL C d lo n s) i) r) (hrcs : r.cs = []) (hrlo : r.fr.lo = lo) : ReachL lo P s r := by
  unfold toFork at ht
  rw [Bool.and_eq_true] at ht
  obtain ⟨t1, t2⟩ := ht
  split at t2
  · rename_i a ha
    rw [Bool.and_eq_true] at t2
    have hrun : runL C d lo n s = a := by unfold runL; rw [ha]; rfl
    rw [hrun] at h
    obtain ⟨q1, q2⟩ := bigsL_sound E hC d n (Nat.le_of_ble_eq_true t1) ha
    have hcs : a.cs = [] := by
      have := t2.2
      split at this
      · assumption
      · cases this
    intro φ dm bs fr frs w R
    refine (q1 _ _ _ _ _ _ R).bind fun R1 => ?_
    have := (fork_all E t2.1 h hrcs hrlo R1).low (lo := lo) (by rw [forkN_lo t2.1]; exact Nat.le_refl _)
    rw [hcs] at this
    have hr : ({ r with cs := [] } : AS) = r := by
      obtain ⟨a, b, c⟩ := r
      simp only at hrcs
      subst hrcs
      rfl
    rw [hr] at this
    exact this
  · cases t2
def toForkT (C : T PF) (d lo n m : Nat) (s : AS) : Bool := match bigsL C d 0 n s with
  | some a => forkN a lo m
  | none => false
theorem toForkT_reach (E : Ext P) (hC : Table P C) {d lo n m : Nat} (ht : toForkT C d lo n m s = true) (h : ∀ i, i < m → ReachL lo P (way (runL C d 0 n s) i) r) (hrcs : r.cs = []) (hrlo : r.fr.lo = lo) : Reach P s { r with cs := (runL C d 0 n s).cs } := by
  unfold toForkT at ht
  split at ht
  · rename_i a ha
    have hrun : runL C d 0 n s = a := by unfold runL; rw [ha]; rfl
    rw [hrun] at h ⊢
    obtain ⟨q1, q2⟩ := bigsL_sound E hC d n (Nat.zero_le _) ha
    intro φ dm bs fr frs w R
    exact (q1 _ _ _ _ _ _ R).bind fun R1 => (fork_all E ht h hrcs hrlo R1).low (Nat.zero_le _)
  · cases ht
end
end Ex
end Go.Proofs.YtfehlbepjmmkeaaGreatDoor
