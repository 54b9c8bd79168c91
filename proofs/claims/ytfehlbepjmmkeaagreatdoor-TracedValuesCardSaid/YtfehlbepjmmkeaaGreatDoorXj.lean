/-
  DERIVED. An abstract machine, and that its runs are runs of the model: part 10 of 11. No condition.
-/
import Derived.Test.YtfehlbepjmmkeaaGreatDoorXi
namespace Go.Proofs.YtfehlbepjmmkeaaGreatDoor
open Go.RowKit
namespace Ex
noncomputable section
def regOkF (nt : Nat) (d : Option Nat) : Bool := Option.casesOn (motive := fun _ => Bool) d true fun d => Bool.casesOn (motive := fun _ => Bool) (Nat.ble (Nat.succ d) LIM) false (Nat.ble (Nat.succ d) nt)
theorem regOkF_eq (nt : Nat) (d : Option Nat) : regOkF nt d = regOk nt d := by
  cases d with
  | none => rfl
  | some d =>
    show Bool.casesOn (motive := fun _ => Bool) (Nat.ble (Nat.succ d) LIM) false (Nat.ble (Nat.succ d) nt) = decide (d < LIM ∧ d < nt)
    rw [Bool.eq_iff_iff, decide_eq_true_iff]
    cases h1 : Nat.ble (Nat.succ d) LIM with
    | false =>
      simp only [Bool.false_eq_true, false_iff, not_and]
      intro h2
      have := Nat.ble_eq_true_of_le h2
      rw [h1] at this; cases this
    | true =>
      have h3 := Nat.le_of_ble_eq_true h1
      simp only
      constructor
      · intro h4; exact ⟨h3, Nat.le_of_ble_eq_true h4⟩
      · intro h4; exact Nat.ble_eq_true_of_le h4.2
def memN (l : List Nat) (t : Nat) : Bool := List.rec (motive := fun _ => Bool) false (fun x _ ih => Bool.casesOn (motive := fun _ => Bool) (Nat.beq t x) ih true) l
theorem memN_eq (t : Nat) : ∀ l : List Nat, memN l t = l.contains t
  | [] => rfl
  | x :: l => by
    show Bool.casesOn (motive := fun _ => Bool) (Nat.beq t x) (memN l t) true = _
    rw [memN_eq t l, List.contains_cons]
    have e : (t == x) = Nat.beq t x := by
      rw [Bool.eq_iff_iff, beq_iff_eq]
      exact ⟨fun h => by rw [h]; exact Nat.beq_refl _, Nat.eq_of_beq_eq_true⟩
    rw [e]
    cases Nat.beq t x <;> rfl
def onlyF (l : List Nat) (ρ : T AV) : Nat → Option AV := fun t => Bool.casesOn (motive := fun _ => Option AV) (memN l t) none (ρ.get t)
theorem onlyF_eq (l : List Nat) (ρ : T AV) : onlyF l ρ = only l ρ := by
  funext t
  unfold onlyF only
  rw [memN_eq]
  cases l.contains t <;> rfl
def quietG (nt : Nat) (d : DS) (H : AH) (e : DO) (rest : List DO) : Option (DS × AH) := match regOkF nt e.o.dst with
  | true => quietW nt d H e rest (onlyF e.rs d.ρ)
  | false => none
theorem quietG_eq (nt : Nat) (d : DS) (H : AH) (e : DO) (rest : List DO) : quietG nt d H e rest = quietA nt d H e rest := by
  rw [← quietF_eq]
  unfold quietG quietF
  rw [regOkF_eq, onlyF_eq]
  rfl
abbrev MK := T AV → List AI → Option DS → AH → Option AS
def hotV (mk : MK) (nt : Nat) (ρ : T AV) (dst : Option Nat) (l : List PO) (k : List AI) (r : Option (AV × AH)) : Option AS := match r with
  | some (v, H) => match regOkF nt dst with
    | true => mk (reg ρ dst v) (.inReg l :: k) none H
    | false => none
  | none => none
def hotG (mk : MK) (nt : Nat) (ρ : T AV) (H : AH) (dst : Option Nat) (ir : IR) (l : List PO) (k : List AI) (g : Option (Option Nat × Bool)) : Option AS := match wanted ρ.get g with
  | some true => hotV mk nt ρ dst l k (onceF ρ.get H ir)
  | some false => match regOkF nt dst with
    | true => mk (reg ρ dst (.tup [])) (.inReg l :: k) none H
    | false => none
  | none => none
def hotO (mk : MK) (nt : Nat) (ρ : T AV) (H : AH) (o : PO) (l : List PO) (k : List AI) : Option AS :=
  PO.casesOn (motive := fun _ => Option AS) o fun dst guard ir _ => match guard with
    | none => hotV mk nt ρ dst l k (onceF ρ.get H ir)
    | some g => hotG mk nt ρ H dst ir l k (some g)
def hotR (mk : MK) (nt : Nat) (ρ : T AV) (H : AH) (k : List AI) (l : List PO) : Option AS := match l with
  | [] => mk ρ k none H
  | o :: l => hotO mk nt ρ H o l k
def hotCond (mk : MK) (ρ : T AV) (H : AH) (k : List AI) (c : Od) (a b : PC) : Option AS := match c.ev ρ.get with
  | some (.bool true) => mk ρ (.code a :: k) none H
  | some (.bool false) => mk ρ (.code b :: k) none H
  | _ => none
def hotExit (mk : MK) (ρ : T AV) (H : AH) (k : List AI) (id : Nat) : Option AS := match exitA id k with
  | some k => mk ρ k none H
  | none => none
def hotC (mk : MK) (ρ : T AV) (H : AH) (k : List AI) (c : PC) : Option AS :=
  PC.casesOn (motive := fun _ => Option AS) c (mk ρ k none H) none none (fun a b => mk ρ (.code a :: .code b :: k) none H) (fun c a b => hotCond mk ρ H k c a b)
    (fun id b => mk ρ (.code b :: .inBlock id :: k) none H) (fun b => mk ρ (.code b :: .inLoop b :: k) none H) (fun id => hotExit mk ρ H k id) (fun l => mk ρ (.inReg l :: k) none H)
    (fun l => mk .E k (some ⟨ρ, [], l, none⟩) H) (fun _ => none) (fun _ _ _ _ => none)
def hotI (mk : MK) (nt : Nat) (ρ : T AV) (H : AH) (k : List AI) (it : AI) : Option AS :=
  AI.casesOn (motive := fun _ => Option AS) it (fun c => hotC mk ρ H k c) (fun _ => mk ρ k none H) (fun b => mk ρ (.code b :: .inLoop b :: k) none H) (fun l => hotR mk nt ρ H k l) (fun _ => none) (fun _ => none) none
def hotN (mk : MK) (nt : Nat) (ρ : T AV) (todo : List AI) (H : AH) : Option AS := match todo with
  | [] => none
  | it :: k => hotI mk nt ρ H k it
def hotQ (mk : MK) (ρ : T AV) (todo : List AI) (r : Option (DS × AH)) : Option AS := match r with
  | some (d, H) => mk ρ todo (some d) H
  | none => none
def hotE (mk : MK) (todo : List AI) (d : DS) (H : AH) : Option AS := match d.pend.all (nowF H) with
  | true => mk d.ρ todo none H
  | false => none
def hotD (mk : MK) (nt : Nat) (ρ : T AV) (todo : List AI) (H : AH) (d : DS) : Option AS :=
  DS.casesOn (motive := fun _ => Option AS) d fun dρ pend rest cur => match cur with
    | some _ => none
    | none => match rest with
      | [] => hotE mk todo ⟨dρ, pend, [], none⟩ H
      | e :: rest => match Nat.beq e.o.ir.cls 2 with
        | true => none
        | false => hotQ mk ρ todo (quietG nt ⟨dρ, pend, e :: rest, none⟩ H e rest)
def hot (s : AS) : Option AS :=
  AS.casesOn (motive := fun _ => Option AS) s fun fr cs H => AF.casesOn (motive := fun _ => Option AS) fr fun fn nt ρ todo ds mode dfd rd dr lo =>
    AMd.casesOn (motive := fun _ => Option AS) mode
      (Option.casesOn (motive := fun _ => Option AS) dr
        (hotN (fun ρ todo dr H => some ⟨⟨fn, nt, ρ, todo, ds, .run, dfd, rd, dr, lo⟩, cs, H⟩) nt ρ todo H)
        (fun d => hotD (fun ρ todo dr H => some ⟨⟨fn, nt, ρ, todo, ds, .run, dfd, rd, dr, lo⟩, cs, H⟩) nt ρ todo H d)) none (fun _ => none)
theorem hot_sound (C : T PF) {s s' : AS} (h : hot s = some s') : stepA C s = some s' := by
  obtain ⟨⟨fn, nt, ρ, todo, ds, mode, dfd, rd, dr, lo⟩, cs, H⟩ := s
  cases mode with
  | returning => cases h
  | panicking ch => cases h
  | run =>
    cases dr with
    | none =>
      change hotN (fun ρ todo dr H => some ⟨⟨fn, nt, ρ, todo, ds, .run, dfd, rd, dr, lo⟩, cs, H⟩) nt ρ todo H = _ at h
      rw [← stepF_eq]
      show runNF C _ = _
      unfold hotN at h
      cases todo with
      | nil => cases h
      | cons it k =>
        have hv : ∀ (dst : Option Nat) (ir : IR) (guard : Option (Option Nat × Bool)) (af : Nat) (l : List PO), hotV (fun ρ todo dr H => some ⟨⟨fn, nt, ρ, todo, ds, .run, dfd, rd, dr, lo⟩, cs, H⟩) nt ρ dst l k (onceF ρ.get H ir) = some s' →
            opF C ⟨⟨fn, nt, ρ, .inReg (⟨dst, guard, ir, af⟩ :: l) :: k, ds, .run, dfd, rd, none, lo⟩, cs, H⟩ ⟨dst, guard, ir, af⟩ = some s' := by
          intro dst ir guard af l hh
          unfold hotV at hh
          split at hh
          · rename_i v H' hv
            split at hh
            · rename_i hok
              rw [regOkF_eq] at hok
              injection hh with hh
              subst hh
              rw [onceF_eq] at hv
              rw [opF_eq]
              have hfin : finish ⟨fn, nt, ρ, .inReg (⟨dst, guard, ir, af⟩ :: l) :: k, ds, .run, dfd, rd, none, lo⟩ v = some ⟨fn, nt, reg ρ dst v, .inReg l :: k, ds, .run, dfd, rd, none, lo⟩ := by
                simp only [finish, finishN, hok, if_true]
              cases ir <;> first
                | (simp [onceIR] at hv; done)
                | (simp only [opA, hv, hfin])
            · cases hh
          · cases hh
        cases it with
        | code c =>
          cases c with
          | skip => exact h
          | ret => cases h
          | bad => cases h
          | seq a b => exact h
          | cond c a b =>
            change hotCond (fun ρ todo dr H => some ⟨⟨fn, nt, ρ, todo, ds, .run, dfd, rd, dr, lo⟩, cs, H⟩) ρ H k c a b = _ at h
            show cCond _ c a b k = _
            unfold hotCond at h
            unfold cCond
            simp only
            split at h
            · rename_i hc; rw [hc]; exact h
            · rename_i hc; rw [hc]; exact h
            · cases h
          | block id b => exact h
          | loop b => exact h
          | exit id =>
            change hotExit (fun ρ todo dr H => some ⟨⟨fn, nt, ρ, todo, ds, .run, dfd, rd, dr, lo⟩, cs, H⟩) ρ H k id = _ at h
            show cExit _ id k = _
            unfold hotExit at h
            unfold cExit
            split at h
            · rename_i k' hk; rw [hk]; exact h
            · cases h
          | region l => exact h
          | drawn l => exact h
          | fork l => cases h
          | rangeF f ps a b => cases h
        | inBlock i => exact h
        | inLoop b => exact h
        | inRange l => cases h
        | endRange l => cases h
        | beginRound => cases h
        | inReg l =>
          cases l with
          | nil => exact h
          | cons o l =>
            obtain ⟨dst, guard, ir, af⟩ := o
            show runOF C _ _ l k = _
            unfold runOF
            cases guard with
            | none => exact hv dst ir none af l h
            | some g =>
              change hotG (fun ρ todo dr H => some ⟨⟨fn, nt, ρ, todo, ds, .run, dfd, rd, dr, lo⟩, cs, H⟩) nt ρ H dst ir l k (some g) = _ at h
              unfold hotG at h
              simp only
              split at h
              · rename_i hw; rw [hw]; exact hv dst ir (some g) af l h
              · rename_i hw
                rw [hw]
                simp only
                rw [regOkF_eq] at h
                exact h
              · cases h
    | some d =>
      change hotD (fun ρ todo dr H => some ⟨⟨fn, nt, ρ, todo, ds, .run, dfd, rd, dr, lo⟩, cs, H⟩) nt ρ todo H d = _ at h
      rw [← stepF_eq]
      show runDF C _ d = _
      obtain ⟨dρ, pend, rest, cur⟩ := d
      cases cur with
      | some e => cases h
      | none =>
        cases rest with
        | nil =>
          change hotE (fun ρ todo dr H => some ⟨⟨fn, nt, ρ, todo, ds, .run, dfd, rd, dr, lo⟩, cs, H⟩) todo ⟨dρ, pend, [], none⟩ H = _ at h
          show dEnd _ _ = _
          exact h
        | cons e rest =>
          show dGo C _ _ e rest = _
          unfold dGo
          change (match Nat.beq e.o.ir.cls 2 with
            | true => none
            | false => hotQ (fun ρ todo dr H => some ⟨⟨fn, nt, ρ, todo, ds, .run, dfd, rd, dr, lo⟩, cs, H⟩) ρ todo (quietG nt ⟨dρ, pend, e :: rest, none⟩ H e rest)) = _ at h
          cases hb : Nat.beq e.o.ir.cls 2 with
          | true => rw [hb] at h; cases h
          | false =>
            rw [hb] at h
            simp only at h ⊢
            unfold dQuiet
            rw [quietF_eq, ← quietG_eq]
            unfold hotQ at h
            simp only
            split at h
            · rename_i d' H' hq; rw [hq]; exact h
            · cases h
def bigsG (C : T PF) (d n : Nat) (k : AS → Bool) : AS → Bool :=
  Nat.rec (motive := fun _ => AS → Bool) k (fun _ ih s => match hot s with
    | some s' => ih s'
    | none => match bigF C d s with
      | some s' => packS s' ih
      | none => false) n
theorem hot_big (C : T PF) (d : Nat) {s s' : AS} (h : hot s = some s') : big C d s = some s' := by
  have h1 := hot_sound C h
  cases d with
  | zero => exact h1
  | succ d =>
    simp only [big]
    cases hf : forkOf s with
    | none => exact h1
    | some x => rw [forkOf_none C s hf] at h1; cases h1
theorem bigsG_eq (C : T PF) (d : Nat) (k : AS → Bool) : ∀ (n : Nat) (s : AS), bigsG C d n k s = match bigs C d n s with | some a => k a | none => false
  | 0, s => rfl
  | n + 1, s => by
    show (match hot s with
    | some s' => bigsG C d n k s'
    | none => match bigF C d s with
      | some s' => packS s' (bigsG C d n k)
      | none => false) = _
    simp only [bigs, bigF_eq, packS_eq]
    cases hh : hot s with
    | some s' => rw [hot_big C d hh]; exact bigsG_eq C d k n s'
    | none =>
      simp only
      cases big C d s with
      | none => rfl
      | some s' => exact bigsG_eq C d k n s'
def chkG (C : T PF) (d n : Nat) (s r : AS) : Bool := bigsG C d n (fun a => leS a r) s
theorem chkG_eq (C : T PF) (d n : Nat) (s r : AS) : chkG C d n s r = chk C d n s r := by
  unfold chkG chk
  rw [bigsG_eq]
  rfl
end
end Ex
end Go.Proofs.YtfehlbepjmmkeaaGreatDoor
