/-
  DERIVED. An abstract machine, and that its runs are runs of the model: part 9 of 11. No condition.
-/
import Derived.Test.YtfehlbepjmmkeaaGreatDoorXh
namespace Go.Proofs.YtfehlbepjmmkeaaGreatDoor
open Go.RowKit
namespace Ex
noncomputable section
def opV (s : AS) (r : Option (AV × AH)) : Option AS := match r with
  | some (v, H) => match finish s.fr v with
    | some fr => some { s with fr, H }
    | none => none
  | none => none
def opCall (C : T PF) (s : AS) (f : Nat) (args : List Od) : Option AS := match evs s.fr.ρ.get args with
  | some args => callA C s (.func f [] []) args
  | none => none
def opCallV (C : T PF) (s : AS) (f : Od) (args : List Od) : Option AS := match evs s.fr.ρ.get args with
  | some args => match f.ev s.fr.ρ.get with
    | some f => callA C s f args
    | none => none
  | none => none
def opInv (C : T PF) (s : AS) (r : Od) (tab : List (Nat × Nat × Option (Nat × Option Nat))) (args : List Od) : Option AS := opA C s ⟨none, none, .inv r tab args, 0⟩
def opDefer (s : AS) (f : Od) (args : List Od) : Option AS := opA .E s ⟨none, none, .defer f args, 0⟩
def opPanic (s : AS) (x : Od) : Option AS := opA .E s ⟨none, none, .panic x, 0⟩
def opRecover (s : AS) : Option AS := opA .E s ⟨none, none, .recover, 0⟩
def opF (C : T PF) (s : AS) (o : PO) : Option AS :=
  IR.casesOn (motive := fun _ => Option AS) o.ir (fun a0 => opV s (once_p s.fr.ρ.get s.H a0)) (fun a0 a1 => opV s (once_load s.fr.ρ.get s.H a0 a1)) (fun a0 a1 a2 => opV s (once_store s.fr.ρ.get s.H a0 a1 a2)) (fun a0 a1 => opV s (once_new s.fr.ρ.get s.H a0 a1)) (fun a0 a1 a2 => opV s (once_box s.fr.ρ.get s.H a0 a1 a2)) (fun a0 a1 a2 a3 => opV s (once_row s.fr.ρ.get s.H a0 a1 a2 a3)) (fun a0 a1 a2 a3 a4 a5 => opV s (once_makeS s.fr.ρ.get s.H a0 a1 a2 a3 a4 a5)) (fun a0 a1 a2 a3 a4 => opV s (once_append s.fr.ρ.get s.H a0 a1 a2 a3 a4)) (fun a0 a1 a2 => opV s (once_copy s.fr.ρ.get s.H a0 a1 a2)) (fun a0 => opV s (once_makeM s.fr.ρ.get s.H a0)) (fun a0 a1 a2 a3 a4 => opV s (once_lookup s.fr.ρ.get s.H a0 a1 a2 a3 a4)) (fun a0 a1 a2 a3 => opV s (once_update s.fr.ρ.get s.H a0 a1 a2 a3)) (fun a0 a1 a2 => opV s (once_delete s.fr.ρ.get s.H a0 a1 a2)) (fun a0 => opV s (once_lenM s.fr.ρ.get s.H a0)) (fun a0 => opV s (once_cap s.fr.ρ.get s.H a0)) (fun a0 a1 a2 => opV s (once_eqP s.fr.ρ.get s.H a0 a1 a2)) (fun a0 a1 a2 a3 a4 => opV s (once_sliceA s.fr.ρ.get s.H a0 a1 a2 a3 a4)) (fun a0 a1 => opV s (once_s2b s.fr.ρ.get s.H a0 a1)) (fun a0 => opV s (once_sdata s.fr.ρ.get s.H a0)) (fun a0 a1 a2 => opV s (once_ustr s.fr.ρ.get s.H a0 a1 a2)) (fun a0 => opV s (once_rangeM s.fr.ρ.get s.H a0)) (fun a0 => opV s (once_nextM s.fr.ρ.get s.H a0)) (fun a0 => opV s (once_entryM s.fr.ρ.get s.H a0)) (fun a0 => opV s (once_p2u s.fr.ρ.get s.H a0)) (fun a0 a1 a2 => opV s (once_u2p s.fr.ρ.get s.H a0 a1 a2)) (fun a0 a1 => opV s (once_extF s.fr.ρ.get s.H a0 a1)) (opCall C s) (opCallV C s) (opInv C s) (opDefer s) (opPanic s) (opRecover s) none
theorem opV_once (C : T PF) (s : AS) (o : PO) (h : opA C s o = opV s (onceIR s.fr.ρ.get s.H o.ir)) (h2 : opF C s o = opV s (onceF s.fr.ρ.get s.H o.ir)) : opF C s o = opA C s o := by rw [h, h2, onceF_eq]
theorem opF_eq (C : T PF) (s : AS) (o : PO) : opF C s o = opA C s o := by
  obtain ⟨dst, guard, ir, after⟩ := o
  cases ir
  case call f args => rfl
  case callV f args => rfl
  case inv r tab args => rfl
  case defer f args => rfl
  case panic x => rfl
  case recover => rfl
  case bad => rfl
  all_goals exact opV_once C s _ rfl rfl
def cCond (s : AS) (c : Od) (a b : PC) (k : List AI) : Option AS := match c.ev s.fr.ρ.get with
  | some (.bool t) => some (s.to (.code (if t then a else b) :: k))
  | _ => none
def cExit (s : AS) (id : Nat) (k : List AI) : Option AS := match exitA id k with
  | some k => some (s.to k)
  | none => leaveA s (some (.exit id))
def cDrawn (s : AS) (l : List DO) (k : List AI) : Option AS := some { s with fr := { s.fr with todo := k, ρ := .E, dr := some { ρ := s.fr.ρ, pend := [], rest := l, cur := none } } }
def runCF (C : T PF) (s : AS) (c : PC) (k : List AI) : Option AS :=
  PC.casesOn (motive := fun _ => Option AS) c (some (s.to k)) (leaveA s (some .ret)) none (fun a b => some (s.to (.code a :: .code b :: k))) (fun c a b => cCond s c a b k)
    (fun id b => some (s.to (.code b :: .inBlock id :: k))) (fun b => some (s.to (.code b :: .inLoop b :: k))) (fun id => cExit s id k) (fun l => some (s.to (.inReg l :: k))) (fun l => cDrawn s l k) (fun _ => none) (fun _ _ _ _ => runN C s)
def runOF (C : T PF) (s : AS) (o : PO) (l : List PO) (k : List AI) : Option AS := match wanted s.fr.ρ.get o.guard with
  | some true => opF C s o
  | some false => match regOk s.fr.nt o.dst with
    | true => some { s with fr := { s.fr with ρ := reg s.fr.ρ o.dst (.tup []), todo := .inReg l :: k } }
    | false => none
  | none => none
def runRF (C : T PF) (s : AS) (l : List PO) (k : List AI) : Option AS := match l with
  | [] => some (s.to k)
  | o :: l => runOF C s o l k
def runIF (C : T PF) (s : AS) (it : AI) (k : List AI) : Option AS :=
  AI.casesOn (motive := fun _ => Option AS) it (fun c => runCF C s c k) (fun _ => some (s.to k)) (fun b => some (s.to (.code b :: .inLoop b :: k))) (fun l => runRF C s l k) (fun _ => none) (fun _ => runN C s) (runN C s)
def runNF (C : T PF) (s : AS) : Option AS := match s.fr.todo with
  | [] => leaveA s none
  | it :: k => runIF C s it k
theorem runNF_eq (C : T PF) (s : AS) : runNF C s = runN C s := by
  obtain ⟨⟨fn, nt, ρ, todo, ds, mode, dfd, rd, dr, lo⟩, cs, H⟩ := s
  cases todo with
  | nil => rfl
  | cons it k =>
    cases it with
    | code c => cases c <;> rfl
    | inReg l =>
      cases l with
      | nil => rfl
      | cons o l =>
        simp only [runNF, runIF, runRF, runOF, runN]
        cases hw : wanted ρ.get o.guard with
        | none => rfl
        | some b =>
          cases b with
          | true => exact opF_eq C _ o
          | false => simp only; cases regOk nt o.dst <;> rfl
    | _ => rfl
def quietR (_nt : Nat) (d : DS) (H : AH) (e : DO) (rest : List DO) (g : Nat → Option AV) : Option (DS × AH) := match onceF g H e.o.ir with
  | some (v, _) => some ({ ρ := reg d.ρ e.o.dst v, pend := ⟨e.i, e.o, g, v, none⟩ :: d.pend, rest, cur := none }, H)
  | none => none
def quietN (_nt : Nat) (d : DS) (H : AH) (e : DO) (rest : List DO) (g : Nat → Option AV) : Option (DS × AH) := match onceF g ⟨.E, H.next⟩ e.o.ir with
  | some (v, K) => match K.bl.get H.next with
    | some x => if H.next < LIM then some ({ ρ := reg d.ρ e.o.dst v, pend := ⟨e.i, e.o, g, v, some (H.next, x)⟩ :: d.pend, rest, cur := none }, H.add x) else none
    | none => none
  | none => none
def quietT (nt : Nat) (d : DS) (H : AH) (e : DO) (rest : List DO) (g : Nat → Option AV) : Option (DS × AH) := match e.o.ir.cls with
  | 2 => none
  | 3 => quietN nt d H e rest g
  | _ => quietR nt d H e rest g
def quietW (nt : Nat) (d : DS) (H : AH) (e : DO) (rest : List DO) (g : Nat → Option AV) : Option (DS × AH) := match wanted g e.o.guard with
  | some false => some ({ ρ := reg d.ρ e.o.dst (.tup []), pend := ⟨e.i, e.o, g, .tup [], none⟩ :: d.pend, rest, cur := none }, H)
  | some true => quietT nt d H e rest g
  | none => none
def quietF (nt : Nat) (d : DS) (H : AH) (e : DO) (rest : List DO) : Option (DS × AH) := match regOk nt e.o.dst with
  | true => quietW nt d H e rest (only e.rs d.ρ)
  | false => none
theorem quietF_eq (nt : Nat) (d : DS) (H : AH) (e : DO) (rest : List DO) : quietF nt d H e rest = quietA nt d H e rest := by
  unfold quietF quietA
  cases regOk nt e.o.dst with
  | false => rfl
  | true =>
    simp only [if_true, quietW]
    cases wanted (only e.rs d.ρ) e.o.guard with
    | none => rfl
    | some b =>
      cases b with
      | false => rfl
      | true =>
        simp only [quietT, quietN, quietR, onceF_eq]
        rfl
def nowT (H : AH) (p : Pd) : Bool := match onceF p.g H p.o.ir with
  | some (v, _) => avEq v p.v
  | none => false
def nowR (H : AH) (p : Pd) : Bool := match p.o.ir.cls with
  | 1 => match wanted p.g p.o.guard with
    | some false => true
    | _ => nowT H p
  | _ => true
def nowF (H : AH) (p : Pd) : Bool := match p.al with
  | some (b, x) => match H.bl.get b with
    | some y => bEq x y
    | none => false
  | none => nowR H p
theorem nowF_eq (H : AH) : nowF H = nowOk H := by
  funext p
  unfold nowF nowOk nowR nowT
  rw [onceF_eq]
  rfl
def actC (C : T PF) (s : AS) (d : DS) (e : DO) (rest : List DO) : Option AS := match calleeA (only e.rs d.ρ) s.H e.o.ir with
  | some (f, args) => callA C { s with fr := { s.fr with dr := some { d with rest, cur := some e } } } f args
  | none => none
def actV (s : AS) (d : DS) (e : DO) (rest : List DO) : Option AS := match onceF (only e.rs d.ρ) s.H e.o.ir with
  | some (v, H) => match finish { s.fr with dr := some { d with rest, cur := some e } } v with
    | some fr => some { s with fr, H }
    | none => none
  | none => none
def actF (C : T PF) (s : AS) (d : DS) (e : DO) (rest : List DO) : Option AS := match e.o.ir.isCall with
  | true => actC C s d e rest
  | false => actV s d e rest
theorem actF_eq (C : T PF) (s : AS) (d : DS) (e : DO) (rest : List DO) : actF C s d e rest = actA C s d e rest := by
  unfold actF actA actC actV
  cases e.o.ir.isCall with
  | true => rfl
  | false => simp only [onceF_eq]; rfl
def dQuiet (s : AS) (d : DS) (e : DO) (rest : List DO) : Option AS := match quietF s.fr.nt d s.H e rest with
  | some (d, H) => some { s with fr := { s.fr with dr := some d }, H }
  | none => none
def dAct (C : T PF) (s : AS) (d : DS) (e : DO) (rest : List DO) : Option AS := match d.pend.all (nowF s.H) with
  | true => match rest with
    | [y] => if twoStores e rest && !y.o.after.testBit e.i then pairA s d e y else actF C s d e rest
    | _ => actF C s d e rest
  | false => none
def dWant (C : T PF) (s : AS) (d : DS) (e : DO) (rest : List DO) : Option AS := match wanted (only e.rs d.ρ) e.o.guard with
  | some true => dAct C s d e rest
  | some false => dQuiet s d e rest
  | none => none
def dEnd (s : AS) (d : DS) : Option AS := match d.pend.all (nowF s.H) with
  | true => some { s with fr := { s.fr with ρ := d.ρ, dr := none } }
  | false => none
def dGo (C : T PF) (s : AS) (d : DS) (e : DO) (rest : List DO) : Option AS := match Nat.beq e.o.ir.cls 2 with
  | true => dWant C s d e rest
  | false => dQuiet s d e rest
def runDF (C : T PF) (s : AS) (d : DS) : Option AS := match d.cur with
  | some _ => none
  | none => match d.rest with
    | [] => dEnd s d
    | e :: rest => dGo C s d e rest
theorem runDF_eq (C : T PF) (s : AS) (d : DS) : runDF C s d = runD C s d := by
  unfold runDF runD
  cases d.cur with
  | some _ => rfl
  | none =>
    simp only
    cases d.rest with
    | nil => simp only [dEnd, nowF_eq]; cases d.pend.all (nowOk s.H) <;> rfl
    | cons e rest =>
      simp only [dGo]
      cases hb : Nat.beq e.o.ir.cls 2 with
      | true =>
        have := Nat.eq_of_beq_eq_true hb
        simp only [this, if_true, dWant]
        cases wanted (only e.rs d.ρ) e.o.guard with
        | none => rfl
        | some b =>
          cases b with
          | true =>
            simp only [dAct, nowF_eq]
            cases d.pend.all (nowOk s.H) with
            | false => rfl
            | true =>
              simp only [if_true]
              cases rest with
              | nil => simp only [actF_eq]
              | cons y m =>
                cases m with
                | nil => simp only [actF_eq]
                | cons z m => simp only [actF_eq]
          | false => simp only [dQuiet, quietF_eq]; rfl
      | false =>
        have : ¬ e.o.ir.cls = 2 := fun h => by rw [h] at hb; cases hb
        simp only [this, if_false, dQuiet, quietF_eq]
        rfl
def stepF (C : T PF) (s : AS) : Option AS := match s.fr.mode with
  | .run => match s.fr.dr with
    | some d => runDF C s d
    | none => runNF C s
  | _ => stepA C s
theorem stepF_eq (C : T PF) (s : AS) : stepF C s = stepA C s := by
  unfold stepF
  split
  · rename_i hm
    split
    · rename_i d hd
      unfold stepA
      rw [hm]
      simp only [runA, hd]
      exact runDF_eq C s _
    · rename_i hd
      unfold stepA
      rw [hm]
      simp only [runA, hd]
      exact runNF_eq C s
  · rfl
def fNat {α : Type} (n : Nat) (k : Nat → α) : α := Nat.rec (motive := fun _ => α) (k 0) (fun m _ => k (m + 1)) n
def fT {α β : Type} (t : T β) (k : T β → α) : α := T.casesOn (motive := fun _ => α) t (k .E) (fun v l r => k (.N v l r))
def fL {α β : Type} (t : List β) (k : List β → α) : α := List.casesOn (motive := fun _ => α) t (k []) (fun v l => k (v :: l))
def fO {α β : Type} (t : Option β) (k : Option β → α) : α := Option.casesOn (motive := fun _ => α) t (k none) (fun v => k (some v))
def fM {α : Type} (t : AMd) (k : AMd → α) : α := AMd.casesOn (motive := fun _ => α) t (k .run) (k .returning) (fun ch => k (.panicking ch))
def packS {α : Type} (s : AS) (k : AS → α) : α :=
  AS.casesOn (motive := fun _ => α) s fun fr cs H => AF.casesOn (motive := fun _ => α) fr fun fn nt ρ todo ds mode dfd rd dr lo => AH.casesOn (motive := fun _ => α) H fun bl next =>
    fNat fn fun fn => fNat nt fun nt => fT ρ fun ρ => fL todo fun todo => fM mode fun mode => fO dr fun dr => fT bl fun bl => fNat next fun next => fL ds fun ds => fL cs fun cs => fNat lo fun lo =>
      k ⟨⟨fn, nt, ρ, todo, ds, mode, dfd, rd, dr, lo⟩, cs, ⟨bl, next⟩⟩
theorem packS_eq {α : Type} (s : AS) (k : AS → α) : packS s k = k s := by
  obtain ⟨⟨fn, nt, ρ, todo, ds, mode, dfd, rd, dr, lo⟩, cs, ⟨bl, next⟩⟩ := s
  have e1 : ∀ {β : Type} (n : Nat) (k : Nat → β), fNat n k = k n := fun n k => by cases n <;> rfl
  have e2 : ∀ {β γ : Type} (t : T γ) (k : T γ → β), fT t k = k t := fun t k => by cases t <;> rfl
  have e3 : ∀ {β γ : Type} (t : List γ) (k : List γ → β), fL t k = k t := fun t k => by cases t <;> rfl
  have e4 : ∀ {β γ : Type} (t : Option γ) (k : Option γ → β), fO t k = k t := fun t k => by cases t <;> rfl
  have e5 : ∀ {β : Type} (t : AMd) (k : AMd → β), fM t k = k t := fun t k => by cases t <;> rfl
  simp only [packS, e1, e2, e3, e4, e5]
theorem forkOf_none (C : T PF) (s : AS) {x : List AS × List AI} (h : forkOf s = some x) : stepA C s = none := by
  unfold forkOf at h
  split at h
  · rename_i hd hm
    unfold stepA
    rw [hm]
    simp only [runA, hd]
    split at h
    · rename_i ls k hk
      unfold runN
      rw [hk]
    · rename_i o l k hk
      split at h
      · rename_i y hir
        split at h
        · rename_i b hb hg
          split at h
          · contradiction
          · rename_i hw
            unfold runN
            rw [hk]
            simp only [hg, wanted]
            unfold opA
            simp only [hir]
            have : onceIR s.fr.ρ.get s.H (.nextM y) = none := by
              simp only [onceIR, hb]
              rw [if_neg (fun h1 => hw (.inl (by omega)))]
            rw [this]
        · contradiction
      · contradiction
    · contradiction
  · contradiction
def runToF (f : AS → Option AS) (lo : Nat) (k : List AI) (n : Nat) : AS → Option AS :=
  Nat.rec (motive := fun _ => AS → Option AS) (fun _ => none) (fun _ ih s => match atJoin k s with
    | true => some s
    | false => match f s with
      | some s' => match Nat.ble lo s'.fr.lo with
        | true => packS s' ih
        | false => none
      | none => none) n
theorem runToF_eq (f : AS → Option AS) (lo : Nat) (k : List AI) : ∀ (n : Nat) (s : AS), runToF f lo k n s = runTo f lo k n s
  | 0, s => rfl
  | n + 1, s => by
    show (match atJoin k s with
    | true => some s
    | false => match f s with
      | some s' => match Nat.ble lo s'.fr.lo with
        | true => packS s' (runToF f lo k n)
        | false => none
      | none => none) = _
    simp only [runTo, packS_eq]
    cases atJoin k s with
    | true => rfl
    | false =>
      simp only
      cases f s with
      | none => rfl
      | some s' =>
        simp only
        cases Nat.ble lo s'.fr.lo with
        | true => exact runToF_eq f lo k n s'
        | false => rfl
def bigF (C : T PF) : Nat → AS → Option AS
  | 0, s => stepF C s
  | d + 1, s => match stepF C s with
    | some s' => some s'
    | none => match forkOf s with
      | none => none
      | some (ws, k) => match joinAll (runToF (bigF C d) s.fr.lo k 1000000) ws with
        | some r => if r.fr.lo = s.fr.lo then some { r with cs := s.cs } else none
        | none => none
theorem bigF_eq (C : T PF) : ∀ (d : Nat), bigF C d = big C d
  | 0 => by funext s; exact stepF_eq C s
  | d + 1 => by
    funext s
    have ih := bigF_eq C d
    have hr : ∀ lo k n, runToF (bigF C d) lo k n = runTo (big C d) lo k n := fun lo k n => by funext s; rw [ih]; exact runToF_eq _ _ _ _ _
    simp only [bigF, big, stepF_eq, hr]
    cases hf : forkOf s with
    | none => simp only; cases stepA C s <;> rfl
    | some x =>
      obtain ⟨ws, k⟩ := x
      rw [forkOf_none C s hf]
      rfl
end
end Ex
end Go.Proofs.YtfehlbepjmmkeaaGreatDoor
