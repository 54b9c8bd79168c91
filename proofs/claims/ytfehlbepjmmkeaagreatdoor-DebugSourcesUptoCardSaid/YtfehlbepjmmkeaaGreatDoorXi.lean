/-
  DERIVED. An abstract machine, and that its runs are runs of the model: part 9 of 11. No condition.
-/
import Derived.Test.YtfehlbepjmmkeaaGreatDoorXh
namespace Go.Proofs.YtfehlbepjmmkeaaGreatDoor
set_option linter.unusedSimpArgs false
set_option linter.unusedVariables false
open Go.RowKit
namespace Ex
noncomputable section
def opV (s:AS)(r:Option (AV×AH)):Option AS:=match r with
 |some (v,H)=>match finish s.fr v with
  |some fr=>some {s with fr,H}
  |none=>none
 |none=>none
def bus (C:T PF)(s:AS)(f:Nat)(args:List Od):Option AS:=match evs s.fr.ρ.get args with
 |some args=>ap5 C s (.func f [] []) args
 |none=>none
def bdZ (C:T PF)(s:AS)(f:Od)(args:List Od):Option AS:=match evs s.fr.ρ.get args with
 |some args=>match f.ev s.fr.ρ.get with
  |some f=>ap5 C s f args
  |none=>none
 |none=>none
def bFc (C:T PF)(s:AS)(r:Od)(tab:List (Nat×Nat×Option (Nat×Option Nat)))(args:List Od):Option AS:=opA C s ⟨none,none,.inv r tab args,0⟩
def bd2 (s:AS)(f:Od)(args:List Od):Option AS:=opA .E s ⟨none,none,.defer f args,0⟩
def bd3 (s:AS)(x:Od):Option AS:=opA .E s ⟨none,none,.panic x,0⟩
def a1U (s:AS):Option AS:=opA .E s ⟨none,none,.recover,0⟩
def opF (C:T PF)(s:AS)(o:PO):Option AS:=
 IR.casesOn (motive:=fun _=>Option AS) o.ir (fun a0=>opV s (aOB s.fr.ρ.get s.H a0)) (fun a0 a1=>opV s (aLt s.fr.ρ.get s.H a0 a1)) (fun a0 a1 a2=>opV s (aHM s.fr.ρ.get s.H a0 a1 a2)) (fun a0 a1=>opV s (aSQ s.fr.ρ.get s.H a0 a1)) (fun a0 a1 a2=>opV s (aSX s.fr.ρ.get s.H a0 a1 a2)) (fun a0 a1 a2 a3=>opV s (aSY s.fr.ρ.get s.H a0 a1 a2 a3)) (fun a0 a1 a2 a3 a4 a5=>opV s (aHQ s.fr.ρ.get s.H a0 a1 a2 a3 a4 a5)) (fun a0 a1 a2 a3 a4=>opV s (aC4 s.fr.ρ.get s.H a0 a1 a2 a3 a4)) (fun a0 a1 a2=>opV s (aLu s.fr.ρ.get s.H a0 a1 a2)) (fun a0=>opV s (aHS s.fr.ρ.get s.H a0)) (fun a0 a1 a2 a3 a4=>opV s (aC7 s.fr.ρ.get s.H a0 a1 a2 a3 a4)) (fun a0 a1 a2 a3=>opV s (aDg s.fr.ρ.get s.H a0 a1 a2 a3)) (fun a0 a1 a2=>opV s (aDi s.fr.ρ.get s.H a0 a1 a2)) (fun a0=>opV s (aLv s.fr.ρ.get s.H a0)) (fun a0=>opV s (aS2 s.fr.ρ.get s.H a0)) (fun a0 a1 a2=>opV s (aS3 s.fr.ρ.get s.H a0 a1 a2)) (fun a0 a1 a2 a3 a4=>opV s (aDk s.fr.ρ.get s.H a0 a1 a2 a3 a4)) (fun a0 a1=>opV s (aS6 s.fr.ρ.get s.H a0 a1)) (fun a0=>opV s (aHW s.fr.ρ.get s.H a0)) (fun a0 a1 a2=>opV s (aLw s.fr.ρ.get s.H a0 a1 a2)) (fun a0=>opV s (aDl s.fr.ρ.get s.H a0)) (fun a0=>opV s (aHX s.fr.ρ.get s.H a0)) (fun a0=>opV s (aDo s.fr.ρ.get s.H a0)) (fun a0=>opV s (aS7 s.fr.ρ.get s.H a0)) (fun a0 a1 a2=>opV s (aTc s.fr.ρ.get s.H a0 a1 a2)) (fun a0 a1=>opV s (aLx s.fr.ρ.get s.H a0 a1)) (bus C s) (bdZ C s) (bFc C s) (bd2 s) (bd3 s) (a1U s) none
theorem a9v (C:T PF)(s:AS)(o:PO)(h:opA C s o=opV s (acA s.fr.ρ.get s.H o.ir))(h2:opF C s o=opV s (ayK s.fr.ρ.get s.H o.ir)):opF C s o=opA C s o:=by rw[h,h2,atQ]
theorem a9w (C:T PF)(s:AS)(o:PO):opF C s o=opA C s o:=by
 obtain⟨dst,guard,ir,after⟩:=o
 cases ir
 case call f args=>rfl
 case atb f args=>rfl
 case inv r tab args=>rfl
 case defer f args=>rfl
 case panic x=>rfl
 case recover=>rfl
 case bad=>rfl
 all_goals exact a9v C s _ rfl rfl
def a9z (s:AS)(c:Od)(a b:PC)(k:List AI):Option AS:=match c.ev s.fr.ρ.get with
 |some (.bool t)=>some (s.to (.code (if t then a else b)::k))
 |_=>none
def a9A (s:AS)(id:Nat)(k:List AI):Option AS:=match asw id k with
 |some k=>some (s.to k)
 |none=>atx s (some (.exit id))
def buA (s:AS)(l:List DO)(k:List AI):Option AS:=some {s with fr:={s.fr with todo:=k,ρ:= .E,dr:=some {ρ:=s.fr.ρ,pend:=[],rest:=l,cur:=none}}}
def bFd (C:T PF)(s:AS)(c:PC)(k:List AI):Option AS:=
 PC.casesOn (motive:=fun _=>Option AS) c (some (s.to k)) (atx s (some .ret)) none (fun a b=>some (s.to (.code a:: .code b::k))) (fun c a b=>a9z s c a b k)
  (fun id b=>some (s.to (.code b:: .inBlock id::k))) (fun b=>some (s.to (.code b:: .inLoop b::k))) (fun id=>a9A s id k) (fun l=>some (s.to (.afm l::k))) (fun l=>buA s l k) (fun _=>none) (fun _ _ _ _=>runN C s)
def aYo (C:T PF)(s:AS)(o:PO)(l:List PO)(k:List AI):Option AS:=match wanted s.fr.ρ.get o.guard with
 |some true=>opF C s o
 |some false=>match apn s.fr.nt o.dst with
  |true=>some {s with fr:={s.fr with ρ:=reg s.fr.ρ o.dst (.tup []),todo:= .afm l::k}}
  |false=>none
 |none=>none
def bj5 (C:T PF)(s:AS)(l:List PO)(k:List AI):Option AS:=match l with
 | []=>some (s.to k)
 |o::l=>aYo C s o l k
def bj6 (C:T PF)(s:AS)(it:AI)(k:List AI):Option AS:=
 AI.casesOn (motive:=fun _=>Option AS) it (fun c=>bFd C s c k) (fun _=>some (s.to k)) (fun b=>some (s.to (.code b:: .inLoop b::k))) (fun l=>bj5 C s l k) (fun _=>none) (fun _=>runN C s) (runN C s)
def aYs (C:T PF)(s:AS):Option AS:=match s.fr.todo with
 | []=>atx s none
 |it::k=>bj6 C s it k
theorem a9B (C:T PF)(s:AS):aYs C s=runN C s:=by
 obtain⟨⟨fn,nt,ρ,todo,ds,mode,dfd,rd,dr,lo⟩,cs,H⟩:=s
 cases todo with
 |nil=>rfl
 |cons it k=>
  cases it with
  |code c=>cases c<;>rfl
  |afm l=>
   cases l with
   |nil=>rfl
   |cons o l=>
    simp only[aYs,bj6,bj5,aYo,runN]
    cases hw:wanted ρ.get o.guard with
    |none=>rfl
    |some b=>
     cases b with
     |true=>exact a9w C _ o
     |false=>simp only;cases apn nt o.dst<;>rfl
  |_=>rfl
def a9D (_nt:Nat)(d:DS)(H:AH)(e:DO)(rest:List DO)(g:Nat→Option AV):Option (DS×AH):=match ayK g H e.o.ir with
 |some (v,_)=>some ({ρ:=reg d.ρ e.o.dst v,pend:=⟨e.i,e.o,g,v,none⟩::d.pend,rest,cur:=none},H)
 |none=>none
def a9F (_nt:Nat)(d:DS)(H:AH)(e:DO)(rest:List DO)(g:Nat→Option AV):Option (DS×AH):=match ayK g ⟨.E,H.next⟩ e.o.ir with
 |some (v,K)=>match K.bl.get H.next with
  |some x=>if H.next<LIM then some ({ρ:=reg d.ρ e.o.dst v,pend:=⟨e.i,e.o,g,v,some (H.next,x)⟩::d.pend,rest,cur:=none},H.add x) else none
  |none=>none
 |none=>none
def a9G (nt:Nat)(d:DS)(H:AH)(e:DO)(rest:List DO)(g:Nat→Option AV):Option (DS×AH):=match e.o.ir.cls with
 |2=>none
 |3=>a9F nt d H e rest g
 |_=>a9D nt d H e rest g
def aXa (nt:Nat)(d:DS)(H:AH)(e:DO)(rest:List DO)(g:Nat→Option AV):Option (DS×AH):=match wanted g e.o.guard with
 |some false=>some ({ρ:=reg d.ρ e.o.dst (.tup []),pend:=⟨e.i,e.o,g,.tup [],none⟩::d.pend,rest,cur:=none},H)
 |some true=>a9G nt d H e rest g
 |none=>none
def aOD (nt:Nat)(d:DS)(H:AH)(e:DO)(rest:List DO):Option (DS×AH):=match apn nt e.o.dst with
 |true=>aXa nt d H e rest (only e.rs d.ρ)
 |false=>none
theorem au7 (nt:Nat)(d:DS)(H:AH)(e:DO)(rest:List DO):aOD nt d H e rest=atA nt d H e rest:=by
 unfold aOD atA
 cases apn nt e.o.dst with
 |false=>rfl
 |true=>
  simp only[if_true,aXa]
  cases wanted (only e.rs d.ρ) e.o.guard with
  |none=>rfl
  |some b=>
   cases b with
   |false=>rfl
   |true=>
    simp only[a9G,a9F,a9D,atQ]
    rfl
def bFe (H:AH)(p:Pd):Bool:=match ayK p.g H p.o.ir with
 |some (v,_)=>aj3 v p.v
 |none=>false
def bFf (H:AH)(p:Pd):Bool:=match p.o.ir.cls with
 |1=>match wanted p.g p.o.guard with
  |some false=>true
  |_=>bFe H p
 |_=>true
def a9H (H:AH)(p:Pd):Bool:=match p.al with
 |some (b,x)=>match H.bl.get b with
  |some y=>bEq x y
  |none=>false
 |none=>bFf H p
theorem aYu (H:AH):a9H H=ap7 H:=by
 funext p
 unfold a9H ap7 bFf bFe
 rw[atQ]
 rfl
def bFl (C:T PF)(s:AS)(d:DS)(e:DO)(rest:List DO):Option AS:=match aoV (only e.rs d.ρ) s.H e.o.ir with
 |some (f,args)=>ap5 C {s with fr:={s.fr with dr:=some {d with rest,cur:=some e}}} f args
 |none=>none
def bFq (s:AS)(d:DS)(e:DO)(rest:List DO):Option AS:=match ayK (only e.rs d.ρ) s.H e.o.ir with
 |some (v,H)=>match finish {s.fr with dr:=some {d with rest,cur:=some e}} v with
  |some fr=>some {s with fr,H}
  |none=>none
 |none=>none
def aWL (C:T PF)(s:AS)(d:DS)(e:DO)(rest:List DO):Option AS:=match e.o.ir.aty with
 |true=>bFl C s d e rest
 |false=>bFq s d e rest
theorem aOE (C:T PF)(s:AS)(d:DS)(e:DO)(rest:List DO):aWL C s d e rest=a1v C s d e rest:=by
 unfold aWL a1v bFl bFq
 cases e.o.ir.aty with
 |true=>rfl
 |false=>simp only[atQ];rfl
def aHZ (s:AS)(d:DS)(e:DO)(rest:List DO):Option AS:=match aOD s.fr.nt d s.H e rest with
 |some (d,H)=>some {s with fr:={s.fr with dr:=some d},H}
 |none=>none
def bFs (C:T PF)(s:AS)(d:DS)(e:DO)(rest:List DO):Option AS:=match d.pend.all (a9H s.H)with
 |true=>match rest with
  | [y]=>if alh e rest&& !y.o.after.testBit e.i then aYd s d e y else aWL C s d e rest
  |_=>aWL C s d e rest
 |false=>none
def bj9 (C:T PF)(s:AS)(d:DS)(e:DO)(rest:List DO):Option AS:=match wanted (only e.rs d.ρ) e.o.guard with
 |some true=>bFs C s d e rest
 |some false=>aHZ s d e rest
 |none=>none
def buB (s:AS)(d:DS):Option AS:=match d.pend.all (a9H s.H)with
 |true=>some {s with fr:={s.fr with ρ:=d.ρ,dr:=none}}
 |false=>none
def dGo (C:T PF)(s:AS)(d:DS)(e:DO)(rest:List DO):Option AS:=match Nat.beq e.o.ir.cls 2 with
 |true=>bj9 C s d e rest
 |false=>aHZ s d e rest
def aYv (C:T PF)(s:AS)(d:DS):Option AS:=match d.cur with
 |some _=>none
 |none=>match d.rest with
  | []=>buB s d
  |e::rest=>dGo C s d e rest
theorem a9J (C:T PF)(s:AS)(d:DS):aYv C s d=a7F C s d:=by
 unfold aYv a7F
 cases d.cur with
 |some _=>rfl
 |none=>
  simp only
  cases d.rest with
  |nil=>simp only[buB,aYu];cases d.pend.all (ap7 s.H)<;>rfl
  |cons e rest=>
   simp only[dGo]
   cases hb:Nat.beq e.o.ir.cls 2 with
   |true=>
    have:=acF hb
    simp only[this,if_true,bj9]
    cases wanted (only e.rs d.ρ) e.o.guard with
    |none=>rfl
    |some b=>
     cases b with
     |true=>
      simp only[bFs,aYu]
      cases d.pend.all (ap7 s.H)with
      |false=>rfl
      |true=>
       simp only[if_true]
       cases rest with
       |nil=>simp only[aOE]
       |cons y m=>
        cases m with
        |nil=>simp only[aOE]
        |cons z m=>simp only[aOE]
     |false=>simp only[aHZ,au7];rfl
   |false=>
    have:¬e.o.ir.cls=2:=fun h=>by rw[h]at hb;cases hb
    simp only[this,if_false,aHZ,au7]
    rfl
def aYy (C:T PF)(s:AS):Option AS:=match s.fr.mode with
 | .run=>match s.fr.dr with
   |some d=>aYv C s d
   |none=>aYs C s
 |_=>asx C s
theorem ayO (C:T PF)(s:AS):aYy C s=asx C s:=by
 unfold aYy
 split
 ·rename_i hm
  split
  ·rename_i d hd
   unfold asx
   rw[hm]
   simp only[a7J,hd]
   exact a9J C s _
  ·rename_i hd
   unfold asx
   rw[hm]
   simp only[a7J,hd]
   exact a9B C s
 ·rfl
def a9K {α:Type}(n:Nat)(k:Nat→α):α:=Nat.rec (motive:=fun _=>α) (k 0) (fun m _=>k (m+1)) n
def fT {α β:Type}(t:T β)(k:T β→α):α:=T.casesOn (motive:=fun _=>α) t (k .E) (fun v l r=>k (.N v l r))
def fL {α β:Type}(t:List β)(k:List β→α):α:=List.casesOn (motive:=fun _=>α) t (k []) (fun v l=>k (v::l))
def fO {α β:Type}(t:Option β)(k:Option β→α):α:=Option.casesOn (motive:=fun _=>α) t (k none) (fun v=>k (some v))
def fM {α:Type}(t:AMd)(k:AMd→α):α:=AMd.casesOn (motive:=fun _=>α) t (k .run) (k .returning) (fun ch=>k (.panicking ch))
def aDq {α:Type}(s:AS)(k:AS→α):α:=
 AS.casesOn (motive:=fun _=>α) s fun fr cs H=>AF.casesOn (motive:=fun _=>α) fr fun fn nt ρ todo ds mode dfd rd dr lo=>AH.casesOn (motive:=fun _=>α) H fun bl next=>
  a9K fn fun fn=>a9K nt fun nt=>fT ρ fun ρ=>fL todo fun todo=>fM mode fun mode=>fO dr fun dr=>fT bl fun bl=>a9K next fun next=>fL ds fun ds=>fL cs fun cs=>a9K lo fun lo=>
   k ⟨⟨fn,nt,ρ,todo,ds,mode,dfd,rd,dr,lo⟩,cs,⟨bl,next⟩⟩
theorem aH1 {α:Type}(s:AS)(k:AS→α):aDq s k=k s:=by
 obtain⟨⟨fn,nt,ρ,todo,ds,mode,dfd,rd,dr,lo⟩,cs,⟨bl,next⟩⟩:=s
 have e1:∀{β:Type}(n:Nat)(k:Nat→β),a9K n k=k n:=fun n k=>by cases n<;>rfl
 have e2:∀{β γ:Type}(t:T γ)(k:T γ→β),fT t k=k t:=fun t k=>by cases t<;>rfl
 have e3:∀{β γ:Type}(t:List γ)(k:List γ→β),fL t k=k t:=fun t k=>by cases t<;>rfl
 have e4:∀{β γ:Type}(t:Option γ)(k:Option γ→β),fO t k=k t:=fun t k=>by cases t<;>rfl
 have e5:∀{β:Type}(t:AMd)(k:AMd→β),fM t k=k t:=fun t k=>by cases t<;>rfl
 simp only[aDq,e1,e2,e3,e4,e5]
theorem aDr (C:T PF)(s:AS){x:List AS×List AI}(h:aqc s=some x):asx C s=none:=by
 unfold aqc at h
 split at h
 ·rename_i hd hm
  unfold asx
  rw[hm]
  simp only[a7J,hd]
  split at h
  ·rename_i ls k hk
   unfold runN
   rw[hk]
  ·rename_i o l k hk
   split at h
   ·rename_i y hir
    split at h
    ·rename_i b hb hg
     split at h
     ·contradiction
     ·rename_i hw
      unfold runN
      rw[hk]
      simp only[hg,wanted]
      unfold opA
      simp only[hir]
      have:acA s.fr.ρ.get s.H (.aGA y)=none:=by
       simp only[acA,hb]
       rw[if_neg (fun h1=>hw (.inl (by omega)))]
      rw[this]
    ·contradiction
   ·contradiction
  ·contradiction
 ·contradiction
def aOH (f:AS→Option AS)(lo:Nat)(k:List AI)(n:Nat):AS→Option AS:=
 Nat.rec (motive:=fun _=>AS→Option AS) (fun _=>none) (fun _ ih s=>match aBx k s with
  |true=>some s
  |false=>match f s with
   |some s'=>match Nat.ble lo s'.fr.lo with
    |true=>aDq s' ih
    |false=>none
   |none=>none) n
theorem aLC (f:AS→Option AS)(lo:Nat)(k:List AI):∀(n:Nat)(s:AS),aOH f lo k n s=ayC f lo k n s
 |0,s=>rfl
 |n+1,s=>by
  show(match aBx k s with
  |true=>some s
  |false=>match f s with
   |some s'=>match Nat.ble lo s'.fr.lo with
    |true=>aDq s' (aOH f lo k n)
    |false=>none
   |none=>none)=_
  simp only[ayC,aH1]
  cases aBx k s with
  |true=>rfl
  |false=>
   simp only
   cases f s with
   |none=>rfl
   |some s'=>
    simp only
    cases Nat.ble lo s'.fr.lo with
    |true=>exact aLC f lo k n s'
    |false=>rfl
def aTe (C:T PF):Nat→AS→Option AS
 |0,s=>aYy C s
 |d+1,s=>match aYy C s with
  |some s'=>some s'
  |none=>match aqc s with
   |none=>none
   |some (ws,k)=>match ayF (aOH (aTe C d) s.fr.lo k 1000000) ws with
    |some r=>if r.fr.lo=s.fr.lo then some {r with cs:=s.cs} else none
    |none=>none
theorem aOL (C:T PF):∀(d:Nat),aTe C d=big C d
 |0=>by funext s;exact ayO C s
 |d+1=>by
  funext s
  have ih:=aOL C d
  have hr:∀lo k n,aOH (aTe C d) lo k n=ayC (big C d) lo k n:=fun lo k n=>by funext s;rw[ih];exact aLC _ _ _ _ _
  simp only[aTe,big,ayO,hr]
  cases hf:aqc s with
  |none=>simp only;cases asx C s<;>rfl
  |some x=>
   obtain⟨ws,k⟩:=x
   rw[aDr C s hf]
   rfl
end
end Ex
end Go.Proofs.YtfehlbepjmmkeaaGreatDoor
