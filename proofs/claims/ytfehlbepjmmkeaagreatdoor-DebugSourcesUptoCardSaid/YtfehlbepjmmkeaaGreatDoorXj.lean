/-
  DERIVED. An abstract machine, and that its runs are runs of the model: part 10 of 11. No condition.
-/
import Derived.Test.YtfehlbepjmmkeaaGreatDoorXi
namespace Go.Proofs.YtfehlbepjmmkeaaGreatDoor
set_option linter.unusedSimpArgs false
set_option linter.unusedVariables false
open Go.RowKit
namespace Ex
noncomputable section
def aON (nt:Nat)(d:Option Nat):Bool:=Option.casesOn (motive:=fun _=>Bool) d true fun d=>Bool.casesOn (motive:=fun _=>Bool) (Nat.ble (Nat.succ d) LIM) false (Nat.ble (Nat.succ d) nt)
theorem aBM (nt:Nat)(d:Option Nat):aON nt d=apn nt d:=by
 cases d with
 |none=>rfl
 |some d=>
  show Bool.casesOn (motive:=fun _=>Bool) (Nat.ble (Nat.succ d) LIM) false (Nat.ble (Nat.succ d) nt)=decide (d<LIM∧d<nt)
  rw[ace,decide_eq_true_iff]
  cases h1:Nat.ble (Nat.succ d) LIM with
  |false=>
   simp only[acf,false_iff,not_and]
   intro h2
   have:=Nat.ble_eq_true_of_le h2
   rw[h1]at this;cases this
  |true=>
   have h3:=agQ h1
   simp only
   constructor
   ·intro h4;exact⟨h3,agQ h4⟩
   ·intro h4;exact Nat.ble_eq_true_of_le h4.2
def buF (l:List Nat)(t:Nat):Bool:=List.rec (motive:=fun _=>Bool) false (fun x _ ih=>Bool.casesOn (motive:=fun _=>Bool) (Nat.beq t x) ih true) l
theorem aYB (t:Nat):∀l:List Nat,buF l t=l.contains t
 | []=>rfl
 |x::l=>by
  show Bool.casesOn (motive:=fun _=>Bool) (Nat.beq t x) (buF l t) true=_
  rw[aYB t l,List.contains_cons]
  have e:(t==x)=Nat.beq t x:=by
   rw[ace,beq_iff_eq]
   exact⟨fun h=>by rw[h];exact Nat.beq_refl _,acF⟩
  rw[e]
  cases Nat.beq t x<;>rfl
def a9M (l:List Nat)(ρ:T AV):Nat→Option AV:=fun t=>Bool.casesOn (motive:=fun _=>Option AV) (buF l t) none (ρ.get t)
theorem a9N (l:List Nat)(ρ:T AV):a9M l ρ=only l ρ:=by
 funext t
 unfold a9M only
 rw[aYB]
 cases l.contains t<;>rfl
def aOO (nt:Nat)(d:DS)(H:AH)(e:DO)(rest:List DO):Option (DS×AH):=match aON nt e.o.dst with
 |true=>aXa nt d H e rest (a9M e.rs d.ρ)
 |false=>none
theorem a1Y (nt:Nat)(d:DS)(H:AH)(e:DO)(rest:List DO):aOO nt d H e rest=atA nt d H e rest:=by
 rw[←au7]
 unfold aOO aOD
 rw[aBM,a9N]
 rfl
abbrev MK:=T AV→List AI→Option DS→AH→Option AS
def bd4 (mk:MK)(nt:Nat)(ρ:T AV)(dst:Option Nat)(l:List PO)(k:List AI)(r:Option (AV×AH)):Option AS:=match r with
 |some (v,H)=>match aON nt dst with
  |true=>mk (reg ρ dst v) (.afm l::k) none H
  |false=>none
 |none=>none
def buH (mk:MK)(nt:Nat)(ρ:T AV)(H:AH)(dst:Option Nat)(ir:IR)(l:List PO)(k:List AI)(g:Option (Option Nat×Bool)):Option AS:=match wanted ρ.get g with
 |some true=>bd4 mk nt ρ dst l k (ayK ρ.get H ir)
 |some false=>match aON nt dst with
  |true=>mk (reg ρ dst (.tup [])) (.afm l::k) none H
  |false=>none
 |none=>none
def bMq (mk:MK)(nt:Nat)(ρ:T AV)(H:AH)(o:PO)(l:List PO)(k:List AI):Option AS:=
 PO.casesOn (motive:=fun _=>Option AS) o fun dst guard ir _=>match guard with
  |none=>bd4 mk nt ρ dst l k (ayK ρ.get H ir)
  |some g=>buH mk nt ρ H dst ir l k (some g)
def bMr (mk:MK)(nt:Nat)(ρ:T AV)(H:AH)(k:List AI)(l:List PO):Option AS:=match l with
 | []=>mk ρ k none H
 |o::l=>bMq mk nt ρ H o l k
def aOU (mk:MK)(ρ:T AV)(H:AH)(k:List AI)(c:Od)(a b:PC):Option AS:=match c.ev ρ.get with
 |some (.bool true)=>mk ρ (.code a::k) none H
 |some (.bool false)=>mk ρ (.code b::k) none H
 |_=>none
def aOX (mk:MK)(ρ:T AV)(H:AH)(k:List AI)(id:Nat):Option AS:=match asw id k with
 |some k=>mk ρ k none H
 |none=>none
def bMs (mk:MK)(ρ:T AV)(H:AH)(k:List AI)(c:PC):Option AS:=
 PC.casesOn (motive:=fun _=>Option AS) c (mk ρ k none H) none none (fun a b=>mk ρ (.code a:: .code b::k) none H) (fun c a b=>aOU mk ρ H k c a b)
  (fun id b=>mk ρ (.code b:: .inBlock id::k) none H) (fun b=>mk ρ (.code b:: .inLoop b::k) none H) (fun id=>aOX mk ρ H k id) (fun l=>mk ρ (.afm l::k) none H)
  (fun l=>mk .E k (some ⟨ρ,[],l,none⟩) H) (fun _=>none) (fun _ _ _ _=>none)
def bMv (mk:MK)(nt:Nat)(ρ:T AV)(H:AH)(k:List AI)(it:AI):Option AS:=
 AI.casesOn (motive:=fun _=>Option AS) it (fun c=>bMs mk ρ H k c) (fun _=>mk ρ k none H) (fun b=>mk ρ (.code b:: .inLoop b::k) none H) (fun l=>bMr mk nt ρ H k l) (fun _=>none) (fun _=>none) none
def buI (mk:MK)(nt:Nat)(ρ:T AV)(todo:List AI)(H:AH):Option AS:=match todo with
 | []=>none
 |it::k=>bMv mk nt ρ H k it
def buL (mk:MK)(ρ:T AV)(todo:List AI)(r:Option (DS×AH)):Option AS:=match r with
 |some (d,H)=>mk ρ todo (some d) H
 |none=>none
def hotE (mk:MK)(todo:List AI)(d:DS)(H:AH):Option AS:=match d.pend.all (a9H H)with
 |true=>mk d.ρ todo none H
 |false=>none
def bFt (mk:MK)(nt:Nat)(ρ:T AV)(todo:List AI)(H:AH)(d:DS):Option AS:=
 DS.casesOn (motive:=fun _=>Option AS) d fun dρ pend rest cur=>match cur with
  |some _=>none
  |none=>match rest with
   | []=>hotE mk todo ⟨dρ,pend,[],none⟩ H
   |e::rest=>match Nat.beq e.o.ir.cls 2 with
    |true=>none
    |false=>buL mk ρ todo (aOO nt ⟨dρ,pend,e::rest,none⟩ H e rest)
def hot (s:AS):Option AS:=
 AS.casesOn (motive:=fun _=>Option AS) s fun fr cs H=>AF.casesOn (motive:=fun _=>Option AS) fr fun fn nt ρ todo ds mode dfd rd dr lo=>
  AMd.casesOn (motive:=fun _=>Option AS) mode
   (Option.casesOn (motive:=fun _=>Option AS) dr
     (buI (fun ρ todo dr H=>some ⟨⟨fn,nt,ρ,todo,ds,.run,dfd,rd,dr,lo⟩,cs,H⟩) nt ρ todo H)
     (fun d=>bFt (fun ρ todo dr H=>some ⟨⟨fn,nt,ρ,todo,ds,.run,dfd,rd,dr,lo⟩,cs,H⟩) nt ρ todo H d)) none (fun _=>none)
theorem a19 (C:T PF){s s':AS}(h:hot s=some s'):asx C s=some s':=by
 obtain⟨⟨fn,nt,ρ,todo,ds,mode,dfd,rd,dr,lo⟩,cs,H⟩:=s
 cases mode with
 |returning=>cases h
 |panicking ch=>cases h
 |run=>
  cases dr with
  |none=>
   change buI (fun ρ todo dr H=>some ⟨⟨fn,nt,ρ,todo,ds,.run,dfd,rd,dr,lo⟩,cs,H⟩) nt ρ todo H=_ at h
   rw[←ayO]
   show aYs C _=_
   unfold buI at h
   cases todo with
   |nil=>cases h
   |cons it k=>
    have hv:∀(dst:Option Nat)(ir:IR)(guard:Option (Option Nat×Bool))(af:Nat)(l:List PO),bd4 (fun ρ todo dr H=>some ⟨⟨fn,nt,ρ,todo,ds,.run,dfd,rd,dr,lo⟩,cs,H⟩) nt ρ dst l k (ayK ρ.get H ir)=some s'→
     opF C ⟨⟨fn,nt,ρ,.afm (⟨dst,guard,ir,af⟩::l)::k,ds,.run,dfd,rd,none,lo⟩,cs,H⟩ ⟨dst,guard,ir,af⟩=some s':=by
     intro dst ir guard af l hh
     unfold bd4 at hh
     split at hh
     ·rename_i v H' hv
      split at hh
      ·rename_i hok
       rw[aBM]at hok
       injection hh with hh
       subst hh
       rw[atQ]at hv
       rw[a9w]
       have hfin:finish ⟨fn,nt,ρ,.afm (⟨dst,guard,ir,af⟩::l)::k,ds,.run,dfd,rd,none,lo⟩ v=some ⟨fn,nt,reg ρ dst v,.afm l::k,ds,.run,dfd,rd,none,lo⟩:=by
        simp only[finish,ayd,hok,if_true]
       cases ir<;>first
        |(simp[acA]at hv;done)
        |(simp only[opA,hv,hfin])
      ·cases hh
     ·cases hh
    cases it with
    |code c=>
     cases c with
     |skip=>exact h
     |ret=>cases h
     |bad=>cases h
     |seq a b=>exact h
     |cond c a b=>
      change aOU (fun ρ todo dr H=>some ⟨⟨fn,nt,ρ,todo,ds,.run,dfd,rd,dr,lo⟩,cs,H⟩) ρ H k c a b=_ at h
      show a9z _ c a b k=_
      unfold aOU at h
      unfold a9z
      simp only
      split at h
      ·rename_i hc;rw[hc];exact h
      ·rename_i hc;rw[hc];exact h
      ·cases h
     |block id b=>exact h
     |loop b=>exact h
     |exit id=>
      change aOX (fun ρ todo dr H=>some ⟨⟨fn,nt,ρ,todo,ds,.run,dfd,rd,dr,lo⟩,cs,H⟩) ρ H k id=_ at h
      show a9A _ id k=_
      unfold aOX at h
      unfold a9A
      split at h
      ·rename_i k' hk;rw[hk];exact h
      ·cases h
     |region l=>exact h
     |drawn l=>exact h
     |fork l=>cases h
     |aNn f ps a b=>cases h
    |inBlock i=>exact h
    |inLoop b=>exact h
    |inRange l=>cases h
    |arn l=>cases h
    |beginRound=>cases h
    |afm l=>
     cases l with
     |nil=>exact h
     |cons o l=>
      obtain⟨dst,guard,ir,af⟩:=o
      show aYo C _ _ l k=_
      unfold aYo
      cases guard with
      |none=>exact hv dst ir none af l h
      |some g=>
       change buH (fun ρ todo dr H=>some ⟨⟨fn,nt,ρ,todo,ds,.run,dfd,rd,dr,lo⟩,cs,H⟩) nt ρ H dst ir l k (some g)=_ at h
       unfold buH at h
       simp only
       split at h
       ·rename_i hw;rw[hw];exact hv dst ir (some g) af l h
       ·rename_i hw
        rw[hw]
        simp only
        rw[aBM]at h
        exact h
       ·cases h
  |some d=>
   change bFt (fun ρ todo dr H=>some ⟨⟨fn,nt,ρ,todo,ds,.run,dfd,rd,dr,lo⟩,cs,H⟩) nt ρ todo H d=_ at h
   rw[←ayO]
   show aYv C _ d=_
   obtain⟨dρ,pend,rest,cur⟩:=d
   cases cur with
   |some e=>cases h
   |none=>
    cases rest with
    |nil=>
     change hotE (fun ρ todo dr H=>some ⟨⟨fn,nt,ρ,todo,ds,.run,dfd,rd,dr,lo⟩,cs,H⟩) todo ⟨dρ,pend,[],none⟩ H=_ at h
     show buB _ _=_
     exact h
    |cons e rest=>
     show dGo C _ _ e rest=_
     unfold dGo
     change(match Nat.beq e.o.ir.cls 2 with
      |true=>none
      |false=>buL (fun ρ todo dr H=>some ⟨⟨fn,nt,ρ,todo,ds,.run,dfd,rd,dr,lo⟩,cs,H⟩) ρ todo (aOO nt ⟨dρ,pend,e::rest,none⟩ H e rest))=_ at h
     cases hb:Nat.beq e.o.ir.cls 2 with
     |true=>rw[hb]at h;cases h
     |false=>
      rw[hb]at h
      simp only at h ⊢
      unfold aHZ
      rw[au7,←a1Y]
      unfold buL at h
      simp only
      split at h
      ·rename_i d' H' hq;rw[hq];exact h
      ·cases h
def aYC (C:T PF)(d n:Nat)(k:AS→Bool):AS→Bool:=
 Nat.rec (motive:=fun _=>AS→Bool) k (fun _ ih s=>match hot s with
  |some s'=>ih s'
  |none=>match aTe C d s with
   |some s'=>aDq s' ih
   |none=>false) n
theorem aYE (C:T PF)(d:Nat){s s':AS}(h:hot s=some s'):big C d s=some s':=by
 have h1:=a19 C h
 cases d with
 |zero=>exact h1
 |succ d=>
  simp only[big]
  cases hf:aqc s with
  |none=>exact h1
  |some x=>rw[aDr C s hf]at h1;cases h1
theorem aH3 (C:T PF)(d:Nat)(k:AS→Bool):∀(n:Nat)(s:AS),aYC C d n k s=match a1Q C d n s with|some a=>k a|none=>false
 |0,s=>rfl
 |n+1,s=>by
  show(match hot s with
  |some s'=>aYC C d n k s'
  |none=>match aTe C d s with
   |some s'=>aDq s' (aYC C d n k)
   |none=>false)=_
  simp only[a1Q,aOL,aH1]
  cases hh:hot s with
  |some s'=>rw[aYE C d hh];exact aH3 C d k n s'
  |none=>
   simp only
   cases big C d s with
   |none=>rfl
   |some s'=>exact aH3 C d k n s'
def aH4 (C:T PF)(d n:Nat)(s r:AS):Bool:=aYC C d n (fun a=>leS a r) s
theorem bb5 (C:T PF)(d n:Nat)(s r:AS):aH4 C d n s r=chk C d n s r:=by
 unfold aH4 chk
 rw[aH3]
 rfl
end
end Ex
end Go.Proofs.YtfehlbepjmmkeaaGreatDoor
