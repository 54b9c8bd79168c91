/-
  DERIVED. An abstract machine, and that its runs are runs of the model: part 11 of 11. No condition.
-/
import Derived.Test.YtfehlbepjmmkeaaGreatDoorXj
namespace Go.Proofs.YtfehlbepjmmkeaaGreatDoor
set_option linter.unusedSimpArgs false
set_option linter.unusedVariables false
open Go.RowKit
namespace Ex
noncomputable section
variable {P:Program}{C:T PF}{φ:Nat→Loc}{dm:Nat→Prop}{bs:List Frame}{s s' s1 s2 r:AS}{fr:Frame}{frs cs:List Frame}{w w':World}
def anL (lo:Nat)(P:Program)(s s':AS):Prop:=∀(φ:Nat→Loc)(dm:Nat→Prop)(bs:List Frame)(fr:Frame)(frs:List Frame)(w:World),ais P φ dm bs s fr frs w→aOu lo P φ dm bs s s' fr frs w
theorem aLG {s0 r:AS}{fr0:Frame}{φ0:Nat→Loc}{dm0:Nat→Prop}{w0:World}(R:ais P φ dm bs s fr frs w)
 (hst:Steps P (lone fr (frs++bs) w) (lone fr0 (frs++bs) w0))(R0:ais P φ0 dm0 (frs++bs) s0 fr0 [] w0)(g0:GrowS s.fr.lo φ dm s.H w φ0 dm0 s0.H w0)(a9S:anL s.fr.lo P s0 r)(aEG:r.cs= [])
 (aBH:r.fr.lo=s.fr.lo):Sim P φ dm bs s {r with cs:=s.cs} fr frs w:=by
 obtain⟨φ1,dm1,fr1,aW7,w1,a1,a2,a3⟩:=a9S _ _ _ _ _ _ R0
 have aW1:aW7= []:=by
  have:=a2.cs
  rw[aEG]at this
  exact this.aOv
 subst aW1
 have G:GrowS s.fr.lo φ dm s.H w φ1 dm1 r.H w1:=g0.trans a3 (aai _)
 refine⟨φ1,dm1,fr1,frs,w1,hst.trans a1,⟨a2.fr,a2.hlo,?_,a2.heap⟩,G⟩
 show Stk P φ1 dm1 r.fr.lo s.cs frs
 rw[aBH]
 exact R.cs.mono G.dms G.ph G.fresh
theorem aXc (E:Ext P){ws:List AS}{k:List AI}(ak5:aqc s=some (ws,k))(h:∀x∈ws,anL s.fr.lo P x r)(aEG:r.cs= [])(aBH:r.fr.lo=s.fr.lo)
 (R:ais P φ dm bs s fr frs w):Sim P φ dm bs s {r with cs:=s.cs} fr frs w:=by
 unfold aqc at ak5
 split at ak5
 ·rename_i hd hm
  have R':=R.plain hd
  have hmode:fr.mode= .run:=by have:=R'.fr.mode;rw[hm]at this;exact this
  have htodo:=R'.fr.todo hm
  split at ak5
  ·rename_i ls kk hk
   injection ak5 with ak5
   injection ak5 with hws hkk
   rw[hk]at htodo
   cases ht:fr.todo with
   |nil=>rw[ht]at htodo;cases htodo
   |cons y ys=>
    rw[ht]at htodo
    cases htodo with
    |cons hy hys=>
     cases y with
     |code c'=>
      have hcc:ae8 P c'= .fork ls:=hy
      have aBq:∃id ops,c'= .region id ops true∧ali P ops= .fork ls:=by
       cases c' with
       |region id ops dr=>
        cases dr with
        |true=>exact⟨id,ops,rfl,by simpa only[ae8]using hcc⟩
        |false=>simp[ae8]at hcc
       |cond o x z=>simp only[ae8]at hcc;split at hcc<;>cases hcc
       |rangeFunc o x z u=>simp only[ae8]at hcc;split at hcc<;>cases hcc
       |_=>simp[ae8]at hcc
      obtain⟨id,ops,rfl,hpd⟩:=aBq
      rcases apm (P:=P) ops with⟨F,hF⟩|hF|hF
      ·rw[hF]at hpd;cases hpd
      ·rw[hF]at hpd;cases hpd
      rw[hF]at hpd
      injection hpd with hls
      obtain⟨t,hst⟩:=aHG (P:=P) (cs:=frs++bs) (w:=w) hmode ht E.mix
      obtain⟨r1,g1⟩:=R'.heap.same (w':=w.drew) rfl rfl rfl rfl
      have hmem:=aBI ops ops.size t (Array.replicate ops.size false)
      have hlt:=a9o ops ops.size t (Array.replicate ops.size false)
      obtain⟨idx,hidx⟩ :∃idx,idx=Region.linearise .any ops t:=⟨_,rfl⟩
      have hmem':idx∈atj ops ops.size (Array.replicate ops.size false):=by rw[hidx];exact hmem
      have hlt':∀i∈idx,i<ops.size:=by rw[hidx];exact hlt
      rw[←hidx]at hst
      obtain⟨s0,hs0⟩ :∃s0:AS,s0={s with fr:={s.fr with todo:= .afm (idx.filterMap fun i=>(ops[i]?).map (ate P ops 0))::kk},cs:=[]}:=⟨_,rfl⟩
      have hsm:s0∈ws:=by
       rw[←hws,←hls,hs0]
       exact aaZ.2 ⟨_,aaZ.2 ⟨idx,hmem',rfl⟩,rfl⟩
      have a9S:=h s0 hsm
      have R0:ais P φ dm (frs++bs) s0 {fr with todo:= .inRegion ops idx::ys} [] w.drew:=by
       rw[hs0]
       exact ajq.x ⟨⟨R'.fr.fn,R'.fr.apl,R'.fr.size,R'.fr.reg,fun _=> .cons (aHK ops idx hlt') hys,R'.fr.ds,R'.fr.mode,R'.fr.kind,R'.fr.round,R'.fr.nd⟩,R'.hlo,.nil,r1⟩
      exact aLG R (.one hst) R0 (by rw[hs0];exact g1.s R.hlo) a9S aEG aBH
     |_=>exact(by first|exact hy.elim|cases hy)
  ·rename_i o l kk hk
   split at ak5
   ·rename_i x hir
    split at ak5
    ·rename_i b hx hg
     split at ak5
     ·contradiction
     ·rename_i aKQ
      injection ak5 with ak5
      injection ak5 with hws hkk
      obtain⟨op,A⟩:=bty R' hm hk (by rw[hg];rfl)
      obtain⟨it,hop,hit⟩:=aLq (A.ir.symm.trans hir)
      obtain⟨ops,i,rest,k0,ht,ho,hw⟩:=A.at_
      obtain⟨e1,e2⟩:=abU R'.rr hit hx
      have hlen:(amW s b (anv s.H b)).length=anv s.H b:=by
       rcases Decidable.em ((amW s b (anv s.H b)).length=anv s.H b)with h|h
       ·exact h
       ·exact absurd (.inr h) aKQ
      obtain⟨j,v,H1,q1,q2,q3⟩:=awG (t:=op.type) R'.heap e2 (fun i hi=>by
       obtain⟨v,H,f1,p1,_⟩:=anX _ hlen i hi
       rw[p1];rfl)
      obtain⟨v',H',f1,p1,p2,p3⟩:=anX _ hlen j q1
      rw[q2]at p1
      injection p1 with p1
      injection p1 with p4 p5
      subst p4 p5
      rw[hws]at p3
      have a9S:=h _ p3
      obtain⟨φ1,dm1,w1,nx,n1,n2,n3,n4,n5⟩:=q3
      have hnd:∀c,op.op≠ .defer c:=by rw[hop];simp
      have hex:(execOp fr.eval op).run P w= .ok nx w1:=by
       rw[←n1,←aoh (s:=s) R'.fr,←e1]
       obtain⟨dst,opp,type,pos,after,guard⟩:=op
       simp only at hop
       subst hop
       rfl
      have hfx:=aqB p2 ((R'.fr.mono n5.dms n5.ph).x (hi:=s.H.next)) n3
      have hst:step P (lone fr (frs++bs) w)= .next (lone (fr.finish (abe φ1 v)) (frs++bs) w1):=by
       rcases n2 with rfl|⟨rfl,rfl⟩
       ·exact arp A.mode ht ho hw (.inr hnd) hex
       ·exact aol A.mode ht ho hw (.inr hnd) hex
      have R0:ais P φ1 dm1 (frs++bs) ⟨f1,[],H1⟩ (fr.finish (abe φ1 v)) [] w1:=⟨hfx.1.aHc n5.next,by show f1.lo≤H1.next;rw[hfx.2];exact aa7 R.hlo n5.next,.nil,n4⟩
      exact aLG R (.one hst) R0 (n5.s R.hlo) a9S aEG aBH
    ·contradiction
   ·contradiction
  ·contradiction
 ·contradiction
def aDs (C:T PF)(d lo:Nat):Nat→AS→Option AS
 |0,s=>some s
 |n+1,s=>match big C d s with
  |some s'=>match Nat.ble lo s'.fr.lo with
   |true=>aDs C d lo n s'
   |false=>none
  |none=>none
theorem aqE (E:Ext P)(hC:Table P C)(d:Nat){lo:Nat}:∀(n:Nat){s s':AS},lo≤s.fr.lo→aDs C d lo n s=some s'→anL lo P s s'∧lo≤s'.fr.lo
 |0,s,s',hl,h=>by
  injection h with h
  subst h
  exact⟨fun φ dm bs fr frs w R=>⟨φ,dm,fr,frs,w,akU P _,R,.refl _ _ _ _ _⟩,hl⟩
 |n+1,s,s',hl,h=>by
  simp only[aDs]at h
  split at h
  ·rename_i s1 h1
   split at h
   ·rename_i hle
    obtain⟨q1,q2⟩:=aqE E hC d n (agQ hle) h
    exact⟨fun φ dm bs fr frs w R=>((aBL E hC d _ _ _ _ _ _ _ _ R h1).low hl).bind fun R1=>q1 _ _ _ _ _ _ R1,q2⟩
   ·contradiction
  ·contradiction
def aO0 (C:T PF)(d lo n:Nat)(k:AS→Bool):AS→Bool:=
 Nat.rec (motive:=fun _=>AS→Bool) k (fun _ ih s=>match hot s with
  |some s'=>match Nat.ble lo s'.fr.lo with
   |true=>ih s'
   |false=>false
  |none=>match aTe C d s with
   |some s'=>match Nat.ble lo s'.fr.lo with
    |true=>aDq s' ih
    |false=>false
   |none=>false) n
theorem atU (C:T PF)(d lo:Nat)(k:AS→Bool):∀(n:Nat)(s:AS),aO0 C d lo n k s=true→∃a,aDs C d lo n s=some a∧k a=true
 |0,s,h=>⟨s,rfl,h⟩
 |n+1,s,h=>by
  have h':(match hot s with
  |some s'=>match Nat.ble lo s'.fr.lo with
   |true=>aO0 C d lo n k s'
   |false=>false
  |none=>match aTe C d s with
   |some s'=>match Nat.ble lo s'.fr.lo with
    |true=>aDq s' (aO0 C d lo n k)
    |false=>false
   |none=>false)=true:=h
  simp only[aOL,aH1]at h'
  simp only[aDs]
  cases hh:hot s with
  |some s'=>
   rw[hh]at h'
   rw[aYE C d hh]
   simp only at h' ⊢
   cases hb:Nat.ble lo s'.fr.lo with
   |true=>rw[hb]at h';exact atU C d lo k n s' h'
   |false=>rw[hb]at h';cases h'
  |none=>
   rw[hh]at h'
   simp only at h'
   cases hg:big C d s with
   |none=>rw[hg]at h';cases h'
   |some s'=>
    rw[hg]at h'
    simp only at h' ⊢
    cases hb:Nat.ble lo s'.fr.lo with
    |true=>rw[hb]at h';exact atU C d lo k n s' h'
    |false=>rw[hb]at h';cases h'
def amA (C:T PF)(d lo n:Nat)(s r:AS):Bool:=Nat.ble lo s.fr.lo&&aO0 C d lo n (fun a=>leS a r) s
theorem adz (E:Ext P)(hC:Table P C){d lo n:Nat}(h:amA C d lo n s r=true):anL lo P s r:=by
 unfold amA at h
 rw[aa6]at h
 obtain⟨a,h1,h2⟩:=atU C d lo _ n s h.2
 obtain⟨q1,q2⟩:=aqE E hC d n (agQ h.1) h1
 intro φ dm bs fr frs w R
 refine(q1 _ _ _ _ _ _ R).bind fun R1=>?_
 obtain⟨r1,r2⟩:=R1.weak (aSK h2)
 exact⟨_,_,_,_,_,akU P _,r1,r2.low q2⟩
def a9W (s:AS):List AS:=match aqc s with
 |some (ws,_)=>ws
 |none=>[]
def way (s:AS)(i:Nat):AS:=(a9W s).getD i s
def afW (C:T PF)(d lo n:Nat)(s:AS):AS:=(aDs C d lo n s).getD s
def aLI (s:AS)(lo n:Nat):Bool:=match aqc s with
 |some (ws,_)=>Nat.beq ws.length n&&Nat.beq s.fr.lo lo
 |none=>false
theorem aTf (E:Ext P){n lo:Nat}(hn:aLI s lo n=true)(h:∀i,i<n→anL lo P (way s i) r)(aEG:r.cs= [])(aBH:r.fr.lo=lo)
 (R:ais P φ dm bs s fr frs w):Sim P φ dm bs s {r with cs:=s.cs} fr frs w:=by
 unfold aLI at hn
 split at hn
 ·rename_i ws k hf
  rw[aa6]at hn
  have h1:=acF hn.1
  have h2:=acF hn.2
  refine aXc E hf (fun x hx=>?_) aEG (aBH.trans h2.symm) R
  obtain⟨i,hi,hx⟩:=aj2 hx
  have:=h i (by omega)
  unfold way a9W at this
  rw[hf]at this
  simp only[abj,aaw hi,ahc,hx]at this
  rw[h2]
  exact this
 ·cases hn
theorem a9Z {n lo:Nat}(hn:aLI s lo n=true):s.fr.lo=lo:=by
 unfold aLI at hn
 split at hn
 ·rw[aa6]at hn
  exact acF hn.2
 ·cases hn
def asB (C:T PF)(d lo n m:Nat)(s:AS):Bool:=Nat.ble lo s.fr.lo&&(match aDs C d lo n s with
 |some a=>aLI a lo m&&(match a.cs with| []=>true|_=>false)
 |none=>false)
theorem amc (E:Ext P)(hC:Table P C){d lo n m:Nat}(ht:asB C d lo n m s=true)(h:∀i,i<m→anL lo P (way (afW C d lo n s) i) r)(aEG:r.cs= [])(aBH:r.fr.lo=lo):anL lo P s r:=by
 unfold asB at ht
 rw[aa6]at ht
 obtain⟨t1,t2⟩:=ht
 split at t2
 ·rename_i a ha
  rw[aa6]at t2
  have hrun:afW C d lo n s=a:=by unfold afW;rw[ha];rfl
  rw[hrun]at h
  obtain⟨q1,q2⟩:=aqE E hC d n (agQ t1) ha
  have hcs:a.cs= []:=by
   have:=t2.2
   split at this
   ·assumption
   ·cases this
  intro φ dm bs fr frs w R
  refine(q1 _ _ _ _ _ _ R).bind fun R1=>?_
  have:=(aTf E t2.1 h aEG aBH R1).low (lo:=lo) (by rw[a9Z t2.1];exact aai _)
  rw[hcs]at this
  have hr:({r with cs:=[]}:AS)=r:=by
   obtain⟨a,b,c⟩:=r
   simp only at aEG
   subst aEG
   rfl
  rw[hr]at this
  exact this
 ·cases t2
def aLJ (C:T PF)(d lo n m:Nat)(s:AS):Bool:=match aDs C d 0 n s with
 |some a=>aLI a lo m
 |none=>false
theorem aIM (E:Ext P)(hC:Table P C){d lo n m:Nat}(ht:aLJ C d lo n m s=true)(h:∀i,i<m→anL lo P (way (afW C d 0 n s) i) r)(aEG:r.cs= [])(aBH:r.fr.lo=lo):Reach P s {r with cs:=(afW C d 0 n s).cs}:=by
 unfold aLJ at ht
 split at ht
 ·rename_i a ha
  have hrun:afW C d 0 n s=a:=by unfold afW;rw[ha];rfl
  rw[hrun]at h ⊢
  obtain⟨q1,q2⟩:=aqE E hC d n (ab6 _) ha
  intro φ dm bs fr frs w R
  exact(q1 _ _ _ _ _ _ R).bind fun R1=>(aTf E ht h aEG aBH R1).low (ab6 _)
 ·cases ht
end
end Ex
end Go.Proofs.YtfehlbepjmmkeaaGreatDoor
