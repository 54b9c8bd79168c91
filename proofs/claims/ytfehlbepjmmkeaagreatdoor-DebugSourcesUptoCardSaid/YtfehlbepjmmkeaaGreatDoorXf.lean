/-
  DERIVED. An abstract machine, and that its runs are runs of the model: part 6 of 11. No condition.
-/
import Derived.Test.YtfehlbepjmmkeaaGreatDoorXe
namespace Go.Proofs.YtfehlbepjmmkeaaGreatDoor
set_option linter.unusedSimpArgs false
set_option linter.unusedVariables false
open Go.RowKit
namespace Ex
noncomputable section
variable {P:Program}{C:T PF}{φ:Nat→Loc}{dm:Nat→Prop}{bs:List Frame}{s s':AS}{fr:Frame}{frs cs:List Frame}{w w':World}{k:List Item}{g:Nat→Option AV}{a:Act}{H H':AH}{v:AV}
theorem a1G {o:Oper}{ir:IR}(h:ag7 P o.op=ir)(hc:ir.cls=3){K K':AH}{lo:Nat}(A:arj dm K K' H H')(hlo:lo≤K.next)(hv:acA g K ir=some (v,K'))(R:RR φ dm g a)(hr:Rel P φ dm H w):
 GoodS lo K.next P φ dm H w ((execOp a.eval o).run P w) v H':=by
 obtain⟨dst,op,type,pos,after,guard⟩:=o
 simp only at h
 cases op
 case alloc t=>
  simp only[ag7]at h
  split at h
  ·rename_i l h1;subst h;exact a6R h1 A hlo hv hr
  ·subst h;simp[IR.cls]at hc
 case box t x=>
  simp only[ag7]at h
  split at h
  ·rename_i u h1;subst h;exact a6W h1 A hlo hv R hr
  ·subst h;simp[IR.cls]at hc
 case buildSlice t n parts=>
  simp only[ag7]at h
  split at h
  ·rename_i e h1
   split at h
   ·rename_i s z h2 h3
    split at h
    ·rename_i ps h4
     split at h
     ·rename_i h5;subst h;exact a6Y h1 h2 h3 h4 h5 A hlo hv R hr
     ·subst h;simp[IR.cls]at hc
    ·subst h;simp[IR.cls]at hc
   ·subst h;simp[IR.cls]at hc
  ·subst h;simp[IR.cls]at hc
 case makeSlice t l c=>
  simp only[ag7]at h
  split at h
  ·rename_i e h1
   split at h
   ·rename_i s z l' c' h2 h3 h4 h5
    split at h
    ·rename_i h6;subst h;exact aRL h1 h2 h3 h4 h5 h6 A hlo hv R hr
    ·subst h;simp[IR.cls]at hc
   ·subst h;simp[IR.cls]at hc
  ·subst h;simp[IR.cls]at hc
 case makeMap t r=>
  cases r with
  |none=>simp only[ag7]at h;subst h;exact avH A hlo hv hr
  |some r=>
   simp only[ag7]at h
   split at h
   ·rename_i k e u h1 h2;subst h;exact avM h1 h2 A hlo hv R hr
   ·subst h;simp[IR.cls]at hc
 case slice t x lo hi mx=>
  cases mx with
  |some m=>simp only[ag7]at h;subst h;simp[IR.cls]at hc
  |none=>
   simp only[ag7]at h
   repeat' split at h
   all_goals (subst h;simp[IR.cls]at hc)
 case next it b=>
  cases b with
  |true=>simp only[ag7]at h;subst h;simp[IR.cls]at hc
  |false=>
   simp only[ag7]at h
   repeat' split at h
   all_goals (subst h;simp[IR.cls]at hc)
 all_goals
  simp only[ag7]at h
  first
   |(subst h;simp[IR.cls]at hc;done)
   |(repeat' split at h
     all_goals (subst h;simp[IR.cls]at hc))
theorem aWZ {ir:IR}(h:acA g H ir=some (v,H'))(hc:ir.cls=1):H'=H:=by
 cases ir<;>first|(simp[IR.cls]at hc;done)|skip
 all_goals
  simp only[acA]at h
  repeat' split at h
  all_goals first
   |contradiction
   |(injection h with h;injection h with _ h;exact h.symm)
theorem aSb {ir:IR}(hc:ir.cls≠2):ir.once=true:=by
 cases ir<;>first|rfl|(exact absurd rfl hc)
theorem au5 (E:Ext P){op:Oper}{ir:IR}(hir:ir=apg P op.op)(R:RR φ dm g a)(hr:Rel P φ dm H w)(ho:ir.once=true)(hv:acA g H ir=some (v,H')):Good P φ dm H w ((execOp a.eval op).run P w) v H':=by
 rcases anU hir.symm with⟨x,hx1,hx2⟩|hx
 ·rw[hx2]at hv
  simp only[acA]at hv
  split at hv
  ·rename_i u hu
   injection hv with hv
   injection hv with h1 h2
   subst h1 h2
   obtain⟨e1,e2⟩:=aCt (P:=P) hx1 R hu w
   exact Good.still e1 e2 hr
  ·contradiction
 ·exact aCP E hx ho hv R hr
theorem arU {op:Op}(ho:(apg P op).once=true):∀c,op≠ .defer c:=by
 intro c hc
 rw[hc]at ho
 have:aqw P (.defer c)=none:=rfl
 simp only[apg,this,ag7]at ho
 split at ho
 ·split at ho<;>simp[IR.once]at ho
 ·simp[IR.once]at ho
theorem aBt {ops:Array Oper}{o:Oper}{tmps:Array Value}{b:Bool}(h:wanted g (guardOf ops o)=some b)(R:∀t v,g t=some v→tmps.getD t undef=abe φ v):Region.wanted o (yielded ops tmps)=b:=by
 unfold guardOf at h
 unfold Region.wanted
 cases hg:o.guard with
 |none=>rw[hg]at h;simpa[wanted]using h
 |some gw=>
  obtain⟨j,want⟩:=gw
  rw[hg]at h
  simp only at h ⊢
  cases hd:(ops[j]?).bind (·.dst)with
  |none=>
   rw[hd]at h
   simp[wanted]at h
  |some d=>
   rw[hd]at h
   simp only[wanted]at h
   split at h
   ·rename_i c hc
    injection h with h
    have h2:=R d _ hc
    have h3:tmps[d]? =some (.bool c):=by
     simp only[acR,abe]at h2
     cases hx:tmps[d]? with
     |none=>rw[hx]at h2;simp[undef]at h2
     |some y=>rw[hx]at h2;simp at h2;rw[h2]
    have hy:yielded ops tmps j=some c:=by simp[yielded,hd,h3]
    rw[hy,←h]
    cases c<;>cases want<;>rfl
   ·rename_i hc
    injection h with h
    have h2:=R d _ hc
    have hy:yielded ops tmps j=none:=by
     simp only[acR,abe,ab2]at h2
     simp only[yielded,hd,ags]
     cases hx:tmps[d]? with
     |none=>rfl
     |some y=>rw[hx]at h2;simp at h2;rw[h2]
    rw[hy,←h]
    rfl
   ·contradiction
section
variable {hi lo nt:Nat}{d:DS}{ops:Array Oper}{idx l:List Nat}{tmps:Array Value}{F pre:List DO}{e:DO}
theorem ajh.rr (D:ajh P φ dm hi lo nt d ops (e.i::l) tmps F pre)(he:e∈d.cur.toList++d.rest)(hF:e∈F):∀t v,only e.rs d.ρ t=some v→sc dm v∧tmps.getD t undef=abe φ v:=by
 intro t v ht
 unfold only at ht
 split at ht
 ·rename_i hrs
  refine D.reg t v ht fun p hp hpi hpd=>?_
  obtain⟨x,hx1,hx2,hx3,hx4⟩:=D.pin p hp
  have:=atB (D.pairs x hx1 e he) (.inl (by rw[hx3,hpd];exact hrs))
  rw[hx2]at this
  exact D.lin.1 e hF rfl _ this hpi
 ·contradiction
theorem ajh.rrP (D:ajh P φ dm hi lo nt d ops (e.i::l) tmps F pre){p:Pd}(hp:p∈d.pend)(hpi:p.i=e.i)(hF:e∈F)(ho:e.o=p.o):∀t v,p.g t=some v→sc dm v∧tmps.getD t undef=abe φ v:=by
 intro t v ht
 refine D.rp p hp (by rw[hpi];simp) t v ht fun q hq hqi haf=>?_
 rw[←ho]at haf
 exact absurd hqi (D.lin.1 e hF rfl _ haf)
theorem ajh.caught (D:ajh P φ dm hi lo nt d ops (e.i::l) tmps F pre){p:Pd}(hp:p∈d.pend)(hpi:p.i=e.i)(hF:e∈F)(hpre:e∈pre)(ho:e.o=p.o)(hn:nt≤tmps.size){φ':Nat→Loc}{dm':Nat→Prop}(hd:∀b,dm b→dm' b)(hph:∀b,dm b→φ' b=φ b)
 (hv:sc dm' p.v)(hfresh:∀c,dm' c→dm c∨hi≤c∨∃x,p.al=some (c,x)):ajh P φ' dm' hi lo nt d ops l (aBd tmps p.o.dst (abe φ' p.v)) F pre:=by
 obtain⟨M,hM1,hM2⟩:=D.M
 have hil:e.i∉l:=D.lin.2.1
 have hpd:=D.ayg p hp
 refine
 {ok:=D.ok,lin:=D.lin.2.2,cover:=fun i hi'=>D.cover i (abq _ hi'),aft:=D.aft,inj:=D.inj,split:=D.split,M:=⟨M,hM1,hM2⟩,pairs:=D.pairs
  todo:=fun y hy=>?_
  done:=fun x hx hxi=>D.done x hx (abq _ hxi)
  pin:=D.pin,ayg:=D.ayg,one:=D.one,aA7:=D.aA7,a1:=D.a1,a2:=D.a2,pok:=D.pok
  res:=fun q hq hqi b x hb=>?_
  reg:=fun t u hu hno=>?_
  rp:=fun q hq hqi t u hu hno=>?_
  ayh:=fun q hq q' hq' hqi a8I=>D.ayh q hq q' hq' (abq _ hqi) (abq _ a8I)}
 ·have h1:=D.todo y hy
  refine(abb.1 h1).resolve_left fun hye=>?_
  have:=aok hM2 y hy
  rw[hye,(hM1 e.i).2 ⟨e,hpre,rfl⟩]at this
  cases this
 ·obtain⟨h1,h2,h3⟩:=D.res q hq (abq _ hqi) b x hb
  refine⟨fun hdb=>?_,h2,h3⟩
  rcases hfresh b hdb with h4|h4|⟨x',h4⟩
  ·exact h1 h4
  ·omega
  ·have:=D.ayh p hp q hq (by rw[hpi];simp) (abq _ hqi) b x' b x h4 hb rfl
   rw[hpi]at this
   exact hil (this▸hqi)
 ·rw[ayk hpd hn]
  by_cases hpt:p.o.dst=some t
  ·rw[if_pos hpt]
   have:=D.a1 p hp t hpt
   rw[hu]at this
   injection this with this
   subst this
   exact⟨hv,rfl⟩
  ·rw[if_neg hpt]
   obtain⟨h1,h2⟩:=D.reg t u hu fun q hq hqi=>by
    rcases abb.1 hqi with hqe|hqi
    ·rw[D.one q hq p hp (hqe.trans hpi.symm)];exact hpt
    ·exact hno q hq hqi
   exact⟨ajD hd u h1,by rw[ahS hph u h1];exact h2⟩
 ·rw[ayk hpd hn]
  by_cases hpt:p.o.dst=some t
  ·rw[if_pos hpt]
   have hne:p.i≠q.i:=by rw[hpi];rintro h;exact hil (h▸hqi)
   rcases D.a2 p hp q hq hne t u hpt hu with⟨_,h2⟩|h2
   ·rw[h2];exact⟨hv,rfl⟩
   ·rw[←ho]at h2
    exact absurd (abq _ hqi) (D.lin.1 e hF rfl _ h2)
  ·rw[if_neg hpt]
   obtain⟨h1,h2⟩:=D.rp q hq (abq _ hqi) t u hu fun q' hq' a8I haf=>by
    rcases abb.1 a8I with hqe|a8I
    ·rw[D.one q' hq' p hp (hqe.trans hpi.symm)];exact hpt
    ·exact hno q' hq' a8I haf
   exact⟨ajD hd u h1,by rw[ahS hph u h1];exact h2⟩
theorem aHw {i:Nat}{op:Oper}{u:Value}(ht:fr.todo= .inRegion ops (i::l)::k)(ho:ops[i]? =some op):fr.finish u={fr with tmps:=aBd fr.tmps op.dst u,todo:= .inRegion ops l::k}:=by
 simp only[Frame.finish,ht,ho,ags]
 cases op.dst<;>rfl
theorem btL (E:Ext P)(hm:fr.mode= .run)(ht:fr.todo= .inRegion ops (e.i::l)::k)(D:ajh P φ dm hi lo nt d ops (e.i::l) fr.tmps F pre)(hn:nt≤fr.tmps.size)(hr:Rel P φ dm H w)(hhi:hi≤H.next)(a8L:lo≤H.next){p:Pd}(hp:p∈d.pend)(hpi:p.i=e.i)(hF:e∈F)(hpre:e∈pre)(ho:e.o=p.o)
 (hok:ap7 H p=true):∃φ' dm' w' tmps',step P (lone fr cs w)= .next (lone {fr with tmps:=tmps',todo:= .inRegion ops l::k} cs w')∧Rel P φ' dm' H w'∧GrowS lo φ dm H w φ' dm' H w'∧ajh P φ' dm' hi lo nt d ops l tmps' F pre∧nt≤tmps'.size:=by
 obtain⟨op,ho1,ho2,ho3,ho4⟩:=D.ok e hF
 have hrr:=D.rrP hp hpi hF ho
 have hwr:∀b,wanted p.g p.o.guard=some b→Region.wanted op (yielded ops fr.tmps)=b:=fun b hb=>aBt (φ:=φ) (by rw[←ho3,ho];exact hb) fun t v h=>(hrr t v h).2
 have RRp:RR φ dm p.g ⟨fr.tmps,fr.defers⟩:=⟨hrr,hr.glob⟩
 have heval:(Act.mk fr.tmps fr.defers).eval=fr.eval:=by funext x;cases x<;>rfl
 have fin:∀{nx:Next}{φ':Nat→Loc}{dm':Nat→Prop}{w':World},wanted p.g p.o.guard=some true→(execOp fr.eval op).run P w= .ok nx w'→(nx= .value (abe φ' p.v)∨(nx= .skip∧p.v= .tup []))→sc dm' p.v→Rel P φ' dm' H w'→GrowS lo φ dm H w φ' dm' H w'→
  (∀c,dm' c→dm c∨hi≤c∨∃x,p.al=some (c,x))→p.o.ir.once=true→
  ∃φ' dm' w' tmps',step P (lone fr cs w)= .next (lone {fr with tmps:=tmps',todo:= .inRegion ops l::k} cs w')∧Rel P φ' dm' H w'∧GrowS lo φ dm H w φ' dm' H w'∧ajh P φ' dm' hi lo nt d ops l tmps' F pre∧nt≤tmps'.size:=by
  intro nx φ' dm' w' hw hx hnx hsc hr' hg hf aHx
  have hnd:=arU (P:=P) (op:=op.op) (by rw[←ho4,ho];exact aHx)
  refine⟨φ',dm',w',aBd fr.tmps p.o.dst (abe φ' p.v),?_,hr',hg,D.caught hp hpi hF hpre ho hn hg.dms hg.ph hsc hf,by rw[auU];exact hn⟩
  have hfin:=aHw (u:=abe φ' p.v) ht ho1
  rw[←ho2,ho]at hfin
  rw[←hfin]
  rcases hnx with rfl|⟨rfl,hv⟩
  ·exact arp hm ht ho1 (hwr true hw) (.inr hnd) hx
  ·rw[hv];exact aol hm ht ho1 (hwr true hw) (.inr hnd) hx
 have aOs:=D.pok p hp
 unfold bdn at aOs
 unfold ap7 at hok
 cases hal:p.al with
 |none=>
  rw[hal]at aOs hok
  simp only at aOs hok
  rcases aOs with⟨hw,hv⟩|⟨hw,hc|⟨x,hx1,hx2⟩⟩
  ·refine⟨φ,dm,w,aBd fr.tmps p.o.dst (abe φ p.v),?_,hr,.refl _ _ _ _ _,D.caught hp hpi hF hpre ho hn (fun _ h=>h) (fun _ _=>rfl) (by rw[hv];simp[sc,scL]) (fun c h=> .inl h),by rw[auU];exact hn⟩
   have hfin:=aHw (u:=abe φ p.v) ht ho1
   rw[←ho2,ho]at hfin
   rw[←hfin,hv]
   exact aKR hm ht (by rw[ho1];exact hwr false hw)
  ·rw[hc]at hok
   simp only[hw]at hok
   split at hok
   ·rename_i v1 H1 hv1
    have:=amd hok
    subst this
    have:=aWZ hv1 hc
    subst this
    have ho':p.o.ir.once=true:=aSb (by rw[hc];decide)
    obtain⟨φ',dm',w',nx,e1,e2,e3,e4,e5⟩:=au5 E (op:=op) (by rw[←ho4,ho]) RRp hr ho' hv1
    rw[heval]at e1
    exact fin hw e1 e2 e3 e4 (e5.s a8L) (fun c hc=>(e5.fresh c hc).imp id fun h=> .inl (aa7 hhi h)) ho'
   ·cases hok
  ·have hv1:acA p.g H p.o.ir=some (p.v,H):=by rw[hx1];simp only[acA,hx2]
   have ho':p.o.ir.once=true:=by rw[hx1];rfl
   obtain⟨φ',dm',w',nx,e1,e2,e3,e4,e5⟩:=au5 E (op:=op) (by rw[←ho4,ho]) RRp hr ho' hv1
   rw[heval]at e1
   exact fin hw e1 e2 e3 e4 (e5.s a8L) (fun c hc=>(e5.fresh c hc).imp id fun h=> .inl (aa7 hhi h)) ho'
 |some bx=>
  obtain⟨b,x⟩:=bx
  rw[hal]at aOs hok
  simp only at aOs hok
  obtain⟨hw,hc,K,hK1,hK2⟩:=aOs
  split at hok
  ·rename_i y hy
   have hxy:=btm hok
   subst hxy
   obtain⟨r1,r2,r3⟩:=D.res p hp (by rw[hpi];simp) b x hal
   have A:arj dm ⟨.E,b⟩ K H H:=⟨r1,fun k=>by
    by_cases hk:k=b
    ·subst hk;rw[if_pos rfl,hy,hK2]
    ·rw[if_neg hk],aai _,acG r2 hhi⟩
   have ho':p.o.ir.once=true:=aSb (by rw[hc];decide)
   have hpm:ag7 P op.op=p.o.ir:=by
    rw[←ho,ho4]
    rcases anU (P:=P) (op:=op.op) rfl with⟨z,_,hz⟩|hz
    ·rw[←ho,ho4,hz]at hc;simp[IR.cls]at hc
    ·exact hz
   obtain⟨φ',dm',w',nx,e1,e2,e3,e4,e5,e6⟩:=a1G hpm hc A r3 hK1 RRp hr
   rw[heval]at e1
   exact fin hw e1 e2 e3 e4 e5 (fun c hc=>(e6 c hc).imp id fun h=> .inr ⟨x,by rw[h];exact hal⟩) ho'
  ·cases hok
theorem aEW (E:Ext P)(hc:d.cur=none)(hok:∀p∈d.pend,ap7 H p=true)(hhi:hi≤H.next)(a8L:lo≤H.next):∀(idx:List Nat){φ:Nat→Loc}{dm:Nat→Prop}{w:World}{fr:Frame},fr.mode= .run→fr.todo= .inRegion ops idx::k→ajh P φ dm hi lo nt d ops idx fr.tmps F pre→nt≤fr.tmps.size→Rel P φ dm H w→
 ∃φ' dm' w' tmps' idx',Steps P (lone fr cs w) (lone {fr with tmps:=tmps',todo:= .inRegion ops idx'::k} cs w')∧Rel P φ' dm' H w'∧GrowS lo φ dm H w φ' dm' H w'∧ajh P φ' dm' hi lo nt d ops idx' tmps' F pre∧nt≤tmps'.size∧
  (idx'= []∨∃x∈d.rest,∃l,idx'=x.i::l∧∀j,x.o.after.testBit j=true→∃z∈pre,z.i=j)
 | [],φ,dm,w,fr,hm,ht,D,hn,hr=>⟨φ,dm,w,fr.tmps,[],by rw[←ht];exact akU P _,hr,.refl _ _ _ _ _,D,hn,.inl rfl⟩
 |i::l,φ,dm,w,fr,hm,ht,D,hn,hr=>by
  obtain⟨x,hx1,hx2⟩:=D.cover i (by simp)
  subst hx2
  have hsp:=D.split
  rw[hc]at hsp
  simp only[Option.toList,adt]at hsp
  have bED:=hx1
  rw[hsp]at bED
  rcases aaG.1 bED with hx|hx
  ·obtain⟨p,hp1,hp2⟩:=D.done x hx (by simp)
   obtain⟨x',bEE,bEF,bEG,_⟩:=D.pin p hp1
   have hxx:x'=x:=D.inj x' (by rw[hsp];simp[bEE]) x hx1 (bEF.trans hp2)
   subst hxx
   obtain⟨φ1,dm1,w1,aHy,s1,r1,g1,D1,n1⟩:=btL (cs:=cs) E hm ht D hn hr hhi a8L hp1 hp2 hx1 hx bEG (hok p hp1)
   obtain⟨φ2,dm2,w2,aSe,a8M,s2,r2,g2,D2,n2,q2⟩:=aEW E hc hok hhi a8L l (fr:={fr with tmps:=aHy,todo:= .inRegion ops l::k}) (by exact hm) rfl D1 n1 r1
   exact⟨φ2,dm2,w2,aSe,a8M,(Steps.one s1).trans s2,r2,g1.trans g2 (aai _),D2,n2,q2⟩
  ·refine⟨φ,dm,w,fr.tmps,x.i::l,by rw[←ht];exact akU P _,hr,.refl _ _ _ _ _,D,hn,.inr ⟨x,hx,l,rfl,fun j hj=>?_⟩⟩
   obtain⟨z,hz1,hz2⟩:=D.aft x hx1 j hj
   rw[hsp]at hz1
   rcases aaG.1 hz1 with hz|hz
   ·exact⟨z,hz,hz2⟩
   ·have:=D.todo z (by rw[hc];simp[hz])
    rw[hz2]at this
    exact absurd this (D.lin.1 x hx1 rfl j hj)
end
end
end Ex
namespace Ex
noncomputable section
variable {P:Program}{C:T PF}{φ:Nat→Loc}{dm:Nat→Prop}{bs:List Frame}{s s':AS}{fr:Frame}{frs cs:List Frame}{w w':World}{k:List Item}{g:Nat→Option AV}{a:Act}{H H':AH}{v:AV}
variable {hi lo nt:Nat}{d:DS}{ops:Array Oper}{idx l:List Nat}{tmps:Array Value}{F pre:List DO}{e:DO}{rest:List DO}
theorem ajh.ahead (D:ajh P φ dm hi lo nt d ops idx tmps F pre)(hc:d.cur=none)(hr:d.rest=e::rest)(hok:apn nt e.o.dst=true){al:Option (Nat×afp)}(aOs:bdn ⟨e.i,e.o,only e.rs d.ρ,v,al⟩)
 {hi':Nat}(hh:hi≤hi')(hal:∀b x,al=some (b,x)→¬dm b∧b=hi∧b<hi'∧lo≤b):
 ajh P φ dm hi' lo nt {ρ:=Ex.reg d.ρ e.o.dst v,pend:=⟨e.i,e.o,only e.rs d.ρ,v,al⟩::d.pend,rest,cur:=none} ops idx tmps F (pre++ [e]):=by
 obtain⟨M,hM1,hM2⟩:=D.M
 rw[hc,hr]at hM2
 simp only[Option.toList,adt]at hM2
 have hcur:d.cur.toList++d.rest=e::rest:=by rw[hc,hr];rfl
 have heF:e∈F:=by rw[D.split,hcur];simp
 have hM3:=hM2
 simp only[awC,aa6,acg]at hM3
 have awR:∀p∈d.pend,∃x∈pre,x.i=p.i∧x.o=p.o∧axT x e=true∧∀t v,p.g t=some v→aNS x.rs (some t)=true:=fun p hp=>by
  obtain⟨x,hx1,hx2,hx3,hx4⟩:=D.pin p hp
  exact⟨x,hx1,hx2,hx3,D.pairs x hx1 e (by rw[hcur];simp),hx4⟩
 have hpi:∀p∈d.pend,p.i≠e.i:=by
  intro p hp he
  obtain⟨x,hx1,hx2,_⟩:=D.pin p hp
  have:=aok hM2 e (by simp)
  rw[←he,←hx2,(hM1 x.i).2 ⟨x,hx1,rfl⟩]at this
  cases this
 have a7S:∀p∈d.pend,∀t,p.o.dst=some t→e.o.dst≠some t:=fun p hp t ht=>by
  obtain⟨x,_,_,hx3,hx5,_⟩:=awR p hp
  exact aKW hx5 (by rw[hx3];exact ht)
 have a8N:∀t u,only e.rs d.ρ t=some u→aNS e.rs (some t)=true∧d.ρ.get t=some u:=fun t u ht=>by
  unfold only at ht
  split at ht
  ·rename_i h;exact⟨h,ht⟩
  ·contradiction
 refine
 {ok:=D.ok,lin:=D.lin,cover:=D.cover,aft:=D.aft,inj:=D.inj
  split:=by rw[D.split,hcur];simp
  M:=⟨M|||2^e.i,fun j=>?_,by simpa using hM3.2⟩
  pairs:=fun x hx y hy=>?_
  todo:=fun y hy=>D.todo y (by rw[hcur];simp only[Option.toList,adt]at hy;simp[hy])
  done:=fun x hx hxi=>?_
  pin:=fun p hp=>?_
  ayg:=fun p hp=>?_
  one:=fun p hp q hq he=>?_
  aA7:=fun p hp q hq t hpt hqt=>?_
  a1:=fun p hp t ht=>?_
  a2:=fun p hp q hq hne t u hpt hqt=>?_
  pok:=fun p hp=>?_
  res:=fun p hp aEF b x hb=>?_
  reg:=fun t u hu hno=>?_
  rp:=fun q hq hqi t u hu hno=>?_
  ayh:=fun p hp q hq hp' hq' b x b' x' hb hb' he=>?_}
 ·rw[testBit_add,hM1]
  constructor
  ·rintro(⟨x,hx1,hx2⟩|hj)
   ·exact⟨x,by simp[hx1],hx2⟩
   ·exact⟨e,by simp,hj⟩
  ·rintro⟨x,hx1,hx2⟩
   rcases aaG.1 hx1 with hx|hx
   ·exact .inl ⟨x,hx,hx2⟩
   ·rw[aaW]at hx;subst hx;exact .inr hx2
 ·simp only[Option.toList,adt]at hy
  rcases aaG.1 hx with hx|hx
  ·exact D.pairs x hx y (by rw[hcur];simp[hy])
  ·rw[aaW]at hx;subst hx;exact hM3.1.2 y hy
 ·rcases aaG.1 hx with hx|hx
  ·obtain⟨p,hp1,hp2⟩:=D.done x hx hxi
   exact⟨p,abq _ hp1,hp2⟩
  ·rw[aaW]at hx;subst hx;exact⟨_,ac2,rfl⟩
 ·rcases abb.1 hp with rfl|hp
  ·exact⟨e,by simp,rfl,rfl,fun t u ht=>(a8N t u ht).1⟩
  ·obtain⟨x,hx1,hx2⟩:=D.pin p hp
   exact⟨x,by simp[hx1],hx2⟩
 ·rcases abb.1 hp with rfl|hp
  ·exact hok
  ·exact D.ayg p hp
 ·rcases abb.1 hp with rfl|hp<;>rcases abb.1 hq with rfl|hq
  ·rfl
  ·exact absurd he.symm (hpi q hq)
  ·exact absurd he (hpi p hp)
  ·exact D.one p hp q hq he
 ·rcases abb.1 hp with rfl|hp<;>rcases abb.1 hq with rfl|hq
  ·rfl
  ·exact absurd hpt (a7S q hq t hqt)
  ·exact absurd hqt (a7S p hp t hpt)
  ·exact D.aA7 p hp q hq t hpt hqt
 ·show(Ex.reg d.ρ e.o.dst v).get t=_
  rw[aEU hok]
  rcases abb.1 hp with rfl|hp
  ·rw[if_pos ht]
  ·rw[if_neg (a7S p hp t ht)];exact D.a1 p hp t ht
 ·rcases abb.1 hp with rfl|hp<;>rcases abb.1 hq with rfl|hq
  ·exact absurd rfl hne
  ·obtain⟨x,hx1,hx2,hx3,hx5,hx6⟩:=awR q hq
   refine .inr ?_
   have:=atB hx5 (.inr (by rw[hpt];exact hx6 t u hqt))
   rw[hx2]at this
   exact this
  ·obtain⟨x,hx1,hx2,hx3,hx5,hx6⟩:=awR p hp
   obtain⟨h1,h2⟩:=a8N t u hqt
   refine .inl ⟨?_,?_⟩
   ·have:=atB hx5 (.inl (by rw[hx3,hpt];exact h1))
    rw[hx2]at this
    exact this
   ·have:=D.a1 p hp t hpt
    rw[h2]at this
    injection this
  ·exact D.a2 p hp q hq hne t u hpt hqt
 ·rcases abb.1 hp with rfl|hp
  ·exact aOs
  ·exact D.pok p hp
 ·rcases abb.1 hp with rfl|hp
  ·obtain⟨h1,h2,h3,h4⟩:=hal b x hb
   exact⟨h1,h3,h4⟩
  ·obtain⟨h1,h2,h3⟩:=D.res p hp aEF b x hb
   exact⟨h1,acG h2 hh,h3⟩
 ·have hu':(Ex.reg d.ρ e.o.dst v).get t=some u:=hu
  have het:e.o.dst≠some t:=hno _ ac2 (D.todo e (by rw[hcur];simp))
  rw[aEU hok,if_neg het]at hu'
  exact D.reg t u hu' fun p hp=>hno p (abq _ hp)
 ·rcases abb.1 hq with rfl|hq
  ·obtain⟨h1,h2⟩:=a8N t u hu
   refine D.reg t u h2 fun p hp aEF hpt=>?_
   obtain⟨x,hx1,hx2,hx3,hx5,hx6⟩:=awR p hp
   have:=atB hx5 (.inl (by rw[hx3,hpt];exact h1))
   rw[hx2]at this
   exact hno p (abq _ hp) aEF this hpt
  ·exact D.rp q hq hqi t u hu fun p hp=>hno p (abq _ hp)
 ·rcases abb.1 hp with rfl|hp<;>rcases abb.1 hq with rfl|hq
  ·rfl
  ·obtain⟨h1,h2,h3,h4⟩:=hal b x hb
   have:=(D.res q hq hq' b' x' hb').2.1
   omega
  ·obtain⟨h1,h2,h3,h4⟩:=hal b' x' hb'
   have:=(D.res p hp hp' b x hb).2.1
   omega
  ·exact D.ayh p hp q hq hp' hq' b x b' x' hb hb' he
theorem Rel.keep (hr:Rel P φ dm H w)(hl:H.next<LIM)(x:afp):Rel P φ dm (H.add x) w:=by
 have hg:∀k,(H.add x).bl.get k=if k=H.next then some x else H.bl.get k:=fun k=>akb _ _ _ _ hl
 have hne:∀k,dm k→k≠H.next:=fun k hk he=>af9 _ (he▸hr.next k hk)
 refine⟨fun b y hb hd=>hr.blk b y (by rw[hg,if_neg (hne b hd)]at hb;exact hb) hd,
  fun b b' y y' hb hb' hd hd'=>hr.inj b b' y y' (by rw[hg,if_neg (hne b hd)]at hb;exact hb) (by rw[hg,if_neg (hne b' hd')]at hb';exact hb') hd hd',
  fun b hb=>Nat.lt_succ_of_lt (hr.next b hb),hr.glob,fun b m left cur hb hd=>?_,fun b m left cur b' left' cur' hb hd hb' hd'=>?_⟩
 ·rw[hg,if_neg (hne b hd)]at hb
  obtain⟨q1,ents,q2⟩:=hr.iterAt hb hd
  exact⟨ents,by rw[hg,if_neg (hne m q1)];exact q2⟩
 ·rw[hg,if_neg (hne b hd)]at hb
  rw[hg,if_neg (hne b' hd')]at hb'
  exact hr.uniq b m left cur b' left' cur' hb hd hb' hd'
theorem aOt (hr:Rel P φ dm H w)(D:ajh P φ dm H.next lo nt d ops idx tmps F pre)(hc:d.cur=none)(hrest:d.rest=e::rest)(hlo:lo≤H.next){d':DS}(h:atA nt d H e rest=some (d',H')):
 Rel P φ dm H' w∧ajh P φ dm H'.next lo nt d' ops idx tmps F (pre++ [e])∧d'.cur=none∧H.next≤H'.next∧GrowS lo φ dm H w φ dm H' w:=by
 unfold atA at h
 simp only at h
 split at h
 case isFalse=>contradiction
 rename_i hok
 have same:∀(v:AV),bdn ⟨e.i,e.o,only e.rs d.ρ,v,none⟩→some ({ρ:=reg d.ρ e.o.dst v,pend:=⟨e.i,e.o,only e.rs d.ρ,v,none⟩::d.pend,rest,cur:=none},H)=some (d',H')→
  Rel P φ dm H' w∧ajh P φ dm H'.next lo nt d' ops idx tmps F (pre++ [e])∧d'.cur=none∧H.next≤H'.next∧GrowS lo φ dm H w φ dm H' w:=by
  intro v hp h
  injection h with h
  injection h with h1 h2
  subst h1 h2
  exact⟨hr,D.ahead hc hrest hok hp (aai _) (fun b x h=>by cases h),rfl,aai _,.refl _ _ _ _ _⟩
 split at h
 ·rename_i hw
  exact same _ (.inl ⟨hw,rfl⟩) h
 ·rename_i hw
  split at h
  ·contradiction
  ·rename_i hcls
   split at h
   ·rename_i v K hv
    split at h
    ·rename_i x hx
     split at h
     ·rename_i hlim
      injection h with h
      injection h with h1 h2
      subst h1 h2
      refine⟨hr.keep hlim x,D.ahead hc hrest hok (al:=some (H.next,x)) (v:=v) (show _∧_∧_ from ⟨hw,hcls,K,hv,hx⟩) (ab5 _) (fun b y hb=>?_),rfl,ab5 _,⟨fun _ h=>h,fun _ _=>rfl,rfl,rfl,rfl,aai _,fun _ _ _=>rfl,fun i ⟨b,y,hb,hd,he⟩=> .inr ?_,ab5 _,fun _ h=> .inl h⟩⟩
      ·injection hb with hb
       injection hb with hb _
       subst hb
       exact⟨fun hd=>af9 _ (hr.next _ hd),rfl,aeQ _,hlo⟩
      ·have hb':(T.set (some x) FUEL H.bl H.next).get b=some y:=hb
       rw[akb _ _ _ _ hlim,if_neg (fun he:b=H.next=>af9 _ (he▸hr.next b hd))]at hb'
       exact⟨b,y,hb',hd,he⟩
     ·contradiction
    ·contradiction
   ·contradiction
  ·rename_i hn2 hn3
   split at h
   ·rename_i v K hv
    refine same v (.inr ⟨hw,?_⟩) h
    cases hir:e.o.ir with
    |p x=>
     refine .inr ⟨x,rfl,?_⟩
     rw[hir]at hv
     simp only[acA]at hv
     split at hv
     ·rename_i u hu;injection hv with hv;injection hv with hv _;rw[←hv];exact hu
     ·contradiction
    |_=>
     first
      |exact .inl rfl
      |(exact absurd (by rw[hir];rfl) hn2)
      |(exact absurd (by rw[hir];rfl) hn3)
   ·contradiction
 ·contradiction
structure AtD (P:Program)(φ:Nat→Loc)(dm:Nat→Prop)(s:AS)(fr:Frame)(d:DS)(ops:Array Oper)(idx:List Nat)(k:List Item)(F pre:List DO):Prop where
 todo:fr.todo= .inRegion ops idx::k
 rel:akQ P φ dm {s.fr with ρ:= .E,dr:=none} {fr with todo:=k}
 mode:s.fr.mode= .run
 inv:ajh P φ dm s.H.next s.fr.lo s.fr.nt d ops idx fr.tmps F pre
theorem AtD.of (R:ais P φ dm bs s fr frs w)(hd:s.fr.dr=some d):∃ops idx k F pre,AtD P φ dm s fr d ops idx k F pre∧match d.cur with
 |some e=>∃l,idx=e.i::l
 |none=>True:=by
 have:=R.fr
 unfold FrX at this
 rw[hd]at this
 obtain⟨ops,idx,k,F,pre,h1,h2,h3,h4,h5⟩:=this
 exact⟨ops,idx,k,F,pre,⟨h1,h2,h3,h4⟩,h5⟩
theorem AtD.aK2 {F pre:List DO}(A:AtD P φ dm s fr d ops idx k F pre):fr.mode= .run:=by
 have:aI3 φ dm s.fr.mode fr.mode:=A.rel.mode
 rw[A.mode]at this
 exact this
theorem akQ.aHB (h:akQ P φ dm {s.fr with ρ:= .E,dr:=none} {fr with todo:=k}){tmps':Array Value}(hn:s.fr.nt≤tmps'.size):akQ P φ dm {s.fr with ρ:= .E,dr:=none} {fr with tmps:=tmps',todo:=k}:=
 ⟨h.fn,h.apl,hn,fun t v hv=>(by rw[show({s.fr with ρ:=T.E,dr:=none}:AF).ρ.get t=none from T.akl t]at hv;cases hv),h.todo,h.ds,h.mode,h.kind,h.round,h.nd⟩
theorem a8O (E:Ext P)(R:ais P φ dm bs s fr frs w)(hd:s.fr.dr=some d)(hc:d.cur=none)(hr:d.rest= [])(hok:d.pend.all (ap7 s.H)=true):
 Sim P φ dm bs s {s with fr:={s.fr with ρ:=d.ρ,dr:=none}} fr frs w:=by
 obtain⟨ops,idx,k,F,pre,A,_⟩:=AtD.of R hd
 obtain⟨φ',dm',w',tmps',idx',s1,r1,g1,D1,n1,q1⟩:=aEW (cs:=frs++bs) E hc (acg.1 hok) (aai _) R.hlo idx A.aK2 A.todo A.inv A.rel.size R.heap
 have hi:idx'= []:=by
  rcases q1 with h|⟨x,hx,_⟩
  ·exact h
  ·rw[hr]at hx;cases hx
 subst hi
 have hfr:=(A.rel.aHB n1).mono g1.dms g1.ph
 refine⟨φ',dm',{fr with tmps:=tmps',todo:=k},frs,w',s1.trans (.one (ayj (by exact A.aK2) rfl)),ajq.x ⟨⟨hfr.fn,hfr.apl,hfr.size,fun t v hv=>D1.reg t v hv (fun p hp hpi=>by cases hpi),hfr.todo,hfr.ds,hfr.mode,hfr.kind,hfr.round,rfl⟩,R.hlo,?_,r1⟩,g1⟩
 exact R.cs.mono g1.dms g1.ph g1.fresh
theorem aHD (R:ais P φ dm bs s fr frs w)(hd:s.fr.dr=some d)(hc:d.cur=none)(hr:d.rest=e::rest){d':DS}(h:atA s.fr.nt d s.H e rest=some (d',H')):
 Sim P φ dm bs s {s with fr:={s.fr with dr:=some d'},H:=H'} fr frs w:=by
 obtain⟨ops,idx,k,F,pre,A,_⟩:=AtD.of R hd
 obtain⟨r1,D1,c1,n1,g1⟩:=aOt R.heap A.inv hc hr R.hlo h
 refine⟨φ,dm,fr,frs,w,akU P _,⟨?_,aa7 R.hlo n1,R.cs,r1⟩,g1⟩
 unfold FrX
 simp only
 refine⟨ops,idx,k,F,pre++ [e],A.todo,A.rel,A.mode,D1,?_⟩
 rw[c1]
 trivial
theorem aYi (E:Ext P)(R:ais P φ dm bs s fr frs w)(hd:s.fr.dr=some d)(hc:d.cur=none)(hok:d.pend.all (ap7 s.H)=true)(hne:d.rest≠[]):
 ∃ops idx k F pre φ' dm' w' tmps' x l,AtD P φ' dm' s {fr with tmps:=tmps',todo:= .inRegion ops (x.i::l)::k} d ops (x.i::l) k F pre∧x∈d.rest∧(∀j,x.o.after.testBit j=true→∃z∈pre,z.i=j)∧
  fr.todo= .inRegion ops idx::k∧Steps P (lone fr (frs++bs) w) (lone {fr with tmps:=tmps',todo:= .inRegion ops (x.i::l)::k} (frs++bs) w')∧Rel P φ' dm' s.H w'∧GrowS s.fr.lo φ dm s.H w φ' dm' s.H w'∧Stk P φ' dm' s.fr.lo s.cs frs:=by
 obtain⟨ops,idx,k,F,pre,A,_⟩:=AtD.of R hd
 obtain⟨φ',dm',w',tmps',idx',s1,r1,g1,D1,n1,q1⟩:=aEW (cs:=frs++bs) E hc (acg.1 hok) (aai _) R.hlo idx A.aK2 A.todo A.inv A.rel.size R.heap
 have hq:∃x∈d.rest,∃l,idx'=x.i::l∧∀j,x.o.after.testBit j=true→∃z∈pre,z.i=j:=by
  rcases q1 with h|h
  ·exfalso
   subst h
   cases hr:d.rest with
   |nil=>exact hne hr
   |cons e r=>
    have:=D1.todo e (by rw[hr];simp)
    cases this
  ·exact h
 obtain⟨x,hx,l,rfl,haf⟩:=hq
 exact⟨ops,idx,k,F,pre,φ',dm',w',tmps',x,l,⟨rfl,(A.rel.aHB n1).mono g1.dms g1.ph,A.mode,D1⟩,hx,haf,A.todo,s1,r1,g1,R.cs.mono g1.dms g1.ph g1.fresh⟩
theorem ajh.ready {F pre:List DO}(_D:ajh P φ dm hi lo nt d ops idx tmps F pre){x:DO}(haf:∀j,x.o.after.testBit j=true→∃z∈pre,z.i=j){M:Nat}(hM:∀j,M.testBit j=true↔∃e∈pre,e.i=j):atg M x=true:=by
 unfold atg
 rw[beq_iff_eq]
 apply Nat.eq_of_testBit_eq
 intro j
 rw[Nat.testBit_and]
 cases h:x.o.after.testBit j with
 |false=>simp
 |true=>rw[(hM j).2 (haf j h)];rfl
theorem aSg (E:Ext P)(hC:Table P C)(R:ais P φ dm bs s fr frs w)(hd:s.fr.dr=some d)(hc:d.cur=none)(hr:d.rest=e::rest)(hcls:e.o.ir.cls=2)(hw:wanted (only e.rs d.ρ) e.o.guard=some true)(hok:d.pend.all (ap7 s.H)=true)
 (hone:¬(∃y,rest= [y]∧(alh e rest&& !y.o.after.testBit e.i)=true))(h:a1v C s d e rest=some s'):Sim P φ dm bs s s' fr frs w:=by
 obtain⟨ops,idx,k,F,pre,φ1,dm1,w1,aHy,x,l,A,hx,haf,ht,s1,r1,g1,hcs⟩:=aYi E R hd hc hok (by rw[hr];simp)
 obtain⟨fr1,aW1⟩ :∃fr1:Frame,fr1={fr with tmps:=aHy,todo:= .inRegion ops (x.i::l)::k}:=⟨_,rfl⟩
 rw[←aW1]at A s1
 have D:=A.inv
 obtain⟨M,hM1,hM2⟩:=D.M
 have hcur:d.cur.toList++d.rest=e::rest:=by rw[hc,hr];rfl
 rw[hcur]at hM2
 have hM3:=hM2
 simp only[awC,aa6,afU,acg,ak0]at hM3
 have hxe:x=e:=by
  rw[hr]at hx
  rcases abb.1 hx with h|h
  ·exact h
  ·exfalso
   have hrd:=D.ready haf hM1
   obtain⟨⟨⟨⟨_,_⟩,h3⟩,_⟩,_⟩:=hM3
   rcases h3 with(h3|h3)|h3
   ·rw[hcls]at h3;simp at h3
   ·unfold alh at h3
    split at h3
    ·rename_i y
     rw[aaW]at h
     subst h
     refine hone ⟨x,rfl,?_⟩
     have:x.o.after.testBit e.i=false:=by
      cases hb:x.o.after.testBit e.i with
      |false=>rfl
      |true=>
       obtain⟨z,hz1,hz2⟩:=haf _ hb
       have:=aok hM2 e (by simp)
       rw[(hM1 e.i).2 ⟨z,hz1,hz2⟩]at this
       cases this
     rw[this]
     simpa[alh]using h3
    ·cases h3
   ·have:=h3 x h
    rw[hrd]at this
    cases this
 subst hxe
 have heF:x∈F:=by rw[D.split,hcur];simp
 obtain⟨op,ho1,ho2,ho3,ho4⟩:=D.ok x heF
 have hrr:=D.rr (by rw[hcur];simp) heF
 have hmode:=A.aK2
 have htodo:=A.todo
 have RRx:RR φ1 dm1 (only x.rs d.ρ) ⟨fr1.tmps,fr1.defers⟩:=⟨hrr,r1.glob⟩
 have hwant:Region.wanted op (yielded ops fr1.tmps)=true:=aBt (φ:=φ1) (by rw[←ho3];exact hw) fun t v hv=>(RRx.reg t v hv).2
 have heval:(Act.mk fr1.tmps fr1.defers).eval=fr1.eval:=by funext y;cases y<;>rfl
 have R1:ais P φ1 dm1 bs {s with fr:={s.fr with dr:=some {d with rest,cur:=some x}}} fr1 frs w1:=by
  refine⟨?_,R.hlo,hcs,r1⟩
  unfold FrX
  simp only
  refine⟨ops,x.i::l,k,F,pre,htodo,A.rel,A.mode,?_,l,rfl⟩
  have e1:({d with rest,cur:=some x}:DS).cur.toList++({d with rest,cur:=some x}:DS).rest=d.cur.toList++d.rest:=by rw[hcur];rfl
  exact {ok:=D.ok,lin:=D.lin,cover:=D.cover,aft:=D.aft,inj:=D.inj,split:=by rw[e1];exact D.split,M:=by rw[e1];exact D.M,pairs:=by rw[e1];exact D.pairs,todo:=by rw[e1];exact D.todo,done:=D.done,pin:=D.pin,ayg:=D.ayg,one:=D.one,aA7:=D.aA7,a1:=D.a1,a2:=D.a2,pok:=D.pok,res:=D.res,reg:=D.reg,rp:=D.rp,ayh:=D.ayh}
 unfold a1v at h
 simp only at h
 split at h
 ·rename_i hcall
  split at h
  ·rename_i f args hca
   obtain⟨c1,c2,c3,c4⟩:=anV (op:=op) ho4.symm hcall RRx r1 hca
   rw[heval]at c4
   obtain⟨nx,fr',n1,n2,n3,n4⟩:=aqC hC R1 h c1 c2
   refine⟨φ1,dm1,fr',fr1::frs,w1,s1.trans (.one (st_next hmode htodo ho1 hwant c3 (c4.trans n1) n2)),n3.x,?_⟩
   rw[n4]
   exact g1
  ·contradiction
 ·rename_i hcall
  split at h
  ·rename_i v H hv
   split at h
   ·rename_i af hf
    injection h with h
    subst h
    have aHx:x.o.ir.once=true:=by
     cases hir:x.o.ir<;>first
      |rfl
      |(rw[hir]at hcall;simp[IR.aty]at hcall;done)
      |(rw[hir]at hv;simp[acA]at hv;done)
    obtain⟨φ2,dm2,w2,nx,e1,e2,e3,e4,e5⟩:=au5 E (op:=op) ho4 RRx r1 aHx hv
    rw[heval]at e1
    have hfx:=aqB hf (R1.fr.mono e5.dms e5.ph e5.fresh) e3
    have hlo:af.lo=s.fr.lo:=hfx.2
    have hnd:=arU (P:=P) (op:=op.op) (by rw[←ho4];exact aHx)
    refine⟨φ2,dm2,fr1.finish (abe φ2 v),frs,w2,s1.trans (.one ?_),⟨hfx.1.aHc e5.next,by show af.lo≤H.next;rw[hlo];exact aa7 R.hlo e5.next,?_,e4⟩,g1.trans (e5.s R.hlo) (aai _)⟩
    ·rcases e2 with rfl|⟨rfl,rfl⟩
     ·exact arp hmode htodo ho1 hwant (.inr hnd) e1
     ·exact aol hmode htodo ho1 hwant (.inr hnd) e1
    ·show Stk P φ2 dm2 af.lo s.cs frs
     rw[hlo]
     exact hcs.mono e5.dms e5.ph fun b hb=>(e5.fresh b hb).imp id (aa7 R.hlo)
   ·contradiction
  ·contradiction
end
end Ex
namespace Ex
noncomputable section
variable {P:Program}{C:T PF}{φ:Nat→Loc}{dm:Nat→Prop}{bs:List Frame}{s s':AS}{fr:Frame}{frs cs:List Frame}{w w':World}{k:List Item}{g:Nat→Option AV}{a:Act}{H H':AH}{v:AV}
variable {hi lo nt:Nat}{d:DS}{ops:Array Oper}{idx l:List Nat}{tmps:Array Value}{F pre:List DO}{e y:DO}{rest:List DO}
theorem ajh.aHc (D:ajh P φ dm hi lo nt d ops idx tmps F pre){hi':Nat}(h:hi≤hi'):ajh P φ dm hi' lo nt d ops idx tmps F pre:=
 {D with res:=fun p hp hi' b x hb=>⟨(D.res p hp hi' b x hb).1,acG (D.res p hp hi' b x hb).2.1 h,(D.res p hp hi' b x hb).2.2⟩}
theorem ajh.step1 (E:Ext P)(hm:fr.mode= .run)(ht:fr.todo= .inRegion ops (e.i::l)::k)(D:ajh P φ dm H.next lo nt d ops (e.i::l) fr.tmps F pre)(hcur:d.cur=none)(hrest:d.rest=e::rest)(hw:wanted (only e.rs d.ρ) e.o.guard=some true)
 (hv:acA (only e.rs d.ρ) H e.o.ir=some (v,H'))(aHx:e.o.ir.once=true)(hok:apn nt e.o.dst=true)(f:Pd→Bool)(hf:∀p∈d.pend,f p=false→e.o.after.testBit p.i=true)(hn:nt≤fr.tmps.size)(hr:Rel P φ dm H w):
 ∃φ' dm' w' tmps',step P (lone fr cs w)= .next (lone {fr with tmps:=tmps',todo:= .inRegion ops l::k} cs w')∧Rel P φ' dm' H' w'∧Grow φ dm H w φ' dm' H' w'∧
  ajh P φ' dm' H'.next lo nt {ρ:=Ex.reg d.ρ e.o.dst v,pend:=d.pend.filter f,rest,cur:=none} ops l tmps' F (pre++ [e])∧nt≤tmps'.size:=by
 have hc:d.cur.toList++d.rest=e::rest:=by rw[hcur,hrest];rfl
 have heF:e∈F:=by rw[D.split,hc];simp
 obtain⟨op,ho1,ho2,ho3,ho4⟩:=D.ok e heF
 have hrr:=D.rr (by rw[hc];simp) heF
 have RRx:RR φ dm (only e.rs d.ρ) ⟨fr.tmps,fr.defers⟩:=⟨hrr,hr.glob⟩
 have hwant:Region.wanted op (yielded ops fr.tmps)=true:=aBt (φ:=φ) (by rw[←ho3];exact hw) fun t v hv=>(RRx.reg t v hv).2
 have heval:(Act.mk fr.tmps fr.defers).eval=fr.eval:=by funext y;cases y<;>rfl
 obtain⟨φ2,dm2,w2,nx,e1,e2,e3,e4,e5⟩:=au5 E (op:=op) ho4 RRx hr aHx hv
 rw[heval]at e1
 have hnd:=arU (P:=P) (op:=op.op) (by rw[←ho4];exact aHx)
 have ec:({d with rest,cur:=some e}:DS).cur.toList++({d with rest,cur:=some e}:DS).rest=d.cur.toList++d.rest:=by rw[hc];rfl
 have D0:ajh P φ dm H.next lo nt {d with rest,cur:=some e} ops (e.i::l) fr.tmps F pre:=
  {ok:=D.ok,lin:=D.lin,cover:=D.cover,aft:=D.aft,inj:=D.inj,split:=by rw[ec];exact D.split,M:=by rw[ec];exact D.M,pairs:=by rw[ec];exact D.pairs,todo:=by rw[ec];exact D.todo,done:=D.done,pin:=D.pin,ayg:=D.ayg,one:=D.one,aA7:=D.aA7,a1:=D.a1,a2:=D.a2,pok:=D.pok,res:=D.res,reg:=D.reg,rp:=D.rp,ayh:=D.ayh}
 have D1:=((D0.mono e5.dms e5.ph e5.fresh).aHc e5.next).aWL rfl hok hn e3 f hf
 refine⟨φ2,dm2,w2,aBd fr.tmps e.o.dst (abe φ2 v),?_,e4,e5,D1,by rw[auU];exact hn⟩
 have hfin:=aHw (u:=abe φ2 v) ht ho1
 rw[←ho2]at hfin
 rw[←hfin]
 rcases e2 with rfl|⟨rfl,rfl⟩
 ·exact arp hm ht ho1 hwant (.inr hnd) e1
 ·exact aol hm ht ho1 hwant (.inr hnd) e1
theorem ajh.swap (D:ajh P φ dm hi lo nt d ops idx tmps F pre)(hcur:d.cur=none)(hrest:d.rest= [e,y])(he:e.o.dst=none)(hy:y.o.dst=none)(h2:e.o.ir.isStore=true)(h3:y.o.ir.isStore=true)(hrd:∀j,y.o.after.testBit j=true→∃z∈pre,z.i=j):
 ajh P φ dm hi lo nt {d with rest:=[y,e]} ops idx tmps (pre++ [y,e]) pre:=by
 obtain⟨M,hM1,hM2⟩:=D.M
 have hc:d.cur.toList++d.rest= [e,y]:=by rw[hcur,hrest];rfl
 have hc':({d with rest:=[y,e]}:DS).cur.toList++({d with rest:=[y,e]}:DS).rest= [y,e]:=by show d.cur.toList++ [y,e]=_;rw[hcur];rfl
 have hsp:=D.split
 rw[hc]at hsp
 have hF:∀x,x∈pre++ [y,e]↔x∈F:=by
  intro x
  rw[hsp]
  simp only[aaG,abb,aei,or_false]
  constructor
  ·rintro(h|h|h)
   ·exact .inl h
   ·exact .inr (.inr h)
   ·exact .inr (.inl h)
  ·rintro(h|h|h)
   ·exact .inl h
   ·exact .inr (.inr h)
   ·exact .inr (.inl h)
 have hmem:∀x,x∈[y,e]→x∈d.cur.toList++d.rest:=by
  intro x hx
  rw[hc]
  simp only[abb,aei,or_false]at hx ⊢
  exact hx.symm
 have hlin:Lin (pre++ [y,e]) idx:=by
  have key:∀idx,Lin F idx→Lin (pre++ [y,e]) idx:=by
   intro idx
   induction idx with
   |nil=>intro _;trivial
   |cons i l ih=>intro h;exact⟨fun e he=>h.1 e ((hF e).1 he),h.2.1,ih h.2.2⟩
  exact key idx D.lin
 rw[hc]at hM2
 have hne:y.i≠e.i:=aOn hM2 y (by simp)
 have hM3:=hM2
 simp only[awC,aa6,ak0,List.all_nil,Bool.or_true,and_true]at hM3
 have hmx:∀x,x∈pre∨x=e∨x=y→x∈F:=by rw[hsp];simp
 refine
 {ok:=fun x hx=>D.ok x ((hF x).1 hx),lin:=hlin,cover:=fun i hi=>by obtain⟨x,h1,h2⟩:=D.cover i hi;exact⟨x,(hF x).2 h1,h2⟩
  aft:=fun x hx j hj=>by obtain⟨z,h1,h2⟩:=D.aft x ((hF x).1 hx) j hj;exact⟨z,(hF z).2 h1,h2⟩
  inj:=fun x hx z hz=>D.inj x ((hF x).1 hx) z ((hF z).1 hz),split:=by rw[hc'],M:=⟨M,hM1,?_⟩
  pairs:=fun x hx z hz=>D.pairs x hx z (by rw[hc']at hz;exact hmem z hz),todo:=fun x hx=>D.todo x (by rw[hc']at hx;exact hmem x hx)
  done:=D.done,pin:=D.pin,ayg:=D.ayg,one:=D.one,aA7:=D.aA7,a1:=D.a1,a2:=D.a2,pok:=D.pok,res:=D.res,reg:=D.reg,rp:=D.rp,ayh:=D.ayh}
 rw[hc']
 have hry:atg M y=true:=D.ready hrd hM1
 have hye:M.testBit y.i=false:=by
  cases hb:M.testBit y.i with
  |false=>rfl
  |true=>
   have:=hM3.2.2
   rw[ajQ,hb]at this
   simp at this
 obtain⟨⟨⟨⟨q1,q2⟩,q3⟩,q4⟩,q5⟩:=hM3
 have hre:atg (M|||2^y.i) e=true:=by
  unfold atg at q1 ⊢
  rw[beq_iff_eq]at q1 ⊢
  apply Nat.eq_of_testBit_eq
  intro j
  have:=congrArg (fun n=>n.testBit j) q1
  simp only[Nat.testBit_and]at this
  rw[Nat.testBit_and,ajQ]
  cases hj:e.o.after.testBit j with
  |false=>simp
  |true=>rw[hj]at this;simp at this;rw[this];rfl
 have hee:(M|||2^y.i).testBit e.i=false:=by
  rw[ajQ,q2,Nat.testBit_two_pow]
  simp[hne]
 have htw:alh y [e]=true:=by simp[alh,h2,h3]
 simp[awC,hry,hye,htw,hre,hee,axT,he,hy,aNS]
def Like (x y:Option afp):Prop:=x=y∨∃n t t' el f s z,x=some (.cells n t el f s z)∧y=some (.cells n t' el f s z)∧∀i,t.get i=t'.get i
theorem Rel.like (hr:Rel P φ dm H w)(h:∀k,Like (H.bl.get k) (H'.bl.get k))(hn:H'.next=H.next):Rel P φ dm H' w∧GrowS lo φ dm H w φ dm H' w:=by
 have back:∀k x,H'.bl.get k=some x→∃y,H.bl.get k=some y∧(y=x∨∃n t t' el f s z,y= .cells n t el f s z∧x= .cells n t' el f s z∧∀i,t.get i=t'.get i):=by
  intro k x hx
  rcases h k with h1|⟨n,t,t',el,f,s,z,h1,h2,h3⟩
  ·exact⟨x,by rw[h1];exact hx,.inl rfl⟩
  ·rw[hx]at h2
   injection h2 with h2
   exact⟨_,h1,.inr ⟨n,t,t',el,f,s,z,rfl,h2,h3⟩⟩
 have iter:∀k m left cur,H'.bl.get k=some (.iter m left cur)→H.bl.get k=some (.iter m left cur):=by
  intro k m left cur hk
  obtain⟨y,h1,h2|⟨_,_,_,_,_,_,_,_,h3,_⟩⟩:=back k _ hk
  ·rw[←h2];exact h1
  ·cases h3
 refine⟨⟨fun k x hx hd=>?_,fun k k' x x' hx hx' hd hd' he=>?_,fun k hk=>by rw[hn];exact hr.next k hk,hr.glob,fun k m left cur hk hd=>?_,fun k m left cur k' left' cur' hk hd hk' hd'=>hr.uniq k m left cur k' left' cur' (iter _ _ _ _ hk) hd (iter _ _ _ _ hk') hd'⟩,
  ⟨fun _ h=>h,fun _ _=>rfl,rfl,rfl,rfl,aai _,fun _ _ _=>rfl,fun i ⟨k,x,hk,hd,he⟩=> .inr ?_,by rw[hn];exact aai _,fun _ h=> .inl h⟩⟩
 ·obtain⟨y,h1,h2|⟨n,t,t',el,f,s,z,rfl,rfl,h3⟩⟩:=back k _ hx
  ·rw[←h2];exact hr.blk k y h1 hd
  ·obtain⟨c,zz,q1,q2,q3,q4,q5⟩:=hr.blk k _ h1 hd
   exact⟨c,zz,q1,q2,q3,q4,fun i v hv=>q5 i v (by rw[h3];exact hv)⟩
 ·obtain⟨y,h1,_⟩:=back k _ hx
  obtain⟨y',h1',_⟩:=back k' _ hx'
  exact hr.inj k k' y y' h1 h1' hd hd' he
 ·obtain⟨ents,h1⟩:=hr.aEp _ _ _ _ (iter _ _ _ _ hk) hd
  rcases h m with h2|⟨_,_,_,_,_,_,_,h2,_⟩
  ·exact⟨ents,by rw[←h2];exact h1⟩
  ·rw[h1]at h2;cases h2
 ·obtain⟨y,h1,_⟩:=back k _ hk
  exact⟨k,y,h1,hd,he⟩
theorem aK4 {b o:Nat}{l:List AV}(h:alv H b o l=some H'):∃n t el f s z,H.bl.get b=some (.cells n t el f s z)∧(o+l.length≤n∧n<LIM∧z<2∧b<LIM∧l.all AV.one=true)∧H'=H.put b (some (.cells n (putCells l o t) el f s z)):=by
 unfold alv at h
 split at h
 ·rename_i n t el f s z hb
  split at h
  ·rename_i hc
   injection h with h
   exact⟨n,t,el,f,s,z,hb,hc,h.symm⟩
  ·contradiction
 ·contradiction
theorem au6 {b o n:Nat}{l:List AV}{t:T AV}{el:Nat}{f:Bool}{s z:Nat}(hb:H.bl.get b=some (.cells n t el f s z))(hc:o+l.length≤n∧n<LIM∧z<2∧b<LIM∧l.all AV.one=true):
 alv H b o l=some (H.put b (some (.cells n (putCells l o t) el f s z))):=by
 unfold alv
 rw[hb]
 simp only[if_pos hc]
theorem aW2 {b o b' o':Nat}{l l':List AV}{H1 H2:AH}(h1:alv H b o l=some H1)(h2:alv H1 b' o' l'=some H2)(hap:b≠b'∨o+l.length≤o'∨o'+l'.length≤o):
 ∃K1 K2,alv H b' o' l'=some K1∧alv K1 b o l=some K2∧(∀k,Like (K2.bl.get k) (H2.bl.get k))∧H2.next=K2.next∧K1.next=H.next:=by
 obtain⟨n,t,el,f,s,z,a1,a2,rfl⟩:=aK4 h1
 obtain⟨n',t',el',f',s',z',b1,b2,rfl⟩:=aK4 h2
 have g1:∀k,(H.put b (some (.cells n (putCells l o t) el f s z))).bl.get k=if k=b then some (.cells n (putCells l o t) el f s z) else H.bl.get k:=fun k=>akb _ _ _ _ a2.2.2.2.1
 rw[g1]at b1
 by_cases hbb:b=b'
 ·subst hbb
  rw[if_pos rfl]at b1
  injection b1 with b1
  injection b1 with c1 c2 c3 c4 c5 c6
  subst c1 c2 c3 c4 c5 c6
  have k1:∀k,(H.put b (some (.cells n (putCells l' o' t) el f s z))).bl.get k=if k=b then some (.cells n (putCells l' o' t) el f s z) else H.bl.get k:=fun k=>akb _ _ _ _ a2.2.2.2.1
  refine⟨_,_,au6 a1 b2,au6 (by rw[k1,if_pos rfl]) a2,fun k=>?_,rfl,rfl⟩
  show Like ((T.set _ FUEL (T.set _ FUEL H.bl b) b).get k) ((T.set _ FUEL (T.set _ FUEL H.bl b) b).get k)
  rw[akb _ _ _ _ a2.2.2.2.1,akb _ _ _ _ a2.2.2.2.1,akb _ _ _ _ a2.2.2.2.1,akb _ _ _ _ a2.2.2.2.1]
  by_cases hk:k=b
  ·rw[if_pos hk,if_pos hk]
   refine .inr ⟨n,_,_,el,f,s,z,rfl,rfl,fun i=>?_⟩
   have hap':=hap.resolve_left (fun h=>h rfl)
   rw[ahj _ _ _ _ (by omega),ahj _ _ _ _ (by omega),ahj _ _ _ _ (by omega),ahj _ _ _ _ (by omega)]
   by_cases hi:o≤i∧i<o+l.length
   ·rw[if_pos hi,if_neg (by omega),if_pos hi]
   ·rw[if_neg hi]
    by_cases hi':o'≤i∧i<o'+l'.length
    ·rw[if_pos hi',if_pos hi']
    ·rw[if_neg hi',if_neg hi',if_neg hi]
  ·rw[if_neg hk,if_neg hk,if_neg hk,if_neg hk];exact .inl rfl
 ·rw[if_neg (ahU hbb)]at b1
  have k1:∀k,(H.put b' (some (.cells n' (putCells l' o' t') el' f' s' z'))).bl.get k=if k=b' then some (.cells n' (putCells l' o' t') el' f' s' z') else H.bl.get k:=fun k=>akb _ _ _ _ b2.2.2.2.1
  refine⟨_,_,au6 b1 b2,au6 (by rw[k1,if_neg hbb];exact a1) a2,fun k=> .inl ?_,rfl,rfl⟩
  show(T.set _ FUEL (T.set _ FUEL H.bl b') b).get k=(T.set _ FUEL (T.set _ FUEL H.bl b) b').get k
  rw[akb _ _ _ _ a2.2.2.2.1,akb _ _ _ _ b2.2.2.2.1,akb _ _ _ _ b2.2.2.2.1,akb _ _ _ _ a2.2.2.2.1]
  by_cases hk:k=b
  ·rw[if_pos hk,if_neg (by rw[hk];exact hbb),if_pos hk]
  ·rw[if_neg hk,if_neg hk]
theorem aSn (E:Ext P)(hm:fr.mode= .run)(ht:fr.todo= .inRegion ops (e.i::l)::k)(D:ajh P φ dm H.next lo nt d ops (e.i::l) fr.tmps F pre)(hcur:d.cur=none)(hrest:d.rest= [e,y])(hd1:e.o.dst=none)(hd2:y.o.dst=none)
 (hw1:wanted (only e.rs d.ρ) e.o.guard=some true)(hw2:wanted (only y.rs d.ρ) y.o.guard=some true){H1 H2:AH}(hv1:acA (only e.rs d.ρ) H e.o.ir=some (.tup [],H1))(hv2:∀K,K.next=H1.next→K=H1→acA (only y.rs d.ρ) K y.o.ir=some (.tup [],H2))
 (ho1:e.o.ir.once=true)(ho2:y.o.ir.once=true)(hpure:∀p∈d.pend,(p.al=none∧p.o.ir.cls=0)∨(e.o.after.testBit p.i=true∧y.o.after.testBit p.i=true))(hn:nt≤fr.tmps.size)(hr:Rel P φ dm H w)(hlo:lo≤H.next):
 ∃φ' dm' w' tmps' idx',Steps P (lone fr cs w) (lone {fr with tmps:=tmps',todo:= .inRegion ops idx'::k} cs w')∧Rel P φ' dm' H2 w'∧GrowS lo φ dm H w φ' dm' H2 w'∧
  ajh P φ' dm' H2.next lo nt {ρ:=d.ρ,pend:=d.pend.filter fun p=>!e.o.after.testBit p.i&& !y.o.after.testBit p.i,rest:=[],cur:=none} ops idx' tmps' F (pre++ [e]++ [y])∧nt≤tmps'.size:=by
 obtain⟨φ1,dm1,w1,aHy,s1,r1,g1,D1,n1⟩:=D.step1 (cs:=cs) E hm ht hcur hrest hw1 hv1 ho1 (by rw[hd1];rfl) (fun p=>!e.o.after.testBit p.i) (fun p _ hp=>by simpa using hp) hn hr
 rw[hd1]at D1
 have hok:∀p∈d.pend.filter fun p=>!e.o.after.testBit p.i,ap7 H1 p=true:=by
  intro p hp
  obtain⟨hp1,hp2⟩:=acD.1 hp
  rcases hpure p hp1 with⟨h1,h2⟩|⟨h1,_⟩
  ·unfold ap7;rw[h1];simp only;rw[h2];rfl
  ·rw[h1]at hp2;cases hp2
 have hlo1:lo≤H1.next:=aa7 hlo g1.next
 obtain⟨φ2,dm2,w2,aSe,a8M,s2,r2,g2,D2,n2,q2⟩:=aEW (cs:=cs) (k:=k) E (d:={ρ:=Ex.reg d.ρ none (.tup []),pend:=d.pend.filter fun p=>!e.o.after.testBit p.i,rest:=[y],cur:=none}) rfl hok (aai _) hlo1 l (fr:={fr with tmps:=aHy,todo:= .inRegion ops l::k}) hm rfl D1 n1 r1
 obtain⟨l2,rfl⟩ :∃l2,a8M=y.i::l2:=by
  rcases q2 with h|⟨x,hx,l2,h,_⟩
  ·subst h
   have:=D2.todo y (by simp)
   cases this
  ·have:x=y:=by simpa using hx
   subst this
   exact⟨l2,h⟩
 obtain⟨φ3,dm3,w3,bEH,s3,r3,g3,D3,n3⟩:=D2.step1 (cs:=cs) (k:=k) E (fr:={fr with tmps:=aSe,todo:= .inRegion ops (y.i::l2)::k}) hm rfl rfl rfl hw2 (hv2 H1 rfl rfl) ho2 (by rw[hd2];rfl) (fun p=>!y.o.after.testBit p.i) (fun p _ hp=>by simpa using hp) n2 r2
 rw[hd2]at D3
 refine⟨φ3,dm3,w3,bEH,l2,(Steps.one s1).trans (s2.trans (.one s3)),r3,(g1.s hlo).trans (g2.trans (g3.s hlo1) (aai _)) (aai _),?_,n3⟩
 have a8Q:(d.pend.filter fun p=>!e.o.after.testBit p.i).filter (fun p=>!y.o.after.testBit p.i)=d.pend.filter fun p=>!e.o.after.testBit p.i&& !y.o.after.testBit p.i:=by
  rw[List.filter_filter]
  exact ajt fun p _=>by rw[Bool.and_comm]
 rw[a8Q]at D3
 exact D3
theorem a1K (E:Ext P)(R:ais P φ dm bs s fr frs w)(hd:s.fr.dr=some d)(hc:d.cur=none)(hr:d.rest= [e,y])(hok:d.pend.all (ap7 s.H)=true)(htw:alh e [y]=true)(h:aYd s d e y=some s'):Sim P φ dm bs s s' fr frs w:=by
 obtain⟨ops,idx,k,F,pre,φ1,dm1,w1,aHy,x,l,A,hx,haf,ht,s1,r1,g1,hcs⟩:=aYi E R hd hc hok (by rw[hr];simp)
 obtain⟨fr1,aW1⟩ :∃fr1:Frame,fr1={fr with tmps:=aHy,todo:= .inRegion ops (x.i::l)::k}:=⟨_,rfl⟩
 rw[←aW1]at A s1
 have D:=A.inv
 simp only[alh,aa6]at htw
 unfold aYd at h
 simp only at h
 split at h
 ·rename_i n xo vo n' xo' vo' hir btO
  split at h
  ·rename_i b o hb
   split at h
   ·rename_i u hu
    split at h
    ·rename_i b' o' hb'
     split at h
     ·rename_i u' hu'
      split at h
      ·rename_i hcond
       obtain⟨c1,c2,c3,c4,c5,c6,c7,c8⟩:=hcond
       split at h
       ·rename_i H1 hs1
        split at h
        ·rename_i H2 hs2
         injection h with h
         subst h
         have hpure:∀p∈d.pend,(p.al=none∧p.o.ir.cls=0)∨(e.o.after.testBit p.i=true∧y.o.after.testBit p.i=true):=by
          intro p hp
          have:=acg.1 c4 p hp
          simpa[a7w]using this
         have ho1:e.o.ir.once=true:=by rw[hir];rfl
         have ho2:y.o.ir.once=true:=by rw[btO];rfl
         have ev:∀{g:Nat→Option AV}{K K':AH}{n b o:Nat}{xo vo:Od}{u:AV},xo.ev g=some (.ptr b o)→vo.ev g=some u→u.cells.length=n→alv K b o u.cells=some K'→acA g K (.store n xo vo)=some (.tup [],K'):=by
          intro g K K' n b o xo vo u h1 h2 h3 h4
          simp only[acA,h1,h2,if_pos h3,h4]
         have fin:∀{φ':Nat→Loc}{dm':Nat→Prop}{w':World}{tmps':Array Value}{idx':List Nat}{F' pre':List DO},Steps P (lone fr1 (frs++bs) w1) (lone {fr1 with tmps:=tmps',todo:= .inRegion ops idx'::k} (frs++bs) w')→Rel P φ' dm' H2 w'→GrowS s.fr.lo φ1 dm1 s.H w1 φ' dm' H2 w'→
          ajh P φ' dm' H2.next s.fr.lo s.fr.nt {ρ:=d.ρ,pend:=d.pend.filter fun p=>!e.o.after.testBit p.i&& !y.o.after.testBit p.i,rest:=[],cur:=none} ops idx' tmps' F' pre'→s.fr.nt≤tmps'.size→
          Sim P φ dm bs s {s with fr:={s.fr with dr:=some {ρ:=d.ρ,pend:=d.pend.filter fun p=>!e.o.after.testBit p.i&& !y.o.after.testBit p.i,rest:=[],cur:=none}},H:=H2} fr frs w:=by
          intro φ' dm' w' tmps' idx' F' pre' q1 q2 q3 q4 q5
          refine⟨φ',dm',{fr1 with tmps:=tmps',todo:= .inRegion ops idx'::k},frs,w',s1.trans q1,⟨?_,aa7 R.hlo q3.next,hcs.mono q3.dms q3.ph q3.fresh,q2⟩,g1.trans q3 (aai _)⟩
          unfold FrX
          simp only
          exact⟨ops,idx',k,F',pre',rfl,(A.rel.aHB q5).mono q3.dms q3.ph,A.mode,q4,trivial⟩
         rw[hr]at hx
         simp only[abb,aei,or_false]at hx
         rcases hx with rfl|rfl
         ·obtain⟨φ2,dm2,w2,aSe,a8M,q1,q2,q3,q4,q5⟩:=aSn (cs:=frs++bs) E A.aK2 A.todo D hc hr c5 c6 c7 c8 (H1:=H1) (H2:=H2) (by rw[hir];exact ev hb hu c1 hs1)
           (fun K _ hK=>by rw[hK,btO];exact ev hb' hu' c2 hs2) ho1 ho2 hpure A.rel.size r1 R.hlo
          exact fin q1 q2 q3 q4 q5
         ·obtain⟨K1,K2,k1,k2,k3,k4,k5⟩:=aW2 hs1 hs2 (by rw[c1,c2];exact c3)
          have D':=D.swap hc hr c5 c6 htw.1 htw.2 haf
          obtain⟨φ2,dm2,w2,aSe,a8M,q1,q2,q3,q4,q5⟩:=aSn (cs:=frs++bs) E A.aK2 A.todo D' hc rfl c6 c5 c8 c7 (H1:=K1) (H2:=K2) (by rw[btO];exact ev hb' hu' c2 k1)
           (fun K _ hK=>by rw[hK,hir];exact ev hb hu c1 k2) ho2 ho1 (fun p hp=>(hpure p hp).imp id fun h=>⟨h.2,h.1⟩) A.rel.size r1 R.hlo
          obtain⟨t1,t2⟩:=q2.like (lo:=s.fr.lo) k3 k4
          have a8Q:(d.pend.filter fun p=>!x.o.after.testBit p.i&& !e.o.after.testBit p.i)=d.pend.filter fun p=>!e.o.after.testBit p.i&& !x.o.after.testBit p.i:=ajt fun p _=>by rw[Bool.and_comm]
          rw[a8Q,←k4]at q4
          exact fin q1 t1 (q3.trans t2 (aai _)) q4 q5
        ·contradiction
       ·contradiction
      ·contradiction
     ·contradiction
    ·contradiction
   ·contradiction
  ·contradiction
 ·contradiction
theorem aW3 (E:Ext P)(hC:Table P C)(R:ais P φ dm bs s fr frs w)(hd:s.fr.dr=some d)(h:a7F C s d=some s'):Sim P φ dm bs s s' fr frs w:=by
 unfold a7F at h
 split at h
 ·contradiction
 ·rename_i hc
  split at h
  ·rename_i hr
   split at h
   ·rename_i hok
    injection h with h
    subst h
    exact a8O E R hd hc hr hok
   ·contradiction
  ·rename_i e rest hr
   split at h
   ·rename_i hcls
    split at h
    ·rename_i hw
     split at h
     ·rename_i hok
      split at h
      ·rename_i y
       split at h
       ·rename_i htw
        simp only[aa6]at htw
        exact a1K E R hd hc hr hok htw.1 h
       ·rename_i htw
        exact aSg E hC R hd hc hr hcls hw hok (by rintro⟨z,hz,h2⟩;injection hz with hz;subst hz;exact htw h2) h
      ·rename_i hno
       exact aSg E hC R hd hc hr hcls hw hok (by rintro⟨z,hz,h2⟩;exact hno z hz) h
     ·contradiction
    ·split at h
     ·rename_i d' K hq
      injection h with h
      subst h
      exact aHD R hd hc hr hq
     ·contradiction
    ·contradiction
   ·split at h
    ·rename_i d' K hq
     injection h with h
     subst h
     exact aHD R hd hc hr hq
    ·contradiction
end
end Ex
namespace Ex
noncomputable section
variable {P:Program}{C:T PF}{φ:Nat→Loc}{dm:Nat→Prop}{bs:List Frame}{s s':AS}{fr:Frame}{frs cs:List Frame}{w w':World}{k:List Item}
variable {ops:Array Oper}
inductive aHE (ops:Array Oper):(Nat→Bool)→List Nat→Prop where
 |nil {L:Nat→Bool}(h:∀i,i<ops.size→L i=true):aHE ops L []
 |cons {L:Nat→Bool}{i:Nat}{o:Oper}{l:List Nat}(hi:ops[i]? =some o)(hL:L i=false)(he:∀e∈o.after.toList,Region.binds .any e=true→L e.on=true)(t:aHE ops (fun j=>j==i||L j) l):aHE ops L (i::l)
def aYl (n:Nat)(L:Nat→Bool):Nat:=((List.range n).filter fun i=>!L i).length
theorem aCS {i:Nat}{L:Nat→Bool}(hL:L i=false):∀(l:List Nat),l.Nodup→i∈l→((l.filter fun j=>!(j==i||L j)).length+1=(l.filter fun j=>!L j).length)
 | [],_,h=>by cases h
 |x::l,hn,h=>by
  rw[List.nodup_cons]at hn
  by_cases hx:x=i
  ·subst hx
   have hsame:(l.filter fun j=>!(j==x||L j))=l.filter fun j=>!L j:=ajt fun j hj=>by
    have:j≠x:=fun he=>hn.1 (he▸hj)
    simp[this]
   rw[List.filter_cons_of_neg (by simp),List.filter_cons_of_pos (by simp[hL]),hsame]
   rfl
  ·have hi:i∈l:=(abb.1 h).resolve_left (ahU hx)
   have ih:=aCS hL l hn.2 hi
   cases hLx:L x with
   |true=>rw[List.filter_cons_of_neg (by simp[hLx]),List.filter_cons_of_neg (by simp[hLx])];exact ih
   |false=>rw[List.filter_cons_of_pos (by simp[hLx,hx]),List.filter_cons_of_pos (by simp[hLx]),abJ,abJ,ih]
theorem anW:∀(l:List Oper)(j:Nat),axS l j=true→∀i o,l[i]? =some o→∀e∈o.after.toList,Region.binds .any e=true→e.on<j+i
 | [],j,_,i,o,h,_,_,_=>by simp at h
 |x::l,j,hk,i,o,h,e,he,hb=>by
  simp only[axS,aa6,acg]at hk
  cases i with
  |zero=>
   simp only[ac3,aej]at h
   subst h
   have:=hk.1 e he
   simpa[hb]using this
  |succ i=>
   have:=anW l (j+1) hk.2 i o (by simpa using h) e he hb
   omega
theorem aYm (hok:axS ops.toList 0=true):∀(fuel t:Nat)(listed:Array Bool),listed.size=ops.size→aYl ops.size (fun i=>listed.getD i false)=fuel→
 aHE ops (fun i=>listed.getD i false) (Region.linearise.go .any ops fuel t listed [])
 |0,t,listed,hs,hf=>by
  refine .nil fun i hi=>?_
  cases h:listed.getD i false with
  |true=>rfl
  |false=>
   have:i∈(List.range ops.size).filter fun i=>!listed.getD i false:=acD.2 ⟨afO.2 hi,by rw[h];rfl⟩
   rw[acU hf]at this
   cases this
 |fuel+1,t,listed,hs,hf=>by
  simp only[Region.linearise.go]
  change aHE ops _ (match (Region.ready .any ops listed)[t%(Region.ready .any ops listed).length]? with
   |some i=>Region.linearise.go .any ops fuel (t / (Region.ready .any ops listed).length) (listed.setIfInBounds i true) [i]
   |none=>[].reverse)
  have hex:∃i,i∈Region.ready .any ops listed:=by
   have hne:((List.range ops.size).filter fun i=>!listed.getD i false)≠[]:=by
    intro h
    unfold aYl at hf
    rw[h]at hf
    cases hf
   obtain⟨x,hx⟩:=List.exists_mem_of_ne_nil _ hne
   have hP:∃i,i<ops.size∧listed.getD i false=false:=by
    obtain⟨h1,h2⟩:=acD.1 hx
    exact⟨x,afO.1 h1,by simpa using h2⟩
   have hmin:∀n,(∃i,i≤n∧i<ops.size∧listed.getD i false=false)→∃i,i<ops.size∧listed.getD i false=false∧∀j,j<i→listed.getD j false=true:=by
    intro n
    induction n with
    |zero=>
     rintro⟨i,h1,h2,h3⟩
     exact⟨i,h2,h3,fun j hj=>by omega⟩
    |succ n ih=>
     rintro⟨i,h1,h2,h3⟩
     by_cases hb:∃j,j≤n∧j<ops.size∧listed.getD j false=false
     ·exact ih hb
     ·refine⟨i,h2,h3,fun j hj=>?_⟩
      cases h:listed.getD j false with
      |true=>rfl
      |false=>exact absurd ⟨j,by omega,by omega,h⟩ hb
   obtain⟨i0,hi0⟩:=hP
   obtain⟨i,h1,h2,h3⟩:=hmin i0 ⟨i0,aai _,hi0⟩
   refine⟨i,(mem_ready).2 ?_⟩
   have ho:ops[i]? =some ops[i]:=acE h1
   have hl:listed.getD i true=false:=by
    rw[acR]at h2 ⊢
    rw[acE (by omega)]at h2 ⊢
    exact h2
   refine⟨hl,ops[i],ho,fun e he hb=>h3 _ ?_⟩
   have:=anW _ _ hok i ops[i] (by rw[Array.getElem?_toList];exact ho) e (Array.mem_toList_iff.2 he) hb
   omega
  have hpos:0<(Region.ready .any ops listed).length:=by
   obtain⟨i,hi⟩:=hex
   exact List.length_pos_of_mem hi
  have hlt:=akS t hpos
  rw[aaw hlt]
  generalize hi:(Region.ready .any ops listed)[t%(Region.ready .any ops listed).length]=i
  have bEI:i∈Region.ready .any ops listed:=by rw[←hi];exact List.getElem_mem _
  simp only
  rw[linearise_go_acc,List.reverse_singleton,ai5]
  obtain⟨hl,o,ho,he⟩:=mem_ready.1 bEI
  have hilt:i<ops.size:=(acK.1 ho).1
  have hl':listed.getD i false=false:=by
   rw[acR]at hl ⊢
   rw[acE (by omega)]at hl ⊢
   exact hl
  have hfun:(fun j=>(listed.setIfInBounds i true).getD j false)=fun j=>j==i||listed.getD j false:=by
   funext j
   by_cases hj:j=i
   ·subst hj
    rw[acR,abk (by omega)]
    simp
   ·rw[getD_set_ne _ (ahU hj)]
    simp[hj]
  have ih:=aYm hok fuel (t / (Region.ready .any ops listed).length) (listed.setIfInBounds i true) (by simp[hs]) (by
   rw[hfun]
   have:=aCS (L:=fun i=>listed.getD i false) hl' (List.range ops.size) List.nodup_range (afO.2 hilt)
   unfold aYl at hf ⊢
   simp only at hf this ⊢
   omega)
  rw[hfun]at ih
  exact .cons ho hl' (fun e he' hb=>he e (Array.mem_toList_iff.1 he') hb) ih
theorem aHE.spec {ops:Array Oper}{L:Nat→Bool}{l:List Nat}(h:aHE ops L l):(∀i∈l,i<ops.size∧L i=false)∧(∀i,i<ops.size→L i=false→i∈l):=by
 induction h with
 |nil h=>exact⟨fun i hi=>(by cases hi),fun i hi hL=>by rw[h i hi]at hL;cases hL⟩
 | @cons L i o l hi hL he t ih=>
   refine⟨fun j hj=>?_,fun j hj hLj=>?_⟩
   ·rcases abb.1 hj with rfl|hj
    ·exact⟨(acK.1 hi).1,hL⟩
    ·obtain⟨h1,h2⟩:=ih.1 j hj
     simp only[Bool.or_eq_false_iff]at h2
     exact⟨h1,h2.2⟩
   ·by_cases hji:j=i
    ·subst hji;simp
    ·exact abq _ (ih.2 j hj (by simp[hji,hLj]))
theorem aHE.lin {F:List DO}{L:Nat→Bool}{l:List Nat}(h:aHE ops L l)(hcl:∀e∈F,∀o,ops[e.i]? =some o→∀j,e.o.after.testBit j=true→∃ed∈o.after.toList,Region.binds .any ed=true∧(j=ed.on∨∃x∈F,x.i=ed.on∧x.o.after.testBit j=true))
 (hd:∀e∈F,L e.i=true→∀j,e.o.after.testBit j=true→L j=true):Lin F l:=by
 induction h with
 |nil=>trivial
 | @cons L i o l hi hL he t ih=>
   have bjZ:∀e∈F,e.i=i→∀j,e.o.after.testBit j=true→L j=true:=by
    intro e heF hei j hj
    obtain⟨ed,h1,h2,h3⟩:=hcl e heF o (by rw[hei];exact hi) j hj
    have hon:=he ed h1 h2
    rcases h3 with rfl|⟨x,hx1,hx2,hx3⟩
    ·exact hon
    ·exact hd x hx1 (by rw[hx2];exact hon) j hx3
   have hsp:=(aHE.cons hi hL he t).spec.1
   refine⟨fun e heF hei j hj hmem=>?_,fun hmem=>?_,ih fun e heF hLe j hj=>?_⟩
   ·have h1:=bjZ e heF hei j hj
    rw[(hsp j hmem).2]at h1
    cases h1
   ·have:=(t.spec.1 i hmem).2
    simp at this
   ·simp only[afU,beq_iff_eq]at hLe ⊢
    rcases hLe with h|h
    ·exact .inr (bjZ e heF h j hj)
    ·exact .inr (hd e heF h j hj)
theorem aBw (acc:List Nat):∀(l:List Edge)(j:Nat),(aNR acc l).testBit j=true↔∃e∈l,Region.binds .any e=true∧(j=e.on∨(acc.getD e.on 0).testBit j=true)
 | [],j=>by simp[aNR]
 |e::l,j=>by
  simp only[aNR]
  split
  ·rename_i hb
   rw[ajQ,afU,ajQ,afU,aBw acc l j,Nat.testBit_two_pow,decide_eq_true_iff]
   constructor
   ·rintro((h|h)|⟨e',h1,h2⟩)
    ·exact⟨e,by simp,hb,.inl h.symm⟩
    ·exact⟨e,by simp,hb,.inr h⟩
    ·exact⟨e',by simp[h1],h2⟩
   ·rintro⟨e',h1,h2,h3⟩
    rcases abb.1 h1 with rfl|h1
    ·rcases h3 with h3|h3
     ·exact .inl (.inl h3.symm)
     ·exact .inl (.inr h3)
    ·exact .inr ⟨e',h1,h2,h3⟩
  ·rename_i hb
   rw[aBw acc l j]
   constructor
   ·rintro⟨e',h1,h2⟩;exact⟨e',by simp[h1],h2⟩
   ·rintro⟨e',h1,h2,h3⟩
    rcases abb.1 h1 with rfl|h1
    ·exact absurd h2 hb
    ·exact⟨e',h1,h2,h3⟩
theorem aK6:∀(l:List Oper)(acc:List Nat),∃r,a6F l acc=acc++r∧r.length=l.length∧∀i o,l[i]? =some o→r[i]? =some (aNR ((acc++r).take (acc.length+i)) o.after.toList)
 | [],acc=>⟨[],by simp[a6F],rfl,fun i o h=>by simp at h⟩
 |x::l,acc=>by
  obtain⟨r,h1,h2,h3⟩:=aK6 l (acc++ [aNR acc x.after.toList])
  refine⟨aNR acc x.after.toList::r,by simp only[a6F,h1];simp,by simp[h2],fun i o h=>?_⟩
  cases i with
  |zero=>
   simp only[ac3,aej]at h ⊢
   subst h
   simp
  |succ i=>
   have:=h3 i o (by simpa using h)
   simp only[ad6]
   rw[this]
   simp only[adS,ai5,aa1,ad5]
   congr 2
   congr 1
   omega
theorem aYn:∀(l:List Oper)(bs:List Nat)(i:Nat)(e:DO),e∈mkD P ops l bs i→∃j o b,l[j]? =some o∧bs[j]? =some b∧e.i=i+j∧e.o=ate P ops b o
 | [],bs,i,e,h=>by simp[mkD]at h
 |x::l,[],i,e,h=>by simp[mkD]at h
 |x::l,b::bs,i,e,h=>by
  simp only[mkD]at h
  rcases abb.1 h with rfl|h
  ·exact⟨0,x,b,rfl,rfl,rfl,rfl⟩
  ·obtain⟨j,o,b',h1,h2,h3,h4⟩:=aYn l bs (i+1) e h
   exact⟨j+1,o,b',by simpa using h1,by simpa using h2,by omega,h4⟩
theorem ars {M:Nat}{q:Bool}:∀{l:List DO}{e:DO}{l':List DO},aKD M q l=some (e,l')→∀x,x∈e::l'→x∈l
 | [],e,l',h,x,hx=>by simp[aKD]at h
 |y::l,e,l',h,x,hx=>by
  simp only[aKD]at h
  split at h
  ·injection h with h
   injection h with h1 h2
   subst h1 h2
   exact hx
  ·split at h
   ·rename_i z l1 hz
    injection h with h
    injection h with h1 h2
    subst h1 h2
    have:=ars hz
    simp only[abb]at hx this ⊢
    rcases hx with h|h|h
    ·exact .inr (this x (.inl h))
    ·exact .inl h
    ·exact .inr (this x (.inr h))
   ·contradiction
theorem awU:∀(f M:Nat)(l:List DO),∀x∈aGD f M l,x∈l
 |0,M,l,x,hx=>hx
 |f+1,M,l,x,hx=>by
  simp only[aGD]at hx
  split at hx
  ·rename_i e l' he
   rcases abb.1 hx with rfl|hx
   ·exact ars he _ (by simp)
   ·exact ars he _ (abq _ (awU f _ l' x hx))
  ·split at hx
   ·rename_i e l' he
    rcases abb.1 hx with rfl|hx
    ·exact ars he _ (by simp)
    ·exact ars he _ (abq _ (awU f _ l' x hx))
   ·exact hx
theorem aSr:∀{l:List DO}{M:Nat},awC M l=true→∀x∈l,∀y∈l,x.i=y.i→x=y
 | [],M,h,x,hx,_,_,_=>by cases hx
 |e::l,M,h,x,hx,y,hy,he=>by
  have hn:=aOn h
  simp only[awC,aa6]at h
  rcases abb.1 hx with h1|h1<;>rcases abb.1 hy with h2|h2
  ·rw[h1,h2]
  ·rw[h1]at he;exact absurd he.symm (hn y h2)
  ·rw[h2]at he;exact absurd he (hn x h1)
  ·exact aSr h.2 x h1 y h2 he
theorem aJu {F:List DO}(h:ali P ops= .drawn F){hi lo nt t:Nat}{ρ:T AV}{tmps:Array Value}(aBq:∀t v,ρ.get t=some v→sc dm v∧tmps.getD t undef=abe φ v):
 ajh P φ dm hi lo nt {ρ,pend:=[],rest:=F,cur:=none} ops (Region.linearise .any ops t) tmps F []:=by
 unfold ali at h
 simp only at h
 split at h
 case isFalse=>split at h<;>cases h
 rename_i hc
 injection h with h
 simp only[aa6,acg,ahY,beq_iff_eq,afO]at hc
 rw[h]at hc
 obtain⟨⟨hok,bER⟩,hall⟩:=hc
 obtain⟨B,hB1,hB2,hB3⟩:=aK6 ops.toList []
 simp only[adt]at hB1 hB3
 have hmem:∀e∈F,∃o b,ops[e.i]? =some o∧B[e.i]? =some b∧e.o=ate P ops b o:=by
  intro e he
  rw[←h]at he
  obtain⟨j,o,b,h1,h2,h3,h4⟩:=aYn _ _ _ _ (awU _ _ _ _ he)
  rw[hB1]at h2
  have:e.i=j:=by omega
  subst this
  exact⟨o,b,by simpa using h1,h2,h4⟩
 have hbit:∀e∈F,∀o,ops[e.i]? =some o→∀j,e.o.after.testBit j=true→∃ed∈o.after.toList,Region.binds .any ed=true∧(j=ed.on∨∃x∈F,x.i=ed.on∧x.o.after.testBit j=true):=by
  intro e he o ho j hj
  obtain⟨o',b,h1,h2,h3⟩:=hmem e he
  rw[ho]at h1
  injection h1 with h1
  subst h1
  have hb:=hB3 e.i o (by simpa using ho)
  rw[h2]at hb
  injection hb with hb
  rw[h3]at hj
  have hj':b.testBit j=true:=hj
  rw[hb,aBw]at hj'
  obtain⟨ed,q1,q2,q3⟩:=hj'
  refine⟨ed,q1,q2,?_⟩
  rcases q3 with q3|q3
  ·exact .inl q3
  ·refine .inr ?_
   have hlt:=anW _ _ hok e.i o (by simpa using ho) ed q1 q2
   have hes:e.i<ops.size:=(acK.1 ho).1
   obtain⟨x,hx1,hx2⟩:=hall ed.on (by omega)
   refine⟨x,hx1,hx2,?_⟩
   obtain⟨ox,bx,x1,x2,x3⟩:=hmem x hx1
   rw[x3]
   show bx.testBit j=true
   rw[hx2]at x2
   have:((List.take (([]:List Nat).length+e.i) B).getD ed.on 0)=bx:=by
    rw[abj,aiV,if_pos (by simp at hlt ⊢;omega),x2]
    rfl
   rw[this]at q3
   exact q3
 have hlt:∀e∈F,e.i<ops.size:=fun e he=>by
  obtain⟨o,b,h1,_⟩:=hmem e he
  exact(acK.1 h1).1
 have haft:∀n,∀e∈F,e.i≤n→∀j,e.o.after.testBit j=true→j<ops.size:=by
  intro n
  induction n with
  |zero=>
   intro e he hn j hj
   obtain⟨o,b,h1,_⟩:=hmem e he
   obtain⟨ed,q1,q2,q3⟩:=hbit e he o h1 j hj
   have:=anW _ _ hok e.i o (by simpa using h1) ed q1 q2
   omega
  |succ n ih=>
   intro e he hn j hj
   obtain⟨o,b,h1,_⟩:=hmem e he
   obtain⟨ed,q1,q2,q3⟩:=hbit e he o h1 j hj
   have:=anW _ _ hok e.i o (by simpa using h1) ed q1 q2
   rcases q3 with rfl|⟨x,hx1,hx2,hx3⟩
   ·have:=hlt e he;omega
   ·exact ih x hx1 (by omega) j hx3
 have hlr:aHE ops (fun i=>(Array.replicate ops.size false).getD i false) (Region.linearise .any ops t):=aYm hok ops.size t _ (by simp) (by
  unfold aYl
  rw[ahw.2 fun i hi=>?_]
  ·simp
  ·show(!(Array.replicate ops.size false).getD i false)=true
   rw[acR,Array.getElem?_replicate]
   split<;>rfl)
 have hF0:∀i,(Array.replicate ops.size false).getD i false=false:=fun i=>by
  rw[acR,Array.getElem?_replicate]
  split<;>rfl
 obtain⟨sp1,sp2⟩:=hlr.spec
 exact
 {ok:=fun e he=>by
   obtain⟨o,b,h1,h2,h3⟩:=hmem e he
   exact⟨o,h1,by rw[h3];rfl,by rw[h3];rfl,by rw[h3];rfl⟩
  lin:=hlr.lin hbit fun e he hL=>by rw[hF0]at hL;cases hL
  cover:=fun i hi=>hall i (sp1 i hi).1
  aft:=fun e he j hj=>hall j (haft e.i e he (aai _) j hj)
  inj:=aSr bER
  split:=by simp
  M:=⟨0,fun j=>by simp,by simpa using bER⟩
  pairs:=fun x hx=>by cases hx
  todo:=fun e he=>sp2 e.i (hlt e (by simpa using he)) (hF0 _)
  done:=fun x hx=>by cases hx
  pin:=fun p hp=>by cases hp
  ayg:=fun p hp=>by cases hp
  one:=fun p hp=>by cases hp
  aA7:=fun p hp=>by cases hp
  a1:=fun p hp=>by cases hp
  a2:=fun p hp=>by cases hp
  pok:=fun p hp=>by cases hp
  res:=fun p hp=>by cases hp
  reg:=fun t v hv _=>aBq t v hv
  rp:=fun p hp=>by cases hp
  ayh:=fun p hp=>by cases hp}
theorem aHG {id:Nat}(hm:fr.mode= .run)(ht:fr.todo= .code (.region id ops true)::k)(hf:P.follows .mixedOrders=true):∃t,step P (lone fr cs w)= .next (lone {fr with todo:= .inRegion ops (Region.linearise .any ops t)::k} cs w.drew):=by
 refine⟨w.tape w.drawn (.order fr.fn id),step_lone_go ?_⟩
 simp[stepG,stepG.exec,hm,ht,choose,Sem.run,Question.forced,Question.cut,Region.schedule,hf]
theorem a1O (E:Ext P)(R:ajq P φ dm bs s fr frs w)(hm:s.fr.mode= .run){id:Nat}{F:List DO}{l:List AI}(hk:ap9 (alI P φ dm) l k)(ht:fr.todo= .code (.region id ops true)::k)(hF:ali P ops= .drawn F):
 Sim P φ dm bs s {s with fr:={s.fr with todo:=l,ρ:= .E,dr:=some {ρ:=s.fr.ρ,pend:=[],rest:=F,cur:=none}}} fr frs w:=by
 have hmode:fr.mode= .run:=by have:=R.fr.mode;rw[hm]at this;exact this
 obtain⟨t,hst⟩:=aHG (P:=P) (cs:=frs++bs) (w:=w) hmode ht E.mix
 obtain⟨r1,g1⟩:=R.heap.same (w':=w.drew) rfl rfl rfl rfl
 refine⟨φ,dm,_,frs,w.drew,.one hst,⟨?_,R.hlo,R.cs,r1⟩,g1.s R.hlo⟩
 unfold FrX
 simp only
 exact⟨ops,_,k,F,[],rfl,⟨R.fr.fn,R.fr.apl,R.fr.size,fun t v hv=>(by rw[T.akl]at hv;cases hv),fun _=>hk,R.fr.ds,R.fr.mode,R.fr.kind,R.fr.round,rfl⟩,hm,aJu hF R.fr.reg,trivial⟩
end
end Ex
namespace Ex
noncomputable section
variable {P:Program}{C:T PF}{φ:Nat→Loc}{dm:Nat→Prop}{bs:List Frame}{s s':AS}{fr c:Frame}{frs cs:List Frame}{w w':World}
theorem apm (ops:Array Oper):(∃F,ali P ops= .drawn F)∨ali P ops= .bad∨ali P ops= .fork ((atj ops ops.size (Array.replicate ops.size false)).map fun idx=>idx.filterMap fun i=>(ops[i]?).map (ate P ops 0)):=by
 unfold ali
 simp only
 split
 ·exact .inl ⟨_,rfl⟩
 ·split
  ·exact .inr (.inr rfl)
  ·exact .inr (.inl rfl)
theorem ais.plain (R:ais P φ dm bs s fr frs w)(hd:s.fr.dr=none):ajq P φ dm bs s fr frs w:=⟨R.fr.nd hd,R.hlo,R.cs,R.heap⟩
theorem a8W (E:Ext P)(hC:Table P C)(R:ajq P φ dm bs s fr frs w)(hm:s.fr.mode= .run){c:PC}{k:List AI}(hk:s.fr.todo= .code c::k)(h:runN C s=some s'):Sim P φ dm bs s s' fr frs w:=by
 have hmode:fr.mode= .run:=by have:=R.fr.mode;rw[hm]at this;exact this
 have htodo:=R.fr.todo hm
 rw[hk]at htodo
 unfold runN at h
 rw[hk]at h
 simp only at h
 cases ht:fr.todo with
 |nil=>rw[ht]at htodo;cases htodo
 |cons y ys=>
  rw[ht]at htodo
  cases htodo with
  |cons hy hys=>
   cases y with
   |code c'=>
    have hc:ae8 P c'=c:=hy
    cases c' with
    |skip=>simp only[ae8]at hc;subst hc;simp only at h;injection h with h;subst h;exact R.to hys (bdq hmode ht)
    |label l=>simp only[ae8]at hc;subst hc;simp only at h;injection h with h;subst h;exact R.to hys (a7N hmode ht)
    |ret=>simp only[ae8]at hc;subst hc;simp only at h;exact aBf R hm (jump:=some .ret) (by rw[ht];exact .ret) (by simp[ae8]) h
    |seq x z=>
     simp only[ae8]at hc
     subst hc;simp only at h;injection h with h;subst h;exact R.to (k':= .code x:: .code z::ys) (.cons rfl (.cons rfl hys)) (btn hmode ht)
    |cond o x z=>
     simp only[ae8]at hc
     split at hc
     ·rename_i d hd
      subst hc
      simp only at h
      split at h
      ·rename_i t hv
       injection h with h
       subst h
       obtain⟨e1,_⟩:=abU R.rr hd hv
       rw[aoh (s:=s) R.fr]at e1
       refine R.to (k':= .code (if t then x else z)::ys) (.cons ?_ hys) (bdv hmode ht e1)
       cases t<;>rfl
      ·contradiction
     ·subst hc;simp at h
    |block i x=>simp only[ae8]at hc;subst hc;simp only at h;injection h with h;subst h;exact R.to (k':= .code x:: .inBlock i::ys) (.cons rfl (.cons rfl hys)) (a7Q hmode ht)
    |loop x=>simp only[ae8]at hc;subst hc;simp only at h;injection h with h;subst h;exact R.to (k':= .code x:: .inLoop x::ys) (.cons rfl (.cons rfl hys)) (bdw hmode ht)
    |exit i=>
     simp only[ae8]at hc
     subst hc
     simp only at h
     split at h
     ·rename_i k' he
      injection h with h
      subst h
      obtain⟨r',hr,hf⟩:=awK i k' hys he
      exact R.to hf (bdx hmode ht hr)
     ·rename_i he
      exact aBf R hm (jump:=some (.exit i)) (by rw[ht];exact .exit (awL i hys he)) (by simp[ae8]) h
    |region i ops d=>
     cases d with
     |false=>simp only[ae8]at hc;subst hc;simp only at h;injection h with h;subst h;exact R.to (k':= .inRegion ops (List.range ops.size)::ys) (.cons aWK hys) (a1B hmode ht)
     |true=>
      simp only[ae8]at hc
      rcases apm (P:=P) ops with⟨F,hF⟩|hF|hF
      ·rw[hF]at hc;subst hc;simp only at h;injection h with h;subst h;exact a1O E R hm hys ht hF
      ·rw[hF]at hc;subst hc;simp at h
      ·rw[hF]at hc;subst hc;simp at h
    |rangeFunc f ps a b=>
     simp only[ae8]at hc
     split at hc
     ·rename_i u hu
      subst hc
      simp only at h
      split at h
      ·rename_i g hg
       exact aWY hC R hm ht hys hu hg h
      ·contradiction
     ·subst hc;simp at h
    |scope x=>simp only[ae8]at hc;subst hc;simp only at h;injection h with h;subst h;exact R.to (k':= .code x:: .inScope x::ys) (.cons rfl (.cons rfl hys)) (a7R hmode ht)
    |goto l=>simp only[ae8]at hc;subst hc;simp at h
    |refuse x=>simp only[ae8]at hc;subst hc;simp at h
   |inScope x=>
    have hc:c= .region []:=hy
    subst hc
    simp only at h
    injection h with h
    subst h
    exact R.stay (by rw[ht];exact .cons rfl hys)
   |_=>exact hy.elim
theorem aW4 (E:Ext P)(hC:Table P C)(R:ajq P φ dm bs s fr frs w)(hm:s.fr.mode= .run)(h:runN C s=some s'):Sim P φ dm bs s s' fr frs w:=by
 have hmode:fr.mode= .run:=by have:=R.fr.mode;rw[hm]at this;exact this
 cases hk:s.fr.todo with
 |nil=>
  have htodo:=R.fr.todo hm
  rw[hk]at htodo
  have ht:fr.todo= []:=by
   cases ht:fr.todo with
   |nil=>rfl
   |cons y ys=>rw[ht]at htodo;cases htodo
  unfold runN at h
  rw[hk]at h
  exact aBf R hm (jump:=none) (by rw[ht];exact .end_) rfl h
 |cons x k=>
  cases x with
  |code c=>exact a8W E hC R hm hk h
  |afm l=>
   cases l with
   |nil=>
    have htodo:=R.fr.todo hm
    rw[hk]at htodo
    unfold runN at h
    rw[hk]at h
    simp only at h
    injection h with h
    subst h
    cases ht:fr.todo with
    |nil=>rw[ht]at htodo;cases htodo
    |cons y ys=>
     rw[ht]at htodo
     cases htodo with
     |cons hy hys=>
      cases y with
      |inRegion ops idx=>
       have hy':ap9 (POk P ops) [] idx:=hy
       cases hy'
       exact R.to hys (ayj hmode ht)
      |inScope x=>exact R.to hys (aWC hmode ht)
      |_=>exact hy.elim
   |cons o l=>
    unfold runN at h
    rw[hk]at h
    simp only at h
    split at h
    ·rename_i hw;exact btD E hC R hm hk hw h
    ·rename_i hw
     split at h
     ·rename_i hok
      injection h with h
      subst h
      refine a8r R hm hk hw ?_
      have hnd:s.fr.dr=none:=R.fr.nd
      simp only[finish,ayd,hm,hnd,hk,hok,if_true]
     ·contradiction
    ·contradiction
  |inBlock i=>
   have htodo:=R.fr.todo hm
   rw[hk]at htodo
   unfold runN at h
   rw[hk]at h
   simp only at h
   injection h with h
   subst h
   cases ht:fr.todo with
   |nil=>rw[ht]at htodo;cases htodo
   |cons y ys=>
    rw[ht]at htodo
    cases htodo with
    |cons hy hys=>
     cases y with
     |inBlock j=>exact R.to hys (aWD hmode ht)
     |_=>exact hy.elim
  |inLoop b=>
   have htodo:=R.fr.todo hm
   rw[hk]at htodo
   unfold runN at h
   rw[hk]at h
   simp only at h
   injection h with h
   subst h
   cases ht:fr.todo with
   |nil=>rw[ht]at htodo;cases htodo
   |cons y ys=>
    rw[ht]at htodo
    cases htodo with
    |cons hy hys=>
     cases y with
     |inLoop j=>exact R.to (k':= .code j:: .inLoop j::ys) (.cons hy (.cons hy hys)) (a1z hmode ht)
     |_=>exact hy.elim
  |inRange l=>unfold runN at h;rw[hk]at h;simp at h
  |arn l=>
   unfold runN at h
   rw[hk]at h
   simp only at h
   split at h
   ·rename_i ρ nt fn ps a b st pend d hb
    split at h
    ·contradiction
    ·rename_i hst
     injection h with h
     subst h
     exact aOo R hm hk hb hst
   ·contradiction
  |beginRound=>
   unfold runN at h
   rw[hk]at h
   simp only at h
   split at h
   ·rename_i l hr
    split at h
    ·rename_i ρ nt fn ps a b pend d hb
     split at h
     ·rename_i hlim
      injection h with h
      subst h
      exact aHt R hm hk hr hb hlim
     ·contradiction
    ·contradiction
   ·contradiction
theorem aCX (E:Ext P)(hC:Table P C)(R:ais P φ dm bs s fr frs w)(h:asx C s=some s'):Sim P φ dm bs s s' fr frs w:=by
 unfold asx at h
 split at h
 ·rename_i hm
  unfold a7J at h
  split at h
  ·rename_i d hd;exact aW3 E hC R hd h
  ·rename_i hd;exact aW4 E hC (R.plain hd) hm h
 ·rename_i hm
  have hnd:s.fr.dr=none:=by
   cases hd:s.fr.dr with
   |none=>rfl
   |some d=>
    obtain⟨_,_,_,_,_,A,_⟩:=AtD.of R hd
    exact absurd A.mode hm
  replace R:=R.plain hnd
  split at h
  ·rename_i b ds hds
   split at h
   ·rename_i hb
    split at h
    ·rename_i hlim
     injection h with h
     subst h
     exact a8F R hm hds hb hlim
    ·contradiction
   ·contradiction
  ·rename_i f args ds hds
   split at h
   ·rename_i g first cap
    split at h
    ·rename_i af he
     injection h with h
     subst h
     exact aOq hC R hm hds he
    ·contradiction
   ·contradiction
  ·rename_i hds
   split at h
   ·rename_i ch hmm
    split at h
    ·rename_i c cs hcs
     split at h
     ·contradiction
     ·rename_i hcm
      split at h
      ·rename_i af ha
       injection h with h
       subst h
       exact a1C R hmm hds hcs (fun o ho=>hcm o ho) ha
      ·contradiction
    ·contradiction
   ·rename_i hnp
    split at h
    ·rename_i pf hpf
     split at h
     ·rename_i v hv
      refine aWW hC R ?_ hds hpf hv h
      cases hmm:s.fr.mode with
      |run=>exact absurd hmm hm
      |returning=>rfl
      |panicking ch=>exact absurd hmm (hnp ch)
     ·contradiction
    ·contradiction
end
end Ex
end Go.Proofs.YtfehlbepjmmkeaaGreatDoor
