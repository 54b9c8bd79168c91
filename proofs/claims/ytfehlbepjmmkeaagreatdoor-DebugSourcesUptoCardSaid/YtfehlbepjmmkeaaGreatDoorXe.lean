/-
  DERIVED. An abstract machine, and that its runs are runs of the model: part 5 of 11. No condition.
-/
import Derived.Test.YtfehlbepjmmkeaaGreatDoorXd
import Derived.Lib.Bytealg
import Derived.RangeFuncLeaves
namespace Go.Proofs.YtfehlbepjmmkeaaGreatDoor
set_option linter.unusedSimpArgs false
set_option linter.unusedVariables false
open Go.RowKit
namespace Ex
noncomputable section
variable {P:Program}{φ:Nat→Loc}{dm:Nat→Prop}{g:Nat→Option AV}{a:Act}{H H':AH}{w:World}{v:AV}
theorem anU {op:Op}{ir:IR}(h:apg P op=ir):(∃x,aqw P op=some x∧ir= .p x)∨ag7 P op=ir:=by
 unfold apg at h
 split at h
 ·rename_i n x y hp
  split at h
  ·rename_i n' x' y' hm
   right;rw[hm,h]
  ·left;exact⟨_,hp,h.symm⟩
 ·rename_i x _ hp
  left;exact⟨x,hp,h.symm⟩
 ·right;exact h
def IR.once:IR→Bool
 | .call .. | .atb .. | .inv .. | .defer .. | .panic .. | .recover| .bad=>false
 |_=>true
theorem arr1 {α:Type}{l:Array α}{x:α}(h:l.toList= [x]):l= #[x]:=by apply ac4.1;rw[h]
theorem bdy {α:Type}{l:Array α}{x y:α}(h:l.toList= [x,y]):l= #[x,y]:=by apply ac4.1;rw[h]
theorem aro {l:List Operand}{u:Od}(h:ajY l=some [u]):∃x,l= [x]∧adC x=some u:=by
 cases l with
 |nil=>simp[ajY]at h
 |cons x l=>
  simp only[ajY]at h
  split at h
  ·rename_i y z h1 h2
   injection h with h
   injection h with h3 h4
   subst h3 h4
   cases l with
   |nil=>exact⟨x,rfl,h1⟩
   |cons y' l=>simp only[ajY]at h2;split at h2<;>simp at h2
  ·contradiction
theorem auW {l:List Operand}{u q:Od}(h:ajY l=some [u,q]):∃x y,l= [x,y]∧adC x=some u∧adC y=some q:=by
 cases l with
 |nil=>simp[ajY]at h
 |cons x l=>
  simp only[ajY]at h
  split at h
  ·rename_i y z h1 h2
   injection h with h
   injection h with h3 h4
   subst h3 h4
   obtain⟨y,hl,hy⟩:=aro h2
   exact⟨x,y,by rw[hl],h1,hy⟩
  ·contradiction
theorem auX (x y:Operand):(#[x,y]:Array Operand).map a.eval= #[a.eval x,a.eval y]:=by simp
theorem auY (x:Operand):(#[x]:Array Operand).map a.eval= #[a.eval x]:=by simp
theorem a7U {ts:Array TypeId}{ty:TypeId}{x:Operand}{u:Od}(hx:adC x=some u)(hv:acA g H (.aRI u)=some (v,H'))(R:RR φ dm g a)(hr:Rel P φ dm H w):
 Good P φ dm H w ((do pure (Next.value (←Builtin.unsafeSliceData_ ts ty #[a.eval x])):Sem Next).run P w) v H':=by
 simp only[acA]at hv
 split at hv
 ·rename_i he
  injection hv with hv
  injection hv with h1 h2
  subst h1
  subst h2
  obtain⟨e1,_⟩:=abU R hx he
  exact Good.still (afs _ (by rw[e1];rfl)) (by simp[sc]) hr
 ·rename_i b o d n c he
  split at hv
  ·contradiction
  ·rename_i hc
   injection hv with hv
   injection hv with h1 h2
   subst h1
   subst h2
   obtain⟨e1,e2⟩:=abU R hx he
   refine Good.still (afs _ ?_) e2 hr
   rw[e1]
   simp only[abe]
   rw[if_neg (by omega)]
   have hne:c+(φ b).ext≠0:=by omega
   exact Lib.run_unsafeSliceData_row _ _ _ _ _ _ hne
 ·contradiction
theorem aKX (l n:Nat):(aj9 l n).data.toList=ai8 n l:=by simp[aj9]
theorem a7Z {c n:Nat}(hc:c<256):(UInt8.ofNat (n%256)==c.toUInt8)=decide (n%256=c):=by
 rw[ace,beq_iff_eq,decide_eq_true_iff]
 constructor
 ·intro h
  have:=congrArg UInt8.toNat h
  simp at this
  omega
 ·intro h;rw[h]
theorem aHd (c:Nat):∀(l n i j:Nat),aoO c l n i=some j→i≤j
 |0,n,i,j,h=>by simp[aoO]at h
 |l+1,n,i,j,h=>by
  simp only[aoO]at h
  split at h
  ·injection h with h;omega
  ·have:=aHd c l _ _ _ h;omega
theorem ayt (c:Nat)(hc:c<256):∀(l n i:Nat),(match aoO c l n i with|some j=>(j:Int) - i|none=> -1)=Lib.indexByte (ai8 n l) c.toUInt8
 |0,n,i=>rfl
 |l+1,n,i=>by
  simp only[aoO,ai8]
  unfold Lib.indexByte
  rw[a7Z hc]
  by_cases h:n%256=c
  ·simp[h]
  ·rw[if_neg h]
   simp only[h,decide_false,acf,if_false]
   rw[←ayt c hc l (n / 256) (i+1)]
   cases hq:aoO c l (n / 256) (i+1)with
   |none=>simp
   |some j=>
    have:=aHd c l _ _ _ hq
    have h9:((j:Int) - ((i+1:Nat):Int)== -1)=false:=by rw[beq_eq_false_iff_ne];omega
    simp only[h9,acf,if_false]
    omega
theorem ayw (c:Nat)(hc:c<256):∀(l n:Nat),axX c l n=Lib.countByte (ai8 n l) c.toUInt8
 |0,n=>rfl
 |l+1,n=>by
  simp only[axX,ai8,Lib.countByte,List.count_cons,a7Z hc]
  have:=ayw c hc l (n / 256)
  simp only[Lib.countByte]at this
  rw[this,Nat.add_comm]
  by_cases h:n%256=c<;>simp[h]
theorem aHi (E:Ext P){dst:Option Nat}{c:Call}{type:TypeId}{pos:String}{after:Array Edge}{guard:Option (Nat×Bool)}{ir:IR}(h:ag7 P (.call c)=ir)(ho:ir.once=true)(hv:acA g H ir=some (v,H'))(R:RR φ dm g a)(hr:Rel P φ dm H w):
 Good P φ dm H w ((execOp a.eval ⟨dst,.call c,type,pos,after,guard⟩).run P w) v H':=by
 obtain⟨callee,args,ts⟩:=c
 cases callee with
 |invoke r m=>
  simp only[ag7]at h
  split at h<;>(subst h;simp[IR.once]at ho)
 |value f=>
  cases f with
  |func f=>
   have hex:(execOp a.eval ⟨dst,.call ⟨.value (.func f),args,ts⟩,type,pos,after,guard⟩).run P w=(callFunc f (args.map a.eval)).run P w:=by
    show(do let d←Deferred.ofValue (.func (.func f) #[] #[]) (args.map a.eval);invoke d.target d.args:Sem Next).run P w=_
    simp[Deferred.ofValue,invoke]
   simp only[ag7]at h
   split at h
   ·rename_i l fn h1 h2
    split at h
    ·subst h;simp[IR.once]at ho
    ·rename_i hnb
     have fin:∀{vs:List AV}{x:Value},evs g l=some vs→(callFunc f (ab2 φ vs).toArray).run P w= .ok (.value (abe φ v)) w→sc dm v→H'=H→Good P φ dm H w ((execOp a.eval ⟨dst,.call ⟨.value (.func f),args,ts⟩,type,pos,after,guard⟩).run P w) v H':=by
      intro vs x hvs hrun hs hH
      subst hH
      obtain⟨q1,q2⟩:=aq6 R h1 hvs
      rw[hex]
      have:args.map a.eval=(ab2 φ vs).toArray:=by apply ac4.1;rw[Array.toList_map,q1]
      rw[this]
      exact Good.still hrun hs hr
     split at h
     ·rename_i hname
      have hnb':¬fn.body.isSome=true:=fun hb=>hnb ⟨hb,by rw[hname];decide⟩
      subst h
      simp only[acA]at hv
      split at hv
      ·rename_i l0 n0 c0 _ hvs
       split at hv
       ·rename_i hc
        injection hv with hv
        injection hv with k1 k2
        subst k1
        refine fin (x:=undef) hvs (E.idx f fn h2 hnb' hname _ _ _ ?_) trivial k2.symm
        have:=Lib.run_indexByteString (P:=P) (aj9 l0 n0) c0 w
        simp only[ab2,abe]
        rw[this,aKX,←ayt _ hc l0 n0 0]
        simp
        cases aoO c0.toNat l0 n0 0<;>rfl
       ·contradiction
      ·rename_i heq _;cases heq
      ·rename_i heq _;cases heq
      ·contradiction
     ·split at h
      ·rename_i hname
       have hnb':¬fn.body.isSome=true:=fun hb=>hnb ⟨hb,by rw[hname];decide⟩
       subst h
       simp only[acA]at hv
       split at hv
       ·rename_i heq _;cases heq
       ·rename_i l0 n0 c0 _ hvs
        split at hv
        ·rename_i hc
         injection hv with hv
         injection hv with k1 k2
         subst k1
         refine fin (x:=undef) hvs (E.cnt f fn h2 hnb' hname _ _ _ ?_) trivial k2.symm
         have:=Lib.run_countString (P:=P) (aj9 l0 n0) c0 w
         simp only[ab2,abe]
         rw[this,aKX,←ayw _ hc l0 n0]
        ·contradiction
       ·rename_i heq _;cases heq
       ·contradiction
      ·split at h
       ·rename_i hname
        have hnb':¬fn.body.isSome=true:=fun hb=>hnb ⟨hb,by rw[hname];decide⟩
        subst h
        simp only[acA]at hv
        split at hv
        ·rename_i heq _;cases heq
        ·rename_i heq _;cases heq
        ·rename_i x _ hvs
         injection hv with hv
         injection hv with k1 k2
         subst k1
         obtain⟨q1,q2⟩:=aq6 R h1 hvs
         exact fin (x:=undef) hvs (E.esc f fn h2 hnb' hname _ _) q2.1 k2.symm
        ·contradiction
       ·subst h;simp[IR.once]at ho
   ·subst h;simp[IR.once]at ho
  |_=>
   simp only[ag7]at h
   split at h<;>(subst h;simp[IR.once]at ho)
 |builtin b=>
  have hex:∀(s:Sem Value),builtin b ts type (args.map fun| .const _=>true|_=>false) (args.map a.eval)=(do pure (.value (←s)))→
   (execOp a.eval ⟨dst,.call ⟨.builtin b,args,ts⟩,type,pos,after,guard⟩)=(do pure (.value (←s))):=by
   intro s hs
   rw[←hs]
   rfl
  cases b<;>simp only[ag7]at h<;>(try (subst h;simp[IR.once]at ho;done))
  case append=>
   split at h
   ·rename_i u q e d h1 h2 h3
    split at h
    ·rename_i n h4
     split at h
     ·rename_i h5
      subst h
      obtain⟨x,y,hl,hx,hy⟩:=auW h1
      rw[hex _ rfl,bdy hl,auX]
      obtain⟨t,ht0,ht⟩:=aeH.1 h2
      obtain⟨t1,ht1,hd⟩:=aeH.1 h3
      exact a1k ht0 ht ht1 hd h5.2.1 h4 h5.1 h5.2.2 hx hy hv R hr
     ·subst h;simp[IR.once]at ho
    ·subst h;simp[IR.once]at ho
   ·subst h;simp[IR.once]at ho
  case copy=>
   split at h
   ·rename_i u q e h1 h2
    split at h
    ·rename_i n h4
     subst h
     obtain⟨x,y,hl,hx,hy⟩:=auW h1
     rw[hex _ rfl,bdy hl,auX]
     obtain⟨t,ht0,ht⟩:=aeH.1 h2
     exact bcX ht0 ht h4 hx hy hv R hr
    ·subst h;simp[IR.once]at ho
   ·subst h;simp[IR.once]at ho
  case delete=>
   split at h
   ·rename_i u q kd e h1 h2
    subst h
    obtain⟨x,y,hl,hx,hy⟩:=auW h1
    rw[hex _ rfl,bdy hl,auX]
    obtain⟨t,ht0,ht⟩:=aeH.1 h2
    exact a1q ht0 ht hx hy hv R hr
   ·subst h;simp[IR.once]at ho
  case len=>
   split at h
   ·rename_i u k e h1 h2
    subst h
    obtain⟨x,hl,hx⟩:=aro h1
    rw[hex _ rfl,arr1 hl,auY]
    obtain⟨t,ht0,ht⟩:=aeH.1 h2
    exact bcZ ht0 ht hx hv R hr
   ·subst h;simp[IR.once]at ho
  case cap=>
   split at h
   ·rename_i u e h1 h2
    subst h
    obtain⟨x,hl,hx⟩:=aro h1
    rw[hex _ rfl,arr1 hl,auY]
    obtain⟨t,ht0,ht⟩:=aeH.1 h2
    exact bs1 ht0 ht hx hv R hr
   ·subst h;simp[IR.once]at ho
  case unsafeSliceData=>
   split at h
   ·rename_i u h1
    subst h
    obtain⟨x,hl,hx⟩:=aro h1
    rw[hex _ rfl,arr1 hl,auY]
    exact a7U hx hv R hr
   ·subst h;simp[IR.once]at ho
  case unsafeString=>
   split at h
   ·rename_i u q e h1 h2
    split at h
    ·rename_i hc
     subst h
     obtain⟨x,y,hl,hx,hy⟩:=auW h1
     rw[hex _ rfl,bdy hl,auX]
     obtain⟨t,ht0,ht⟩:=aeH.1 h2
     exact bdi ht0 ht hc hx hy hv R hr
    ·subst h;simp[IR.once]at ho
   ·subst h;simp[IR.once]at ho
  case recover=>split at h<;>(subst h;simp[IR.once]at ho)
  case panic=>split at h<;>(subst h;simp[IR.once]at ho)
theorem aCP (E:Ext P){o:Oper}{ir:IR}(h:ag7 P o.op=ir)(ho:ir.once=true)(hv:acA g H ir=some (v,H'))(R:RR φ dm g a)(hr:Rel P φ dm H w):
 Good P φ dm H w ((execOp a.eval o).run P w) v H':=by
 obtain⟨dst,op,type,pos,after,guard⟩:=o
 simp only at h
 cases op<;>simp only[ag7]at h<;>(try (subst h;simp[IR.once]at ho;done))
 case load t x=>
  split at h
  ·rename_i n u h1 h2 h3;subst h;exact aX6 (n:=some n) h3 ⟨h1,h2⟩ hv R hr
  ·rename_i u h1 h2 h3;subst h;exact aX6 (n:=none) h3 h1 hv R hr
  ·subst h;simp[IR.once]at ho
 case store t x y=>
  split at h
  ·rename_i n u z h1 h2 h3;subst h;exact a6O h2 h3 h1 hv R hr
  ·subst h;simp[IR.once]at ho
 case alloc t=>
  split at h
  ·rename_i l h1;subst h;exact bsV h1 hv hr
  ·subst h;simp[IR.once]at ho
 case box t x=>
  split at h
  ·rename_i u h1;subst h;exact bsY h1 hv R hr
  ·subst h;simp[IR.once]at ho
 case buildSlice t n parts=>
  split at h
  ·rename_i e h1
   split at h
   ·rename_i s z h2 h3
    split at h
    ·rename_i ps h4
     split at h
     ·rename_i h5;subst h;exact bsZ h1 h2 h3 h4 h5 hv R hr
     ·subst h;simp[IR.once]at ho
    ·subst h;simp[IR.once]at ho
   ·subst h;simp[IR.once]at ho
  ·subst h;simp[IR.once]at ho
 case makeSlice t l c=>
  split at h
  ·rename_i e h1
   split at h
   ·rename_i s z l' c' h2 h3 h4 h5
    split at h
    ·rename_i h6;subst h;exact a6Z h1 h2 h3 h4 h5 h6 hv R hr
    ·subst h;simp[IR.once]at ho
   ·subst h;simp[IR.once]at ho
  ·subst h;simp[IR.once]at ho
 case makeMap t r=>
  cases r with
  |none=>simp only[]at h;subst h;exact aIY hv hr
  |some r=>
   simp only[]at h
   split at h
   ·rename_i k e u h1 h2;subst h;exact aI1 h1 h2 hv R hr
   ·subst h;simp[IR.once]at ho
 case lookup t m k ok=>
  split at h
  ·rename_i kd e h1
   split at h
   ·rename_i z m' k' h2 h3 h4;subst h;exact a1o h1 h2 h3 h4 hv R hr
   ·subst h;simp[IR.once]at ho
  ·subst h;simp[IR.once]at ho
 case mapUpdate t m k x=>
  split at h
  ·rename_i kd e m' k' v' h1 h2 h3 h4;subst h;exact aKM h1 h2 h3 h4 hv R hr
  ·subst h;simp[IR.once]at ho
 case insert t m k x=>
  split at h
  ·rename_i kd e m' k' v' h1 h2 h3 h4;subst h;exact aKM h1 h2 h3 h4 hv R hr
  ·subst h;simp[IR.once]at ho
 case binOp op t x y yt=>
  split at h
  ·rename_i u q h1 h2
   split at h
   ·rename_i e h3
    split at h
    ·rename_i n h4
     split at h
     ·subst h;simp[IR.once]at ho
     ·rename_i h0
      split at h
      ·rename_i he
       have he':op= .eql:=by simpa using he
       subst he'
       subst h
       exact a7n h3 h4 h0 (.inl rfl) h1 h2 hv R hr
      ·split at h
       ·rename_i hne he
        have he':op= .neq:=by simpa using he
        subst he'
        subst h
        exact a7n h3 h4 h0 (.inr rfl) h1 h2 hv R hr
       ·subst h;simp[IR.once]at ho
    ·subst h;simp[IR.once]at ho
   ·subst h;simp[IR.once]at ho
  ·subst h;simp[IR.once]at ho
 case slice t x lo hi mx=>
  cases mx with
  |some m=>simp only[]at h;subst h;simp[IR.once]at ho
  |none=>
   simp only[]at h
   split at h
   ·rename_i u l hh n e h1 h2 h3 h4
    split at h
    ·rename_i s h5;subst h;exact a1n h1 h2 h3 h4 h5 hv R hr
    ·subst h;simp[IR.once]at ho
   ·subst h;simp[IR.once]at ho
 case convert src dst x=>
  split at h
  ·rename_i e u h1 h2 h3
   split at h
   ·rename_i h4;subst h;exact bs6 h1 h2 h4 h3 hv R hr
   ·subst h;simp[IR.once]at ho
  ·rename_i t u h1 h2 h3
   split at h
   ·rename_i n h4
    split at h
    ·subst h;simp[IR.once]at ho
    ·rename_i h5;subst h;exact bs9 h1 h2 h4 h5 h3 hv R hr
   ·subst h;simp[IR.once]at ho
  ·rename_i t u h1 h2 h3
   split at h
   ·rename_i n h4
    split at h
    ·rename_i h5;subst h;exact bta h1 h2 h4 h5 h3 hv R hr
    ·subst h;simp[IR.once]at ho
   ·subst h;simp[IR.once]at ho
  ·subst h;simp[IR.once]at ho
 case range t x=>
  split at h
  ·rename_i k e u h1 h2;subst h;exact a1r h1 h2 hv R hr
  ·subst h;simp[IR.once]at ho
 case next it b=>
  cases b with
  |true=>simp only[]at h;subst h;simp[IR.once]at ho
  |false=>
   simp only[]at h
   split at h
   ·rename_i u h1;subst h;exact bde h1 hv R hr
   ·subst h;simp[IR.once]at ho
 case entry it=>
  split at h
  ·rename_i u h1;subst h;exact a7r h1 hv R hr
  ·subst h;simp[IR.once]at ho
 case call c=>exact aHi E h ho hv R hr
 case defer c=>
  split at h
  ·split at h<;>(subst h;simp[IR.once]at ho)
  ·subst h;simp[IR.once]at ho
 case panic x=>
  split at h<;>(subst h;simp[IR.once]at ho)
end
end Ex
namespace Ex
noncomputable section
variable {P:Program}{C:T PF}{φ:Nat→Loc}{dm:Nat→Prop}{bs:List Frame}{s s':AS}{fr:Frame}{frs cs:List Frame}{w w':World}{k:List Item}
theorem aHk {ops:Array Oper}{i:Nat}{rest:List Nat}{o:Oper}(hm:fr.mode= .run)(ht:fr.todo= .inRegion ops (i::rest)::k)(ho:ops[i]? =some o)(hw:Region.wanted o (yielded ops fr.tmps)=true)
 (hd:fr.roundOf=none∨∀c,o.op≠ .defer c):
 stepG P true {frame:=fr,callers:=cs,status:= .running,dying:=none} w=stepG.apply P true fr cs none (execOp fr.eval o) w:=by
 have h1:(((ops[i]?).map (Region.wanted · (yielded ops fr.tmps))).getD false)=true:=by rw[ho];exact hw
 simp only[stepG,hm]
 simp only[stepG.exec,ht,h1,if_true]
 simp only[stepG.oper,Frame.oper?,ht,ho]
 split
 ·rename_i l c hr hop
  rcases hd with hd|hd
  ·rw[hd]at hr;cases hr
  ·exact absurd hop (hd c)
 ·rfl
theorem arp {ops:Array Oper}{i:Nat}{rest:List Nat}{o:Oper}{v:Value}(hm:fr.mode= .run)(ht:fr.todo= .inRegion ops (i::rest)::k)(ho:ops[i]? =some o)(hw:Region.wanted o (yielded ops fr.tmps)=true)
 (hd:fr.roundOf=none∨∀c,o.op≠ .defer c)(hr:(execOp fr.eval o).run P w= .ok (.value v) w'):step P (lone fr cs w)= .next (lone (fr.finish v) cs w'):=
 step_lone_go (by rw[aHk hm ht ho hw hd];simp[stepG.apply,hr])
theorem aol {ops:Array Oper}{i:Nat}{rest:List Nat}{o:Oper}(hm:fr.mode= .run)(ht:fr.todo= .inRegion ops (i::rest)::k)(ho:ops[i]? =some o)(hw:Region.wanted o (yielded ops fr.tmps)=true)
 (hd:fr.roundOf=none∨∀c,o.op≠ .defer c)(hr:(execOp fr.eval o).run P w= .ok .skip w'):step P (lone fr cs w)= .next (lone (fr.finish undef) cs w'):=
 step_lone_go (by rw[aHk hm ht ho hw hd];simp[stepG.apply,hr])
theorem a8c {ops:Array Oper}{i:Nat}{rest:List Nat}{o:Oper}{f:FuncId}{args:Array Value}(hm:fr.mode= .run)(ht:fr.todo= .inRegion ops (i::rest)::k)(ho:ops[i]? =some o)(hw:Region.wanted o (yielded ops fr.tmps)=true)
 (hd:fr.roundOf=none∨∀c,o.op≠ .defer c)(hr:(execOp fr.eval o).run P w= .ok (.enter f args) w'):step P (lone fr cs w)= .next (lone (Frame.enter P f args .normal) (fr::cs) w'):=
 step_lone_go (by rw[aHk hm ht ho hw hd];simp[stepG.apply,hr,ht])
theorem a8e {ops:Array Oper}{i:Nat}{rest:List Nat}{o:Oper}{l:Nat}{f:FuncId}{tmps:Array Value}{asg body:Code}(hm:fr.mode= .run)(ht:fr.todo= .inRegion ops (i::rest)::k)(ho:ops[i]? =some o)(hw:Region.wanted o (yielded ops fr.tmps)=true)
 (hd:fr.roundOf=none∨∀c,o.op≠ .defer c)(hr:(execOp fr.eval o).run P w= .ok (.round l f tmps asg body) w'):step P (lone fr cs w)= .next (lone (Frame.round l f tmps asg body .normal) (fr::cs) w'):=
 step_lone_go (by rw[aHk hm ht ho hw hd];simp[stepG.apply,hr])
theorem a8l {ops:Array Oper}{i:Nat}{rest:List Nat}{o:Oper}{d:Deferred}(hm:fr.mode= .run)(ht:fr.todo= .inRegion ops (i::rest)::k)(ho:ops[i]? =some o)(hw:Region.wanted o (yielded ops fr.tmps)=true)
 (hd:fr.roundOf=none)(hr:(execOp fr.eval o).run P w= .ok (.defer d) w'):step P (lone fr cs w)= .next (lone ({fr with defers:=d::fr.defers}.finish undef) cs w'):=
 step_lone_go (by rw[aHk hm ht ho hw (.inl hd)];simp[stepG.apply,hr])
theorem a8n {ops:Array Oper}{i:Nat}{rest:List Nat}{o:Oper}{v:Value}(hm:fr.mode= .run)(ht:fr.todo= .inRegion ops (i::rest)::k)(ho:ops[i]? =some o)(hw:Region.wanted o (yielded ops fr.tmps)=true)
 (hd:fr.roundOf=none∨∀c,o.op≠ .defer c)(hr:(execOp fr.eval o).run P w= .halt (.panic v) w'):step P (lone fr cs w)= .next (lone {fr with mode:= .panicking [{v,recovered:=false}]} cs w'):=
 step_lone_go (by rw[aHk hm ht ho hw hd];simp[stepG.apply,hr,Frame.raise,hm])
theorem arP {ops:Array Oper}{o:Oper}{b:Bool}(h:wanted s.fr.ρ.get (guardOf ops o)=some b)(R:akQ P φ dm s.fr fr):Region.wanted o (yielded ops fr.tmps)=b:=by
 unfold guardOf at h
 unfold Region.wanted
 cases hg:o.guard with
 |none=>rw[hg]at h;simpa[wanted]using h
 |some gw=>
  obtain⟨j,want⟩:=gw
  rw[hg]at h
  simp only at h ⊢
  cases hd:(ops[j]?).bind (·.dst)with
  |none=>
   rw[hd]at h
   simp[wanted]at h
  |some d=>
   rw[hd]at h
   simp only[wanted]at h
   split at h
   ·rename_i c hc
    injection h with h
    have h2:=(R.reg d _ hc).2
    have h3:fr.tmps[d]? =some (.bool c):=by
     simp only[acR,abe]at h2
     cases hx:fr.tmps[d]? with
     |none=>rw[hx]at h2;simp[undef]at h2
     |some y=>rw[hx]at h2;simp at h2;rw[h2]
    have hy:yielded ops fr.tmps j=some c:=by simp[yielded,hd,h3]
    rw[hy,←h]
    cases c<;>cases want<;>rfl
   ·rename_i hc
    injection h with h
    have h2:=(R.reg d _ hc).2
    have hy:yielded ops fr.tmps j=none:=by
     simp only[acR,abe,ab2]at h2
     simp only[yielded,hd,ags]
     cases hx:fr.tmps[d]? with
     |none=>rfl
     |some y=>rw[hx]at h2;simp at h2;rw[h2]
    rw[hy,←h]
    rfl
   ·contradiction
theorem a8q (E:Ext P)(R:ajq P φ dm bs s fr frs w)(hm:s.fr.mode= .run){o:PO}{l:List PO}{k:List AI}(hk:s.fr.todo= .afm (o::l)::k)(hw:wanted s.fr.ρ.get o.guard=some true)
 (ho:o.ir.once=true){v:AV}{H:AH}(hv:acA s.fr.ρ.get s.H o.ir=some (v,H)){af:AF}(hf:finish s.fr v=some af):Sim P φ dm bs s {s with fr:=af,H} fr frs w:=by
 have hmode:fr.mode= .run:=by have:=R.fr.mode;rw[hm]at this;exact this
 have htodo:=R.fr.todo hm
 rw[hk]at htodo
 cases ht:fr.todo with
 |nil=>rw[ht]at htodo;cases htodo
 |cons y ys=>
  rw[ht]at htodo
  cases htodo with
  |cons hy hys=>
   cases y with
   |inRegion ops idx=>
    have hy':ap9 (POk P ops) (o::l) idx:=hy
    cases hy' with
    | @cons _ i _ idx' ho' hl=>
      obtain⟨op,ho1,ho2,ho3,ho4⟩:=ho'
      rw[ho3]at hw
      have hwant:=arP hw R.fr
      have hnd:∀c,op.op≠ .defer c:=by
       intro c hc
       rw[ho4,hc]at ho
       have:aqw P (.defer c)=none:=rfl
       simp only[apg,this,ag7]at ho
       split at ho
       ·split at ho<;>simp[IR.once]at ho
       ·simp[IR.once]at ho
      have hg:Good P φ dm s.H w ((execOp (Act.mk fr.tmps fr.defers).eval op).run P w) v H:=by
       rcases anU ho4.symm with⟨x,hx1,hx2⟩|hx
       ·rw[hx2]at hv
        simp only[acA]at hv
        split at hv
        ·rename_i u hu
         injection hv with hv
         injection hv with h1 h2
         subst h1 h2
         obtain⟨e1,e2⟩:=aCt (P:=P) hx1 R.rr hu w
         exact Good.still e1 e2 R.heap
        ·contradiction
       ·exact aCP E hx ho hv R.rr R.heap
      rw[show(Act.mk fr.tmps fr.defers).eval=fr.eval from aoh (s:=s) R.fr]at hg
      obtain⟨φ',dm',w',nx,e1,e2,e3,e4,e5⟩:=hg
      have hfr:=amh hf (R.fr.mono e5.dms e5.ph) e3
      have hnd':af.lo=s.fr.lo:=by
       obtain⟨f1,f2⟩:=aqB hf (R.fr.mono e5.dms e5.ph).x (hi:=0) e3
       exact f2
      refine⟨φ',dm',_,frs,w',.one ?_,ajq.x ⟨hfr,by show af.lo≤H.next;rw[hnd'];exact aa7 R.hlo e5.next,by show Stk P φ' dm' af.lo s.cs frs;rw[hnd'];exact R.up e5,e4⟩,e5.s R.hlo⟩
      rcases e2 with rfl|⟨rfl,rfl⟩
      ·exact arp hmode ht ho1 hwant (.inr hnd) e1
      ·exact aol hmode ht ho1 hwant (.inr hnd) e1
   |_=>exact(by first|exact hy.elim|cases hy)
theorem a8r (R:ajq P φ dm bs s fr frs w)(hm:s.fr.mode= .run){o:PO}{l:List PO}{k:List AI}(hk:s.fr.todo= .afm (o::l)::k)(hw:wanted s.fr.ρ.get o.guard=some false)
 {af:AF}(hf:finish s.fr (.tup [])=some af):Sim P φ dm bs s {s with fr:=af} fr frs w:=by
 have hmode:fr.mode= .run:=by have:=R.fr.mode;rw[hm]at this;exact this
 have htodo:=R.fr.todo hm
 rw[hk]at htodo
 cases ht:fr.todo with
 |nil=>rw[ht]at htodo;cases htodo
 |cons y ys=>
  rw[ht]at htodo
  cases htodo with
  |cons hy hys=>
   cases y with
   |inRegion ops idx=>
    have hy':ap9 (POk P ops) (o::l) idx:=hy
    cases hy' with
    | @cons _ i _ idx' ho' hl=>
      obtain⟨op,ho1,ho2,ho3,ho4⟩:=ho'
      rw[ho3]at hw
      have hwant:=arP hw R.fr
      have hfr:=amh hf R.fr (v:= .tup []) (by simp[sc,scL])
      have hnd':af.lo=s.fr.lo:=(aqB hf R.fr.x (hi:=0) (v:= .tup []) (by simp[sc,scL])).2
      refine⟨φ,dm,_,frs,w,.one ?_,ajq.x ⟨hfr,by show af.lo≤s.H.next;rw[hnd'];exact R.hlo,by show Stk P φ dm af.lo s.cs frs;rw[hnd'];exact R.cs,R.heap⟩,.refl _ _ _ _ _⟩
      exact aKR hmode ht (by rw[ho1];exact hwant)
   |_=>exact(by first|exact hy.elim|cases hy)
end
end Ex
namespace Ex
noncomputable section
variable {P:Program}{C:T PF}{φ:Nat→Loc}{dm:Nat→Prop}{bs:List Frame}{s s':AS}{fr:Frame}{frs cs:List Frame}{w w':World}{k:List Item}
theorem atL (hC:Table P C){f:Nat}{pf:PF}(h:C.get f=some pf)(args:Array Value)(w:World):(callFunc f args).run P w= .ok (.enter f args) w:=by
 obtain⟨fn,c,h1,h2,h3,h4⟩:=hC f pf h
 simp[callFunc,h1,h2,h3]
theorem arR (hC:Table P C){f:Nat}{args:List AV}{d:Bool}{lo:Nat}{af:AF}(h:asY C f args d lo=some af)(hs:scL dm args):
 akQ P φ dm af (Frame.enter P f (ab2 φ args).toArray (if d then .deferred else .normal))∧(∃pf,C.get f=some pf)∧af.deferred=d∧af.mode= .run∧af.round=none∧af.lo=lo:=by
 unfold asY at h
 split at h
 ·rename_i pf hpf
  split at h
  ·rename_i hlen
   injection h with h
   subst h
   obtain⟨fn,c,h1,h2,h3,h4⟩:=hC f pf hpf
   refine⟨⟨rfl,⟨fn,h1⟩,?_,fun t v hv=>?_,?_,.nil,rfl,rfl,rfl,rfl⟩,⟨pf,hpf⟩,rfl,rfl,rfl,rfl⟩
   ·simp only[Frame.enter,h1,adn,ahc,h4,axM,Array.size_append,Array.size_replicate]
    omega
   ·rw[ahj _ _ _ _ (by unfold LIM;omega)]at hv
    split at hv
    ·rename_i ht
     rw[alp]at hv
     refine⟨aoL hs hv,?_⟩
     have hlt:t<(ab2 φ args).length:=by rw[adP];omega
     simp only[Frame.enter,acR]
     rw[agw (by simpa using hlt)]
     simp only[adY,agL,hv]
     rfl
    ·rw[T.akl]at hv;cases hv
   ·simp only[Frame.enter,h1,ags,h2,ahc]
    refine fun _=> .cons ?_ .nil
    show ae8 P c=pf.body
    rw[h4];simp[axM,h2]
  ·contradiction
 ·contradiction
structure bEn (P:Program)(φ:Nat→Loc)(dm:Nat→Prop)(bs:List Frame)(s:AS)(fr:Frame)(frs:List Frame)(w:World)(o:PO)(op:Oper):Prop where
 mode:fr.mode= .run
 at_:∃ops i rest k,fr.todo= .inRegion ops (i::rest)::k∧ops[i]? =some op∧Region.wanted op (yielded ops fr.tmps)=true
 ir:o.ir=apg P op.op
theorem bty (R:ajq P φ dm bs s fr frs w)(hm:s.fr.mode= .run){o:PO}{l:List PO}{k:List AI}(hk:s.fr.todo= .afm (o::l)::k)(hw:wanted s.fr.ρ.get o.guard=some true):
 ∃op,bEn P φ dm bs s fr frs w o op:=by
 have hmode:fr.mode= .run:=by have:=R.fr.mode;rw[hm]at this;exact this
 have htodo:=R.fr.todo hm
 rw[hk]at htodo
 cases ht:fr.todo with
 |nil=>rw[ht]at htodo;cases htodo
 |cons y ys=>
  rw[ht]at htodo
  cases htodo with
  |cons hy hys=>
   cases y with
   |inRegion ops idx=>
    have hy':ap9 (POk P ops) (o::l) idx:=hy
    cases hy' with
    | @cons _ i _ idx' ho' hl=>
      obtain⟨op,ho1,ho2,ho3,ho4⟩:=ho'
      rw[ho3]at hw
      exact⟨op,hmode,⟨ops,i,idx',ys,ht,ho1,arP hw R.fr⟩,ho4⟩
   |_=>exact(by first|exact hy.elim|cases hy)
theorem asy {nt:Nat}:∀(ps:List Nat)(vs:List AV)(ρ ρ':T AV)(tmps:Array Value),apI nt ps vs ρ=some ρ'→nt≤tmps.size→(∀t v,ρ.get t=some v→sc dm v∧tmps.getD t undef=abe φ v)→scL dm vs→
 ps.length=vs.length∧nt≤((ps.zip (ab2 φ vs)).foldl (fun t (p,v)=>t.setIfInBounds p v) tmps).size∧
  ∀t v,ρ'.get t=some v→sc dm v∧((ps.zip (ab2 φ vs)).foldl (fun t (p,v)=>t.setIfInBounds p v) tmps).getD t undef=abe φ v
 | [],[],ρ,ρ',tmps,h,hn,hr,_=>by injection h with h;subst h;exact⟨rfl,hn,hr⟩
 |p::ps,v::vs,ρ,ρ',tmps,h,hn,hr,hs=>by
  simp only[apI]at h
  split at h
  ·rename_i hp
   obtain⟨h1,h2,h3⟩:=asy ps vs _ ρ' (tmps.setIfInBounds p (abe φ v)) h (by simp;exact hn) (aYf hn hr hp hs.1) hs.2
   exact⟨by simp[h1],h2,h3⟩
  ·contradiction
 | [],v::vs,ρ,ρ',tmps,h,_,_,_=>by simp[apI]at h
 |p::ps,[],ρ,ρ',tmps,h,_,_,_=>by simp[apI]at h
inductive aRY (P:Program):Next→Frame→Prop where
 |enter {g:FuncId}{av:Array Value}:aRY P (.enter g av) (Frame.enter P g av .normal)
 |round {l:Nat}{f:FuncId}{tmps:Array Value}{asg body:Code}:aRY P (.round l f tmps asg body) (Frame.round l f tmps asg body .normal)
theorem aqC (hC:Table P C)(R:ais P φ dm bs s fr frs w){f:AV}{args:List AV}(h:ap5 C s f args=some s')(hf:sc dm f)(ha:scL dm args):
 ∃nx fr',(do let d←Deferred.ofValue (abe φ f) (ab2 φ args).toArray;invoke d.target d.args:Sem Next).run P w= .ok nx w∧aRY P nx fr'∧ajq P φ dm bs s' fr' (fr::frs) w∧s'.H=s.H:=by
 have hst:Stk P φ dm s.H.next (s.fr::s.cs) (fr::frs):= .cons R.fr R.hlo R.cs
 unfold ap5 at h
 split at h
 ·rename_i g first cap
  split at h
  ·rename_i af he
   injection h with h
   subst h
   have hs:scL dm (first++args++cap):=(agH dm _).2 fun v hv=>by
    rcases aaG.1 hv with h|h
    ·rcases aaG.1 h with h|h
     ·exact(agH dm _).1 hf.1 v h
     ·exact(agH dm _).1 ha v h
    ·exact(agH dm _).1 hf.2 v h
   obtain⟨e1,⟨pf,e2⟩,e3,e4,e5,e6⟩:=arR (φ:=φ) hC he hs
   have aWo:(ab2 φ first).toArray++(ab2 φ args).toArray++(ab2 φ cap).toArray=(ab2 φ (first++args++cap)).toArray:=by
    rw[ame,ame];simp
   refine⟨.enter g (ab2 φ (first++args++cap)).toArray,_,?_,.enter,⟨e1,by show af.lo≤s.H.next;omega,by show Stk P φ dm af.lo _ _;rw[e6];exact hst,R.heap⟩,rfl⟩
   rw[←aWo]
   simp only[abe,Deferred.ofValue,aa0,abA,aay,invoke]
   exact atL hC e2 _ w
  ·contradiction
 ·rename_i l
  split at h
  ·rename_i ρ nt fn ps asg body st pend ds hb
   split at h
   ·rename_i ρ' hp
    injection h with h
    subst h
    obtain⟨L,l1,l0,l00,l2,l3,l4,l5,l6,l7,l8,l9,l10⟩:=R.heap.blk l _ hb hf
    subst l4
    obtain⟨q1,q2,q3⟩:=asy L.params.toList args ρ ρ' L.tmps hp l0 l3 ha
    have q1':L.params.size=args.length:=by rw[←q1];simp
    have hfold:(L.params.zip (ab2 φ args).toArray).foldl (fun t (p,v)=>t.setIfInBounds p v) L.tmps=(L.params.toList.zip (ab2 φ args)).foldl (fun t (p,v)=>t.setIfInBounds p v) L.tmps:=by
     rw[←Array.foldl_toList];simp
    obtain⟨T0,hT⟩ :∃T0,T0=(L.params.toList.zip (ab2 φ args)).foldl (fun t (p,v)=>t.setIfInBounds p v) L.tmps:=⟨_,rfl⟩
    rw[←hT]at q2 q3 hfold
    refine⟨.round (φ l).blk L.fn T0 L.assign L.body,_,?_,.round,
     ⟨⟨?_,?_,q2,q3,?_,.nil,rfl,rfl,⟨rfl,hf⟩,rfl⟩,aai _,hst,R.heap⟩,rfl⟩
    ·rw[←hfold]
     have:=run_yield (P:=P) (args:=(ab2 φ args).toArray) l1 (by rw[q1'];simp[adP])
     simpa[abe,Deferred.ofValue,invoke]using this
    ·exact l2
    ·obtain⟨f',hf'⟩:=l00;exact⟨f',by show P.funcs[L.fn]? =_;rw[l2];exact hf'⟩
    ·exact fun _=> .cons l5 (.cons trivial (.cons l6 .nil))
   ·contradiction
  ·contradiction
 ·contradiction
theorem st_next {ops:Array Oper}{i:Nat}{rest:List Nat}{o:Oper}{nx:Next}{fr':Frame}(hm:fr.mode= .run)(ht:fr.todo= .inRegion ops (i::rest)::k)(ho:ops[i]? =some o)(hw:Region.wanted o (yielded ops fr.tmps)=true)
 (hd:∀c,o.op≠ .defer c)(hr:(execOp fr.eval o).run P w= .ok nx w')(hn:aRY P nx fr'):step P (lone fr cs w)= .next (lone fr' (fr::cs) w'):=by
 cases hn with
 |enter=>exact a8c hm ht ho hw (.inr hd) hr
 |round=>exact a8e hm ht ho hw (.inr hd) hr
theorem auZ (hC:Table P C)(R:ajq P φ dm bs s fr frs w){o:PO}{op:Oper}(A:bEn P φ dm bs s fr frs w o op)(hd:∀c,op.op≠ .defer c){f:AV}{args:List AV}(h:ap5 C s f args=some s')(hf:sc dm f)(ha:scL dm args)
 (hex:(execOp fr.eval op).run P w=(do let d←Deferred.ofValue (abe φ f) (ab2 φ args).toArray;invoke d.target d.args:Sem Next).run P w):Sim P φ dm bs s s' fr frs w:=by
 obtain⟨ops,i,rest,k,ht,ho,hw⟩:=A.at_
 obtain⟨nx,fr',n1,n2,n3,n4⟩:=aqC hC R.x h hf ha
 exact⟨φ,dm,fr',fr::frs,w,.one (st_next A.mode ht ho hw hd (hex.trans n1) n2),n3.x,by rw[n4];exact .refl _ _ _ _ _⟩
end
end Ex
namespace Ex
noncomputable section
variable {P:Program}{φ:Nat→Loc}{dm:Nat→Prop}{g:Nat→Option AV}{a:Act}{H:AH}{w:World}
theorem a8t {n:String}{i t f:Nat}{z:Option (Nat×Option Nat)}(h:atd P n i=some (t,f,z)):i=t:=by
 unfold atd at h
 repeat' split at h
 all_goals first
  |contradiction
  |(injection h with h;injection h with h _)
theorem asz {w:World}{t:TypeId}{i:TypeInfo}(h:P.info? t=some i):(typeInfo t).run P w= .ok i w:=by
 simp[typeInfo,h]
def a8u (P:Program)(w:World)(n:String)(t f fuel:Nat)(v:Value):Option (Nat×Option Nat)→Prop
 |none=>(method (fuel+1) t v n).run P w= .ok (f,v) w
 |some (off,k)=>∀b o,v= .pointer (some ⟨b,o,none⟩)→∃u,loadT P u k∧∀x,(loadVar u ⟨b,o+off,none⟩).run P w= .ok x w→(method (fuel+1) t v n).run P w= .ok (f,x) w
theorem aHo {n:String}{t f:Nat}{z:Option (Nat×Option Nat)}(h:atd P n t=some (t,f,z))(fuel:Nat)(v:Value):a8u P w n t f fuel v z:=by
 unfold atd at h
 split at h
 ·rename_i ti hti
  split at h
  ·rename_i m hm
   split at h
   ·rename_i f' ptr hf
    split at h
    ·rename_i hp
     have hp':m.path= #[]:=by simpa using hp
     have base:∀d,P.underlying t=some d→((∃e,d= .pointer e)∧ptr=true∨(∀e,d≠ .pointer e)∧ptr=false)→(method (fuel+1) t v n).run P w= .ok (f',v) w:=by
      intro d hd hc
      simp only[method,aa0,asz hti,aay,hm,hf]
      simp only[hp',follow,aa0,abA,aay,receiverAt,run_underlying hd]
      rcases hc with⟨⟨e,rfl⟩,rfl⟩|⟨hc,rfl⟩
      ·simp[Place.get]
      ·cases d<;>first|(exact absurd rfl (hc _))|simp[Place.get]
     split at h
     ·rename_i e hu
      split at h
      ·rename_i btA
       injection h with h;injection h with _ h;injection h with h1 h2
       subst h1 h2
       exact base _ hu (.inl ⟨⟨e,rfl⟩,btA⟩)
      ·contradiction
     ·rename_i d hu hne
      split at h
      ·contradiction
      ·rename_i btA
       injection h with h;injection h with _ h;injection h with h1 h2
       subst h1 h2
       exact base _ hne (.inr ⟨fun e he=>hu e (by rw[he]),by simpa using btA⟩)
     ·contradiction
    ·split at h
     ·rename_i st hl
      split at h
      ·rename_i hd
       split at h
       ·rename_i fs hst
        split at h
        ·rename_i fd hfd
         split at h
         ·contradiction
         ·rename_i d hnp hu
          have main:∀(k:Option Nat)(sz:Nat),sizeT P fd.type=some sz→sz≠0→loadT P fd.type k→f'=f→z=some (fd.offset,k)→a8u P w n t f fuel v z:=by
           intro k sz hsz hsz0 hlt hff hz
           subst hff hz
           intro b o hv
           refine⟨fd.type,hlt,fun x hx=>?_⟩
           subst hv
           simp only[method,aa0,asz hti,aay,hm,hf]
           simp only[hl,follow,aa0,run_underlying hst,aay,hfd,hd,if_true,Place.get,abA,asAddr,fieldPlace,aeb hsz,if_neg hsz0,agO,receiverAt,run_underlying hu]
           cases d<;>first|(exact absurd rfl (hnp _))|simp[hx]
          split at h
          ·rename_i sz h1 h2
           split at h
           ·contradiction
           ·rename_i hsz0
            injection h with h;injection h with _ h;injection h with h3 h4
            exact main (some sz) sz h2 hsz0 ⟨h1,h2⟩ h3 h4.symm
          ·rename_i sz h1 h2
           split at h
           ·contradiction
           ·rename_i hsz0
            injection h with h;injection h with _ h;injection h with h3 h4
            exact main none sz h2 hsz0 h1 h3 h4.symm
          ·contradiction
         ·contradiction
        ·contradiction
       ·contradiction
      ·contradiction
     ·contradiction
   ·contradiction
  ·contradiction
 ·contradiction
inductive From (P:Program):Op→IR→Prop where
 |call {f:Nat}{args:Array Operand}{ts:Array TypeId}{l:List Od}(h:ajY args.toList=some l):From P (.call ⟨.value (.func f),args,ts⟩) (.call f l)
 |atb {f:Operand}{args:Array Operand}{ts:Array TypeId}{l:List Od}{u:Od}(h:ajY args.toList=some l)(hf:adC f=some u):From P (.call ⟨.value f,args,ts⟩) (.atb u l)
 |inv {r:Operand}{n:String}{args:Array Operand}{ts:Array TypeId}{l:List Od}{u:Od}(h:ajY args.toList=some l)(hf:adC r=some u):From P (.call ⟨.invoke r n,args,ts⟩) (.inv u ((List.range P.types.size).filterMap (atd P n)) l)
 |defer {f:Operand}{args:Array Operand}{ts:Array TypeId}{l:List Od}{u:Od}(h:ajY args.toList=some l)(hf:adC f=some u):From P (.defer ⟨.value f,args,ts⟩) (.defer u l)
 |a8v {x:Operand}{u:Od}(h:adC x=some u):From P (.panic x) (.panic u)
 |a8B {x:Operand}{ts:Array TypeId}{u:Od}(h:adC x=some u):From P (.call ⟨.builtin .panic,#[x],ts⟩) (.panic u)
 |recover {ts:Array TypeId}:From P (.call ⟨.builtin .recover,#[],ts⟩) .recover
theorem aWM {op:Op}{ir:IR}(h:ag7 P op=ir)(ho:ir.once=false)(hb:ir≠ .bad):From P op ir:=by
 cases op
 case call c=>
  obtain⟨callee,args,ts⟩:=c
  cases callee with
  |value f=>
   cases f with
   |func f=>
    simp only[ag7]at h
    split at h
    ·rename_i l fn h1 h2
     split at h
     ·subst h;exact .call h1
     ·split at h
      ·subst h;simp[IR.once]at ho
      ·split at h
       ·subst h;simp[IR.once]at ho
       ·split at h
        ·subst h;simp[IR.once]at ho
        ·exact absurd h.symm hb
    ·exact absurd h.symm hb
   |_=>
    simp only[ag7]at h
    split at h
    ·rename_i l u h1 h2;subst h;exact .atb h1 h2
    ·exact absurd h.symm hb
  |invoke r n=>
   simp only[ag7]at h
   split at h
   ·rename_i l u h1 h2;subst h;exact .inv h2 h1
   ·exact absurd h.symm hb
  |builtin b=>
   cases b<;>simp only[ag7]at h<;>(try (exact absurd h.symm hb))
   case panic=>
    split at h
    ·rename_i u h1
     subst h
     obtain⟨x,hl,hx⟩:=aro h1
     rw[arr1 hl]
     exact .a8B hx
    ·exact absurd h.symm hb
   case recover=>
    split at h
    ·rename_i he
     subst h
     have:args= #[]:=by simpa using he
     subst this
     exact .recover
    ·exact absurd h.symm hb
   all_goals
    split at h
    ·first
      |(subst h;simp[IR.once]at ho;done)
      |(split at h
        ·first
          |(subst h;simp[IR.once]at ho;done)
          |(split at h
            ·subst h;simp[IR.once]at ho
            ·exact absurd h.symm hb)
        ·exact absurd h.symm hb)
    ·exact absurd h.symm hb
 case defer c=>
  obtain⟨callee,args,ts⟩:=c
  simp only[ag7]at h
  split at h
  ·rename_i f l h1 h2
   split at h
   ·rename_i u h3;subst h;exact .defer h2 h3
   ·exact absurd h.symm hb
  ·exact absurd h.symm hb
 case panic x=>
  simp only[ag7]at h
  split at h
  ·rename_i u h1;subst h;exact .a8v h1
  ·exact absurd h.symm hb
 case makeMap t r=>
  cases r with
  |none=>simp only[ag7]at h;subst h;simp[IR.once]at ho
  |some r=>
   simp only[ag7]at h
   split at h
   ·subst h;simp[IR.once]at ho
   ·exact absurd h.symm hb
 case slice t x lo hi mx=>
  cases mx with
  |some m=>simp only[ag7]at h;exact absurd h.symm hb
  |none=>
   simp only[ag7]at h
   split at h
   ·split at h
    ·subst h;simp[IR.once]at ho
    ·exact absurd h.symm hb
   ·exact absurd h.symm hb
 case next it b=>
  cases b with
  |true=>simp only[ag7]at h;exact absurd h.symm hb
  |false=>
   simp only[ag7]at h
   split at h
   ·subst h;simp[IR.once]at ho
   ·exact absurd h.symm hb
 all_goals
  simp only[ag7]at h
  repeat' split at h
  all_goals first
   |exact absurd h.symm hb
   |(subst h;simp[IR.once]at ho;done)
theorem aqD {op:Op}{ir:IR}(h:apg P op=ir)(ho:ir.once=false)(hb:ir≠ .bad):From P op ir:=by
 rcases anU h with⟨x,_,hx⟩|h
 ·subst hx;simp[IR.once]at ho
 ·exact aWM h ho hb
theorem au3 {a:Act}{g:Nat→Option AV}(R:RR φ dm g a){args:Array Operand}{l:List Od}{vs:List AV}(h:ajY args.toList=some l)(hv:evs g l=some vs):args.map a.eval=(ab2 φ vs).toArray∧scL dm vs:=by
 obtain⟨h1,h2⟩:=aq6 R h hv
 refine⟨?_,h2⟩
 apply ac4.1
 rw[Array.toList_map,h1]
theorem anV {op:Oper}{ir:IR}(hp:apg P op.op=ir)(hc:ir.aty=true)(R:RR φ dm g a)(hr:Rel P φ dm H w){f:AV}{args:List AV}(h:aoV g H ir=some (f,args)):
 sc dm f∧scL dm args∧(∀c,op.op≠ .defer c)∧(execOp a.eval op).run P w=(do let d←Deferred.ofValue (abe φ f) (ab2 φ args).toArray;invoke d.target d.args:Sem Next).run P w:=by
 have F:=aqD hp (by cases ir<;>simp_all[IR.aty,IR.once]) (by rintro rfl;simp[IR.aty]at hc)
 obtain⟨dst,opp,type,pos,after,guard⟩:=op
 simp only at F
 cases F with
 |call hl=>
  simp only[aoV]at h
  split at h
  ·rename_i vs hvs
   injection h with h;injection h with h1 h2;subst h1 h2
   obtain⟨a1,a2⟩:=au3 R hl hvs
   refine⟨⟨trivial,trivial⟩,a2,by simp,?_⟩
   rw[←a1]
   rfl
  ·contradiction
 |atb hl hf=>
  simp only[aoV]at h
  split at h
  ·rename_i vs hvs
   split at h
   ·rename_i fv hfv
    injection h with h;injection h with h1 h2;subst h1 h2
    obtain⟨a1,a2⟩:=au3 R hl hvs
    obtain⟨c1,c2⟩:=abU R hf hfv
    refine⟨c2,a2,by simp,?_⟩
    rw[←a1,←c1]
    rfl
   ·contradiction
  ·contradiction
 | @inv r n aR4 ts l u hl hf=>
   simp only[aoV]at h
   split at h
   ·rename_i vs hvs
    split at h
    ·rename_i t v hv
     obtain⟨a1,a2⟩:=au3 R hl hvs
     obtain⟨c1,c2⟩:=abU R hf hv
     have key:∀{t' f':Nat}{z:Option (Nat×Option Nat)},((List.range P.types.size).filterMap (atd P n)).find? (·.1==t)=some (t',f',z)→∃fuel,fuel+1=P.types.size+Made.depth∧atd P n t=some (t,f',z):=by
      intro t' f' z hfind
      have h1:=aml hfind
      have h2:=ah3 hfind
      obtain⟨i,hi,hm⟩:=List.mem_filterMap.1 h2
      have hit:=a8t hm
      have ht:t'=t:=by simpa using h1
      subst ht
      subst hit
      have:=afO.1 hi
      exact⟨P.types.size+Made.depth - 1,by omega,hm⟩
     have fin:∀{f':Nat}{x:Value}{rs:AV},(method (P.types.size+Made.depth) t (abe φ v) n).run P w= .ok (f',x) w→x=abe φ rs→
      (execOp a.eval ⟨dst,.call ⟨.invoke r n,aR4,ts⟩,type,pos,after,guard⟩).run P w=
        (do let d←Deferred.ofValue (abe φ (.func f' [] [])) (ab2 φ (rs::vs)).toArray;invoke d.target d.args:Sem Next).run P w:=by
      intro f' x rs hm hx
      have e1:(execOp a.eval ⟨dst,.call ⟨.invoke r n,aR4,ts⟩,type,pos,after,guard⟩)=callMethod (a.eval r) n ((#[a.eval r]++aR4.map a.eval).extract 1 (#[a.eval r]++aR4.map a.eval).size):=by
       show(do let d←resolve a.eval ⟨.invoke r n,aR4,ts⟩ type;invoke d.target d.args:Sem Next)=_
       have e0:(#[a.eval r]++aR4.map a.eval)[0]? =some (a.eval r):=by rw[agw (show 0<1 from Nat.one_pos)];rfl
       simp only[resolve,invoke,pure_bind,e0]
      have e2:(#[a.eval r]++aR4.map a.eval).extract 1 (#[a.eval r]++aR4.map a.eval).size=(ab2 φ vs).toArray:=by
       rw[a1]
       apply ac4.1
       simp
      rw[e1,e2,c1]
      simp only[callMethod,abe,aa0,run_program,aay,hm,Deferred.ofValue,abA,invoke,ab2]
      congr 2
      rw[hx]
      simp
     split at h
     ·rename_i t' f' hfind
      injection h with h;injection h with h1 h2;subst h1 h2
      obtain⟨fuel,hfu,hm⟩:=key hfind
      have hmo:=aHo (w:=w) hm fuel (abe φ v)
      refine⟨⟨trivial,trivial⟩,⟨c2,a2⟩,by simp,fin ?_ rfl⟩
      rw[←hfu];exact hmo
     ·rename_i t' f' off k hfind
      split at h
      ·rename_i b o
       split at h
       ·rename_i x hx
        injection h with h;injection h with h1 h2;subst h1 h2
        obtain⟨fuel,hfu,hm⟩:=key hfind
        obtain⟨u',hu1,hu2⟩:=aHo (w:=w) hm fuel (abe φ (.ptr b o)) _ _ rfl
        obtain⟨l1,l2⟩:=atp hr hx c2 hu1
        refine⟨⟨trivial,trivial⟩,⟨l2,a2⟩,by simp,fin ?_ rfl⟩
        rw[←hfu]
        exact hu2 _ (by rw[agI];exact l1)
       ·contradiction
      ·contradiction
     ·contradiction
    ·contradiction
   ·contradiction
 |_=>simp[IR.aty]at hc
end
end Ex
namespace Ex
noncomputable section
variable {P:Program}{C:T PF}{φ:Nat→Loc}{dm:Nat→Prop}{bs:List Frame}{s s':AS}{fr:Frame}{frs cs:List Frame}{w w':World}{k:List Item}
theorem btD (E:Ext P)(hC:Table P C)(R:ajq P φ dm bs s fr frs w)(hm:s.fr.mode= .run){o:PO}{l:List PO}{k:List AI}(hk:s.fr.todo= .afm (o::l)::k)(hw:wanted s.fr.ρ.get o.guard=some true)
 (h:opA C s o=some s'):Sim P φ dm bs s s' fr frs w:=by
 obtain⟨op,A⟩:=bty R hm hk hw
 have hir:=A.ir
 have heval:(Act.mk fr.tmps fr.defers).eval=fr.eval:=aoh (s:=s) R.fr
 unfold opA at h
 simp only at h
 split at h
 ·rename_i f args he
  split at h
  ·rename_i vs hvs
   obtain⟨c1,c2,c3,c4⟩:=anV (hir.symm.trans he) rfl R.rr R.heap (f:= .func f [] []) (args:=vs) (by simp only[aoV,hvs])
   rw[heval]at c4
   exact auZ hC R A c3 h c1 c2 c4
  ·contradiction
 ·rename_i f args he
  split at h
  ·rename_i vs hvs
   split at h
   ·rename_i fv hfv
    obtain⟨c1,c2,c3,c4⟩:=anV (hir.symm.trans he) rfl R.rr R.heap (f:=fv) (args:=vs) (by simp only[aoV,hvs,hfv])
    rw[heval]at c4
    exact auZ hC R A c3 h c1 c2 c4
   ·contradiction
  ·contradiction
 ·rename_i r tab args he
  split at h
  ·rename_i vs hvs
   split at h
   ·rename_i t v hv
    split at h
    ·rename_i t' f' hfind
     obtain⟨c1,c2,c3,c4⟩:=anV (hir.symm.trans he) rfl R.rr R.heap (f:= .func f' [] []) (args:=v::vs) (by simp only[aoV,hvs,hv,hfind])
     rw[heval]at c4
     exact auZ hC R A c3 h c1 c2 c4
    ·rename_i t' f' off k hfind
     split at h
     ·rename_i b o
      split at h
      ·rename_i x hx
       obtain⟨c1,c2,c3,c4⟩:=anV (hir.symm.trans he) rfl R.rr R.heap (f:= .func f' [] []) (args:=x::vs) (by simp only[aoV,hvs,hv,hfind,hx])
       rw[heval]at c4
       exact auZ hC R A c3 h c1 c2 c4
      ·contradiction
     ·contradiction
    ·contradiction
   ·contradiction
  ·contradiction
 ·rename_i f args he
  split at h
  ·rename_i vs hvs
   split at h
   ·rename_i g first cap hfv
    split at h
    ·contradiction
    ·rename_i a8C
     split at h
     ·rename_i af hf
      injection h with h
      subst h
      have F:=aqD (hir.symm.trans he) rfl (by simp)
      obtain⟨dst,opp,type,pos,after,guard⟩:=op
      simp only at F
      cases F with
      | @defer f0 bEz ts0 _ _ hl hfo=>
        obtain⟨a1,a2⟩:=au3 R.rr hl hvs
        obtain⟨c1,c2⟩:=abU R.rr hfo hfv
        obtain⟨ops,i,rest,kk,ht,ho,hw'⟩:=A.at_
        have hro:fr.roundOf=none:=by
         have:=R.fr.round
         cases hr:s.fr.round with
         |none=>rw[hr]at this;exact this
         |some l=>rw[hr]at a8C;simp at a8C
        obtain⟨D,hD⟩ :∃D:Deferred,D={target:= .fn (.func g) (ab2 φ cap).toArray,args:=(ab2 φ first).toArray++(ab2 φ vs).toArray}:=⟨_,rfl⟩
        have hrun:(execOp fr.eval ⟨dst,.defer ⟨.value f0,bEz,ts0⟩,type,pos,after,guard⟩).run P w= .ok (.defer D) w:=by
         rw[←heval,hD,←a1]
         show(do pure (Next.defer (←Deferred.ofValue _ _)):Sem Next).run P w=_
         rw[c1]
         simp[abe,Deferred.ofValue]
        have R2:akQ P φ dm {s.fr with ds:= .call (.func g first cap) vs::s.fr.ds} {fr with defers:=D::fr.defers}:=
         ⟨R.fr.fn,R.fr.apl,R.fr.size,R.fr.reg,R.fr.todo,.cons ⟨hD,c2.1,c2.2,a2⟩ R.fr.ds,R.fr.mode,R.fr.kind,R.fr.round,R.fr.nd⟩
        have R3:=amh hf R2 (v:= .tup []) (by simp[sc,scL])
        have a3w:af.lo=s.fr.lo:=(aqB hf R2.x (hi:=0) (v:= .tup []) (by simp[sc,scL])).2
        exact⟨φ,dm,_,frs,w,.one (a8l A.mode ht ho hw' hro hrun),ajq.x ⟨R3,by show af.lo≤s.H.next;rw[a3w];exact R.hlo,by show Stk P φ dm af.lo s.cs frs;rw[a3w];exact R.cs,R.heap⟩,.refl _ _ _ _ _⟩
     ·contradiction
   ·contradiction
  ·contradiction
 ·rename_i x he
  split at h
  ·rename_i t v hv
   injection h with h
   subst h
   have F:=aqD (hir.symm.trans he) rfl (by simp)
   obtain⟨ops,i,rest,kk,ht,ho,hw'⟩:=A.at_
   obtain⟨dst,opp,type,pos,after,guard⟩:=op
   simp only at F
   have fin:∀hnd:(∀c,opp≠ .defer c),(execOp fr.eval ⟨dst,opp,type,pos,after,guard⟩).run P w= .halt (.panic (abe φ (.iface t v))) w→sc dm (.iface t v)→
    Sim P φ dm bs s {s with fr:={s.fr with mode:= .panicking [(.iface t v,false)]}} fr frs w:=by
    intro hnd hr hs
    refine⟨φ,dm,_,frs,w,.one (a8n A.mode ht ho hw' (.inr hnd) hr),ajq.x ⟨⟨R.fr.fn,R.fr.apl,R.fr.size,R.fr.reg,(fun h=>by cases h),R.fr.ds,⟨rfl,by simpa using hs⟩,R.fr.kind,R.fr.round,R.fr.nd⟩,R.hlo,R.cs,R.heap⟩,.refl _ _ _ _ _⟩
   cases F with
   |a8v hx=>
    obtain⟨c1,c2⟩:=abU R.rr hx hv
    refine fin (by simp) ?_ c2
    rw[←heval]
    show(do pure (Next.value (←Instr.panic _)):Sem Next).run P w=_
    rw[c1]
    rfl
   | @a8B x0 ts0 _ hx=>
     obtain⟨c1,c2⟩:=abU R.rr hx hv
     refine fin (by simp) ?_ c2
     rw[←heval]
     show(do pure (Next.value (←Instr.panic (((#[x0]:Array Operand).map (Act.mk fr.tmps fr.defers).eval).getD 0 .nilIface))):Sem Next).run P w=_
     rw[auY]
     show(do pure (Next.value (←Instr.panic ((Act.mk fr.tmps fr.defers).eval x0))):Sem Next).run P w=_
     rw[c1]
     rfl
  ·contradiction
 ·rename_i he
  have F:=aqD (hir.symm.trans he) rfl (by simp)
  obtain⟨ops,i,rest,kk,ht,ho,hw'⟩:=A.at_
  obtain⟨dst,opp,type,pos,after,guard⟩:=op
  simp only at F
  cases F with
  | @recover ts0=>
    have hrun:(execOp fr.eval ⟨dst,.call ⟨.builtin .recover,#[],ts0⟩,type,pos,after,guard⟩).run P w= .ok .recover w:=rfl
    have hop:=aHk (P:=P) (cs:=frs++bs) (w:=w) A.mode ht ho hw' (.inr (by simp))
    split at h
    ·rename_i c cs hd hr hcs
     have hro:fr.roundOf=none:=by have:=R.fr.round;rw[hr]at this;exact this
     have hkind:fr.kind= .deferred:=by have:=R.fr.kind;rw[hd]at this;exact this
     have hc:=R.cs
     rw[hcs]at hc
     cases hc with
     | @cons _ _ cc _ ccs bEC hcl hc2=>
       split at h
       ·contradiction
       rename_i hcd
       have bMi:c.dr=none:=by simpa using hcd
       have hc1:=bEC.nd bMi
       have bdA:∀{v:AV}{af:AF},finish s.fr v=some af→sc dm v→af.lo=s.fr.lo:=fun hf hv=>(aqB hf R.fr.x (hi:=0) hv).2
       have htr:tryRecover fr ((cc::ccs)++bs)=recoverD ((cc::ccs)++bs):=tryRecover_deferred hkind _
       split at h
       ·rename_i v older hcm
        split at h
        ·rename_i af hf
         injection h with h
         subst h
         obtain⟨hmm,hms⟩ :aI3 φ dm (.panicking ((v,false)::older)) cc.mode:=by rw[←hcm];exact hc1.mode
         have hv:sc dm v:=hms (v,false) (by simp)
         have hrec:recoverD ((cc::ccs)++bs)=some (abe φ v,{cc with mode:= .panicking ({v:=abe φ v,recovered:=true}::chainOf φ older)}::ccs++bs):=by
          simp only[acJ,recoverD,hmm,chainOf,acv]
         have bMj:∀p∈(v,true)::older,sc dm p.1:=by
          intro p hp
          rcases abb.1 hp with hp|hp
          ·rw[hp];exact hv
          ·exact hms p (by simp[hp])
         have hx1:akQ P φ dm {c with mode:= .panicking ((v,true)::older)} {cc with mode:= .panicking ({v:=abe φ v,recovered:=true}::chainOf φ older)}:=
          ⟨hc1.fn,hc1.apl,hc1.size,hc1.reg,(fun h=>by cases h),hc1.ds,⟨rfl,bMj⟩,hc1.kind,hc1.round,hc1.nd⟩
         refine⟨φ,dm,_,{cc with mode:= .panicking ({v:=abe φ v,recovered:=true}::chainOf φ older)}::ccs,w,.one ?_,ajq.x ⟨amh hf R.fr hv,by show af.lo≤s.H.next;rw[bdA hf hv];exact R.hlo,by show Stk P φ dm af.lo _ _;rw[bdA hf hv];exact .cons hx1.x hcl hc2,R.heap⟩,.refl _ _ _ _ _⟩
         refine step_lone_go ?_
         rw[hop]
         simp only[stepG.apply,ak3,hrun,ah7]
         simp only[hro,htr,hrec]
         rfl
        ·contradiction
       ·rename_i hcm
        split at h
        ·rename_i af hf
         injection h with h
         subst h
         have hmm:cc.mode= .returning:=by have:=hc1.mode;rw[hcm]at this;exact this
         have hrec:recoverD ((cc::ccs)++bs)=none:=by simp only[acJ,recoverD,hmm]
         refine⟨φ,dm,_,cc::ccs,w,.one ?_,ajq.x ⟨amh hf R.fr (v:= .arD) trivial,by show af.lo≤s.H.next;rw[bdA hf (v:= .arD) trivial];exact R.hlo,by show Stk P φ dm af.lo s.cs _;rw[bdA hf (v:= .arD) trivial,hcs];exact .cons bEC hcl hc2,R.heap⟩,.refl _ _ _ _ _⟩
         refine step_lone_go ?_
         rw[hop]
         simp only[stepG.apply,ak3,hrun,ah7]
         simp only[hro,htr,hrec]
         rfl
        ·contradiction
       ·contradiction
    ·contradiction
 ·rename_i ir h1 h2 h3 h4 h5 h6
  split at h
  ·rename_i v H hv
   split at h
   ·rename_i af hf
    injection h with h
    subst h
    refine a8q E R hm hk hw ?_ hv hf
    cases aWQ:o.ir<;>first
     |rfl
     |(exfalso;first|exact h1 _ _ aWQ|exact h2 _ _ aWQ|exact h3 _ _ _ aWQ|exact h4 _ _ aWQ|exact h5 _ aWQ|exact h6 aWQ)
     |(rw[aWQ]at hv;simp[acA]at hv)
   ·contradiction
  ·contradiction
end
end Ex
namespace Ex
noncomputable section
variable {P:Program}{C:T PF}{φ:Nat→Loc}{dm:Nat→Prop}{bs:List Frame}{s s':AS}{fr c:Frame}{frs cs:List Frame}{w w':World}{k:List Item}
inductive Leaves':List Item→Option Code→Prop where
 |end_:Leaves' [] none
 |ret {k:List Item}:Leaves' (.code .ret::k) (some .ret)
 |exit {id:Nat}{k:List Item}(h:exitTo id k=none):Leaves' (.code (.exit id)::k) (some (.exit id))
theorem aHq {jump:Option Code}{l:Nat}{v:Value}(hm:fr.mode= .run)(ht:Leaves' fr.todo jump)(hr:fr.roundOf=some l)(hk:fr.kind= .normal)(he:(Instr.endRound l jump).run P w= .ok v w'):
 step P (lone fr (c::cs) w)= .next (lone (c.finish v) cs w'):=by
 refine step_lone_go ?_
 generalize hT:fr.todo=T at ht
 cases ht with
 |end_=>simp[stepG,stepG.exec,hm,hT,hr,ak3,he,doReturn,hk,ah7]
 |ret=>simp[stepG,stepG.exec,hm,hT,hr,ak3,he,doReturn,hk,ah7]
 |exit h=>simp[stepG,stepG.exec,hm,hT,hr,h,ak3,he,doReturn,hk,ah7]
theorem aHr {jump:Option Code}(hm:fr.mode= .run)(ht:Leaves' fr.todo jump)(hj:jump=none∨jump=some .ret)(hr:fr.roundOf=none):
 step P (lone fr cs w)= .next (lone {fr with mode:= .returning} cs w):=by
 generalize hT:fr.todo=T at ht
 cases ht with
 |end_=>have e:=btp (P:=P) (cs:=cs) (w:=w) hm hT hr;rw[hT]at e;exact e
 |ret=>have e:=bts (P:=P) (cs:=cs) (w:=w) hm hT hr;rw[hT]at e;exact e
 |exit h=>rcases hj with h|h<;>cases h
theorem aR5 {l:Nat}{jump:Option Code}(hm:fr.mode= .run)(ht:fr.todo= .endRangeFunc l::k)(he:(Instr.endLoop l).run P w= .ok jump w'):
 step P (lone fr cs w)= .next (lone {fr with todo:=(jump.map Item.code).toList++k} cs w'):=
 step_lone_go (by simp[stepG,stepG.exec,hm,ht,ak3,he,ah7])
theorem aJg {l:Nat}(hm:fr.mode= .run)(ht:fr.todo= .beginRound::k)(hr:fr.roundOf=some l)(he:(Instr.beginRound l).run P w= .ok () w'):
 step P (lone fr cs w)= .next (lone {fr with todo:=k} cs w'):=
 step_lone_go (by simp[stepG,stepG.exec,hm,ht,hr,stepG.apply,he,Frame.finish])
theorem Rel.aHs (hr:Rel P φ dm s.H w){l:Nat}{ρ:T AV}{nt fn:Nat}{ps:List Nat}{asg body:PC}{st st':Nat}{pend aCQ:Option PC}{ds:Nat}{L L':Loop}(hb:s.H.bl.get l=some (.loop ρ nt fn ps asg body st pend ds))(hd:dm l)(hlim:l<LIM)
 (hL:w.heap[(φ l).blk]? =some (.loop L))(h1:L'={L with state:=L'.state,pending:=L'.pending})(h2:bsU L'.state=st')(h3:L'.pending.map (ae8 P)=aCQ):
 Rel P φ dm (s.H.put l (some (.loop ρ nt fn ps asg body st' aCQ ds))) (w.putObj (φ l).blk (.loop L'))∧Grow φ dm s.H w φ dm (s.H.put l (some (.loop ρ nt fn ps asg body st' aCQ ds))) (w.putObj (φ l).blk (.loop L')):=by
 have hlt:(φ l).blk<w.heap.size:=(acK.1 hL).1
 obtain⟨L0,l1,l0,l00,l2,l3,l4,l5,l6,l7,l8,l9,l10⟩:=hr.blk l _ hb hd
 rw[hL]at l1
 injection l1 with l1
 injection l1 with l1
 subst l1
 refine hr.turn (w':=w.putObj (φ l).blk (.loop L')) (x:= .loop ρ nt fn ps asg body st' aCQ ds) (H':=s.H.put l (some (.loop ρ nt fn ps asg body st' aCQ ds))) hb hd rfl rfl rfl (by simp[World.putObj]) (fun i hi=>?_) (fun k=>akb _ _ _ _ hlim) rfl
  ⟨L',?_,?_,l00,?_,?_,?_,?_,?_,h2,h3,l9,?_⟩
 ·exact abN (ahU hi)
 ·exact abk hlt
 all_goals (rw[h1];assumption)
theorem aBf (R:ajq P φ dm bs s fr frs w)(hm:s.fr.mode= .run){jump:Option Code}{aj:Option PC}(ht:Leaves' fr.todo jump)(hj:jump.map (ae8 P)=aj)(h:atx s aj=some s'):Sim P φ dm bs s s' fr frs w:=by
 have hmode:fr.mode= .run:=by have:=R.fr.mode;rw[hm]at this;exact this
 unfold atx at h
 split at h
 ·rename_i hr
  have hro:fr.roundOf=none:=by have:=R.fr.round;rw[hr]at this;exact this
  have fin:jump=none∨jump=some .ret→s'={s with fr:={s.fr with mode:= .returning}}→Sim P φ dm bs s s' fr frs w:=by
   intro hjj hs
   subst hs
   exact .mk' R (aHr hmode ht hjj hro) ⟨R.fr.fn,R.fr.apl,R.fr.size,R.fr.reg,(fun h=>by cases h),R.fr.ds,rfl,R.fr.kind,R.fr.round,R.fr.nd⟩ rfl rfl R.heap (Grow.refl _ _ _ _)
  split at h
  ·injection h with h
   refine fin (.inl ?_) h.symm
   cases jump with
   |none=>rfl
   |some j=>simp at hj
  ·injection h with h
   refine fin (.inr ?_) h.symm
   cases jump with
   |none=>simp at hj
   |some j=>
    generalize hT:fr.todo=T at ht
    cases ht with
    |ret=>rfl
    |exit h=>simp[ae8]at hj
  ·contradiction
 ·rename_i l hr
  obtain⟨hro,hdl⟩ :aqb φ dm (some l) fr.roundOf:=by have:=R.fr.round;rw[hr]at this;exact this
  split at h
  ·rename_i ρ nt fn ps a b st pend d hb
   split at h
   ·rename_i hc
    obtain⟨hlim,hdef⟩:=hc
    have hkind:fr.kind= .normal:=by have:=R.fr.kind;rw[hdef]at this;exact this
    obtain⟨L,l1,_⟩:=R.heap.blk l _ hb hdl
    have hend:=run_endRound (P:=P) jump l1
    obtain⟨t1,t2⟩:=R.heap.aHs (s:=s) (st':=if aj.isNone then 0 else 2) (aCQ:=aj) (L':={L with state:=if jump.isNone then .ready else .done,pending:=jump}) hb hdl hlim l1 rfl
     (by rw[←hj];cases jump<;>rfl) hj
    obtain⟨c,cs',hfr,hS,hH⟩:=aCN (bs:=bs) (s:=s) (fr:=fr) (frs:=frs) (af:=s.fr) h (R.up t2) (aa7 R.hlo t2.next) t1 (by simp[sc]) R.fr.kind
    subst hfr
    rw[hdef]at hS
    simp only[acf,if_false]at hS
    have hjn:aj.isNone=jump.isNone:=by rw[←hj];cases jump<;>rfl
    refine⟨φ,dm,_,cs',_,.one (aHq hmode ht hro hkind hend),?_,by rw[hH];exact t2.s R.hlo⟩
    rw[hjn]at hS
    exact hS
   ·contradiction
  ·contradiction
theorem aOo (R:ajq P φ dm bs s fr frs w)(hm:s.fr.mode= .run){l:Nat}{k:List AI}(hk:s.fr.todo= .arn l::k){ρ:T AV}{nt fn:Nat}{ps:List Nat}{asg body:PC}{st:Nat}{pend:Option PC}{d:Nat}
 (hb:s.H.bl.get l=some (.loop ρ nt fn ps asg body st pend d))(hst:¬(st=1∨¬l<LIM)):
 Sim P φ dm bs s {s with fr:={s.fr with todo:=bjY pend++k},H:=s.H.put l (some (.loop ρ nt fn ps asg body 3 pend d))} fr frs w:=by
 have hmode:fr.mode= .run:=by have:=R.fr.mode;rw[hm]at this;exact this
 have htodo:=R.fr.todo hm
 rw[hk]at htodo
 cases ht:fr.todo with
 |nil=>rw[ht]at htodo;cases htodo
 |cons y ys=>
  rw[ht]at htodo
  cases htodo with
  |cons hy hys=>
   cases y with
   |endRangeFunc kk=>
    obtain⟨hd,rfl⟩ :dm l∧(φ l).blk=kk:=hy
    obtain⟨L,l1,l0,l00,l2,l3,l4,l5,l6,l7,l8,_⟩:=R.heap.blk l _ hb hd
    have hnb:L.state≠ .busy:=by
     intro he;rw[he]at l7;exact hst (.inl l7.symm)
    have hend:=run_endLoop (P:=P) l1 hnb
    obtain⟨t1,t2⟩:=R.heap.aHs (s:=s) (st':=3) (aCQ:=pend) (L':={L with state:= .exhausted}) hb hd (by omega) l1 rfl rfl l8
    refine .mk' R (aR5 hmode ht hend) ⟨R.fr.fn,R.fr.apl,R.fr.size,R.fr.reg,fun _=>?_,R.fr.ds,R.fr.mode,R.fr.kind,R.fr.round,R.fr.nd⟩ rfl rfl t1 t2
    cases hp:L.pending with
    |none=>rw[hp]at l8;subst l8;exact hys
    |some j=>rw[hp]at l8;subst l8;exact .cons rfl hys
   |_=>exact hy.elim
theorem aHt (R:ajq P φ dm bs s fr frs w)(hm:s.fr.mode= .run){l:Nat}{k:List AI}(hk:s.fr.todo= .beginRound::k)(hrd:s.fr.round=some l){ρ:T AV}{nt fn:Nat}{ps:List Nat}{asg body:PC}{pend:Option PC}{d:Nat}
 (hb:s.H.bl.get l=some (.loop ρ nt fn ps asg body 0 pend d))(hlim:l<LIM):
 Sim P φ dm bs s {s with fr:={s.fr with todo:=k},H:=s.H.put l (some (.loop ρ nt fn ps asg body 1 pend d))} fr frs w:=by
 have hmode:fr.mode= .run:=by have:=R.fr.mode;rw[hm]at this;exact this
 have htodo:=R.fr.todo hm
 rw[hk]at htodo
 obtain⟨hro,hd⟩ :aqb φ dm (some l) fr.roundOf:=by have:=R.fr.round;rw[hrd]at this;exact this
 cases ht:fr.todo with
 |nil=>rw[ht]at htodo;cases htodo
 |cons y ys=>
  rw[ht]at htodo
  cases htodo with
  |cons hy hys=>
   cases y with
   |beginRound=>
    obtain⟨L,l1,l0,l00,l2,l3,l4,l5,l6,l7,l8,_⟩:=R.heap.blk l _ hb hd
    have hrs:L.state= .ready:=by cases hs:L.state<;>simp[hs,bsU]at l7;rfl
    have bMl:=run_beginRound (P:=P) l1 hrs
    obtain⟨t1,t2⟩:=R.heap.aHs (s:=s) (st':=1) (aCQ:=pend) (L':={L with state:= .busy}) hb hd hlim l1 rfl rfl l8
    exact .mk' R (aJg hmode ht hro bMl) ⟨R.fr.fn,R.fr.apl,R.fr.size,R.fr.reg,fun _=>hys,R.fr.ds,R.fr.mode,R.fr.kind,R.fr.round,R.fr.nd⟩ rfl rfl t1 t2
   |_=>exact hy.elim
theorem a8F (R:ajq P φ dm bs s fr frs w)(hm:s.fr.mode≠ .run){b:Nat}{ds:List AD}(hk:s.fr.ds= .mark b::ds)(hb:s.H.bl.get b=some (.dfd true))(hlim:b<LIM):
 Sim P φ dm bs s {s with fr:={s.fr with ds},H:=s.H.put b (some (.dfd false))} fr frs w:=by
 have hmode:fr.mode≠ .run:=by
  have:=R.fr.mode
  intro he
  cases hmm:s.fr.mode with
  |run=>exact hm hmm
  |returning=>rw[hmm]at this;have h2:fr.mode= .returning:=this;rw[he]at h2;cases h2
  |panicking ch=>rw[hmm]at this;have h2:=this.1;rw[he]at h2;cases h2
 have hds:=R.fr.ds
 rw[hk]at hds
 cases hd:fr.defers with
 |nil=>rw[hd]at hds;cases hds
 |cons y ys=>
  rw[hd]at hds
  cases hds with
  |cons hy hys=>
   obtain⟨hy1,hy2⟩ :y={target:= .collected (φ b).blk,args:=#[]}∧dm b:=hy
   have hheap:w.heap[(φ b).blk]? =some (.deferred (some [])):=R.heap.blk b _ hb hy2
   have htake:=run_takeDeferred (P:=P) hheap
   have hlt:(φ b).blk<w.heap.size:=(acK.1 hheap).1
   have hturn:=R.heap.turn (w':=w.putObj (φ b).blk (.deferred none)) (x:= .dfd false) (H':=s.H.put b (some (.dfd false))) hb hy2 rfl rfl rfl (by simp[World.putObj]) (fun i hi=>abN (ahU hi)) (fun k=>akb _ _ _ _ hlim) rfl
    (abk hlt)
   exact .mk' R (step_collected hmode hd (by rw[hy1]) htake) ⟨R.fr.fn,R.fr.apl,R.fr.size,R.fr.reg,R.fr.todo,hys,R.fr.mode,R.fr.kind,R.fr.round,R.fr.nd⟩ rfl rfl hturn.1 hturn.2
theorem aOq (hC:Table P C)(R:ajq P φ dm bs s fr frs w)(hm:s.fr.mode≠ .run){g:Nat}{first cap args:List AV}{ds:List AD}(hk:s.fr.ds= .call (.func g first cap) args::ds){af:AF}(he:asY C g (first++args++cap) true s.H.next=some af):
 Sim P φ dm bs s {s with fr:=af,cs:={s.fr with ds}::s.cs} fr frs w:=by
 have hmode:fr.mode≠ .run:=by
  have:=R.fr.mode
  intro he
  cases hmm:s.fr.mode with
  |run=>exact hm hmm
  |returning=>rw[hmm]at this;have h2:fr.mode= .returning:=this;rw[he]at h2;cases h2
  |panicking ch=>rw[hmm]at this;have h2:=this.1;rw[he]at h2;cases h2
 have hds:=R.fr.ds
 rw[hk]at hds
 cases hd:fr.defers with
 |nil=>rw[hd]at hds;cases hds
 |cons y ys=>
  rw[hd]at hds
  cases hds with
  |cons hy hys=>
   obtain⟨hy1,s1,s2,s3⟩:=hy
   have hs:scL dm (first++args++cap):=(agH dm _).2 fun v hv=>by
    rcases aaG.1 hv with h|h
    ·rcases aaG.1 h with h|h
     ·exact(agH dm _).1 s1 v h
     ·exact(agH dm _).1 s3 v h
    ·exact(agH dm _).1 s2 v h
   obtain⟨e1,⟨pf,e2⟩,e3,e4,e5,e6⟩:=arR (φ:=φ) hC he hs
   have aWo:(ab2 φ first).toArray++(ab2 φ args).toArray++(ab2 φ cap).toArray=(ab2 φ (first++args++cap)).toArray:=by
    rw[ame,ame];simp
   have hinv:(invoke y.target y.args).run P w= .ok (.enter g (ab2 φ (first++args++cap)).toArray) w:=by
    rw[hy1,←aWo]
    exact atL hC e2 _ w
   have hx:akQ P φ dm {s.fr with ds} {fr with defers:=ys}:=⟨R.fr.fn,R.fr.apl,R.fr.size,R.fr.reg,R.fr.todo,hys,R.fr.mode,R.fr.kind,R.fr.round,R.fr.nd⟩
   exact⟨φ,dm,_,{fr with defers:=ys}::frs,w,.one (step_defer hmode hd (by rw[hy1]) hinv),ajq.x ⟨e1,by show af.lo≤s.H.next;omega,by show Stk P φ dm af.lo _ _;rw[e6];exact .cons hx.x R.hlo R.cs,R.heap⟩,.refl _ _ _ _ _⟩
end
end Ex
namespace Ex
noncomputable section
variable {P:Program}{C:T PF}{φ:Nat→Loc}{dm:Nat→Prop}{bs:List Frame}{s s':AS}{fr c:Frame}{frs cs:List Frame}{w w':World}{k:List Item}
def aR6 (P:Program):ResultVar→a1t
 | .tmp t=> .t t
 | .cell a t=>match aEA P t,sizeT P t with
   |some true,some n=> .c (some n) a
   |some false,some _=> .c none a
   |_,_=> .bad
def aBl (tmps:Array Value):ResultVar→Sem Value
 | .tmp t=>pure (tmps.getD t undef)
 | .cell a t=>do loadVar t (←asAddr (tmps.getD a undef))
theorem aWU {ρ:T AV}{H:AH}{tmps:Array Value}(aBq:∀t v,ρ.get t=some v→sc dm v∧tmps.getD t undef=abe φ v)(hr:Rel P φ dm H w){r:ResultVar}{v:AV}(h:res1 ρ H (aR6 P r)=some v):
 (aBl tmps r).run P w= .ok (abe φ v) w∧sc dm v:=by
 cases r with
 |tmp t=>
  obtain⟨h1,h2⟩:=aBq t v h
  exact⟨by simp only[aBl,abA,h2],h1⟩
 |cell a t=>
  have key:∀n,loadT P t n→res1 ρ H (.c n a)=some v→(aBl tmps (.cell a t)).run P w= .ok (abe φ v) w∧sc dm v:=by
   intro n hn h
   simp only[res1]at h
   split at h
   ·rename_i b o hp
    obtain⟨p1,p2⟩:=aBq a _ hp
    obtain⟨l1,l2⟩:=atp hr h p1 hn
    refine⟨?_,l2⟩
    simp only[aBl,p2,abe,asAddr,aa0,abA,aay]
    exact l1
   ·contradiction
  simp only[aR6]at h
  split at h
  ·rename_i n h1 h2;exact key (some n) ⟨h1,h2⟩ h
  ·rename_i n h1 h2;exact key none h1 h
  ·simp[res1]at h
theorem aHu {ρ:T AV}{H:AH}{tmps:Array Value}(aBq:∀t v,ρ.get t=some v→sc dm v∧tmps.getD t undef=abe φ v)(hr:Rel P φ dm H w):∀(rs:List ResultVar)(vs:List AV),a1u ρ H (rs.map (aR6 P))=some vs→
 (rs.mapM (aBl tmps):Sem (List Value)).run P w= .ok (ab2 φ vs) w∧scL dm vs
 | [],vs,h=>by simp[a1u]at h;subst h;exact⟨rfl,trivial⟩
 |r::rs,vs,h=>by
  simp only[acv,a1u]at h
  split at h
  ·rename_i v hv
   split at h
   ·rename_i vs' hvs
    injection h with h
    subst h
    obtain⟨a1,a2⟩:=aWU aBq hr hv
    obtain⟨b1,b2⟩:=aHu aBq hr rs vs' hvs
    refine⟨?_,a2,b2⟩
    simp only[List.mapM_cons,aa0,a1,aay,b1,abA,ab2]
   ·contradiction
  ·contradiction
theorem avQ {ρ:T AV}{H:AH}{tmps:Array Value}(aBq:∀t v,ρ.get t=some v→sc dm v∧tmps.getD t undef=abe φ v)(hr:Rel P φ dm H w){fn:Func}{v:AV}(h:a7v (axM P fn) ρ H=some v):
 (results fn tmps).run P w= .ok (abe φ v) w∧sc dm v:=by
 have hres:(axM P fn).res=fn.results.toList.map (aR6 P):=by
  simp only[axM]
  refine aec fun r _=>?_
  cases r<;>rfl
 unfold a7v at h
 rw[hres]at h
 have hm:∀vs,a1u ρ H (fn.results.toList.map (aR6 P))=some vs→(results fn tmps).run P w= .ok (if h:(ab2 φ vs).toArray.size=1 then (ab2 φ vs).toArray[0] else .tuple (ab2 φ vs).toArray) w∧scL dm vs:=by
  intro vs hvs
  obtain⟨h1,h2⟩:=aHu (tmps:=tmps) aBq hr _ vs hvs
  refine⟨?_,h2⟩
  have hfun:results fn tmps=(do let vs←fn.results.mapM (aBl tmps);pure (if h:vs.size=1 then vs[0] else .tuple vs)):=by
   unfold results
   congr 1
  rw[hfun,Array.mapM_eq_mapM_toList]
  simp only[aa0,Sem.run_map,h1,aay,abA]
 split at h
 ·rename_i v' hvs
  injection h with h
  subst h
  obtain⟨h1,h2⟩:=hm _ hvs
  exact⟨by rw[h1];simp[ab2],h2.1⟩
 ·rename_i vs hne hvs
  injection h with h
  subst h
  obtain⟨h1,h2⟩:=hm _ hvs
  refine⟨?_,h2⟩
  rw[h1]
  have:¬(ab2 φ vs).toArray.size=1:=by
   simp only[ajx,adP]
   intro h1
   cases vs with
   |nil=>simp at h1
   |cons x vs=>
    cases vs with
    |nil=>exact hne x rfl
    |cons y vs=>simp at h1
  rw[dif_neg this]
  rfl
 ·contradiction
theorem aWW (hC:Table P C)(R:ajq P φ dm bs s fr frs w)(hm:s.fr.mode= .returning)(hds:s.fr.ds= []){pf:PF}(hpf:C.get s.fr.fn=some pf){v:AV}(hv:a7v pf s.fr.ρ s.H=some v)(h:aRX s v=some s'):Sim P φ dm bs s s' fr frs w:=by
 have hmode:fr.mode= .returning:=by have:=R.fr.mode;rw[hm]at this;exact this
 have hdef:fr.defers= []:=by
  have:=R.fr.ds
  rw[hds]at this
  cases hd:fr.defers with
  |nil=>rfl
  |cons y ys=>rw[hd]at this;cases this
 obtain⟨fn,cc,h1,h2,h3,h4⟩:=hC _ _ hpf
 rw[h4]at hv
 obtain⟨r1,r2⟩:=avQ (tmps:=fr.tmps) R.fr.reg R.heap hv
 have hfn:P.funcs[fr.fn]? =some fn:=by rw[R.fr.fn];exact h1
 obtain⟨c,cs',hfr,hS,hH⟩:=aCN (bs:=bs) (s:=s) (fr:=fr) (frs:=frs) (af:=s.fr) (H1:=s.H) h R.cs R.hlo R.heap r2 R.fr.kind
 subst hfr
 refine⟨φ,dm,_,cs',w,.one ?_,hS,by rw[hH];exact .refl _ _ _ _ _⟩
 cases hd:s.fr.deferred with
 |true=>
  have hkind:fr.kind= .deferred:=by have:=R.fr.kind;rw[hd]at this;exact this
  simp only[if_true]
  exact step_going_returned hkind ⟨hmode,hdef,fn,hfn,r1⟩
 |false=>
  have hkind:fr.kind= .normal:=by have:=R.fr.kind;rw[hd]at this;exact this
  simp only[acf,if_false]
  exact step_leave_returned ⟨hmode,hdef,hkind,fn,hfn,r1⟩
theorem arq (d:DS):∀(l:List a1t)(ρ:T AV)(t:Nat)(v:AV),(keepR d l ρ).get t=some v→ρ.get t=some v∨(d.ρ.get t=some v∧d.pend.all (fun p=>p.o.dst !=some t)=true)
 | [],ρ,t,v,h=> .inl h
 |r::l,ρ,t,v,h=>by
  simp only[keepR]at h
  split at h
  ·rename_i t0 _
   split at h
   ·rename_i v0 hv0
    split at h
    ·rename_i hc
     rcases arq d l _ t v h with h1|h1
     ·rw[akb _ _ _ _ hc.1]at h1
      split at h1
      ·rename_i he
       subst he
       injection h1 with h1
       subst h1
       exact .inr ⟨hv0,hc.2⟩
      ·exact .inl h1
     ·exact .inr h1
    ·exact arq d l ρ t v h
   ·exact arq d l ρ t v h
  ·exact arq d l ρ t v h
theorem a1C (R:ajq P φ dm bs s fr frs w){ch:List (AV×Bool)}(hm:s.fr.mode= .panicking ch)(hds:s.fr.ds= []){c af:AF}{cs:List AF}(hcs:s.cs=c::cs)(hcm:∀o,c.mode≠ .panicking o)
 (ha:aWv C c ch=some af):Sim P φ dm bs s {s with fr:=af,cs} fr frs w:=by
 obtain⟨hmode,hsc⟩ :aI3 φ dm (.panicking ch) fr.mode:=by rw[←hm];exact R.fr.mode
 have hdef:fr.defers= []:=by
  have:=R.fr.ds
  rw[hds]at this
  cases hd:fr.defers with
  |nil=>rfl
  |cons y ys=>rw[hd]at this;cases this
 obtain⟨fn,hfn⟩:=R.fr.apl
 have hc:=R.cs
 rw[hcs]at hc
 cases hc with
 | @cons _ _ cc _ ccs h1 hl h2=>
   have btF:(∀chain,cc.mode≠ .panicking chain)→cc.raise (chainOf φ ch)={cc with mode:= .panicking (chainOf φ ch)}:=by
    intro hno
    unfold Frame.raise
    split
    ·rename_i chain hcc;exact absurd hcc (hno _)
    ·rfl
   have fin:akQ P φ dm af {cc with mode:= .panicking (chainOf φ ch)}→af.lo=c.lo→(∀chain,cc.mode≠ .panicking chain)→Sim P φ dm bs s {s with fr:=af,cs} fr (cc::ccs) w:=by
    intro hf hlo hno
    have a3w:=R.hlo
    refine⟨φ,dm,{cc with mode:= .panicking (chainOf φ ch)},ccs,w,.one ?_,ajq.x ⟨hf,by show af.lo≤s.H.next;omega,by show Stk P φ dm af.lo cs ccs;rw[hlo];exact h2,R.heap⟩,.refl _ _ _ _ _⟩
    rw[←btF hno]
    exact step_leave_panicked ⟨hmode,hdef,fn,hfn⟩
   unfold aWv at ha
   split at ha
   ·rename_i hd
    injection ha with ha
    subst ha
    have h1:=h1.nd hd
    refine fin ⟨h1.fn,h1.apl,h1.size,h1.reg,(fun h=>by cases h),h1.ds,⟨rfl,hsc⟩,h1.kind,h1.round,hd⟩ rfl ?_
    intro chain hcc
    have:=h1.mode
    cases hmm:c.mode with
    |run=>rw[hmm]at this;have h2:cc.mode= .run:=this;rw[hcc]at h2;cases h2
    |returning=>rw[hmm]at this;have h2:cc.mode= .returning:=this;rw[hcc]at h2;cases h2
    |panicking o=>exact hcm o hmm
   ·rename_i d hd
    split at ha
    ·rename_i pf hpf
     injection ha with ha
     subst ha
     unfold FrX at h1
     rw[hd]at h1
     obtain⟨ops,idx,k,F,pre,q1,q2,q3,q4,q5⟩:=h1
     refine fin ⟨q2.fn,q2.apl,q2.size,fun t v hv=>?_,(fun h=>by cases h),q2.ds,⟨rfl,hsc⟩,q2.kind,q2.round,rfl⟩ rfl ?_
     ·rcases arq d _ _ t v hv with h|⟨h,hall⟩
      ·rw[T.akl]at h;cases h
      ·refine q4.reg t v h fun p hp _=>?_
       have:=acg.1 hall p hp
       simpa using this
     ·intro chain hcc
      have:aI3 φ dm c.mode cc.mode:=q2.mode
      rw[q3]at this
      have h2:cc.mode= .run:=this
      rw[hcc]at h2;cases h2
    ·contradiction
end
end Ex
namespace Ex
noncomputable section
variable {P:Program}{C:T PF}{φ:Nat→Loc}{dm:Nat→Prop}{bs:List Frame}{s s':AS}{fr c:Frame}{frs cs:List Frame}{w w':World}{k:List Item}
theorem ayB {f:Operand}{ps:Array Tmp}{asg body:Code}{l:Nat}{mark:List Deferred}{nx:Next}{fr':Frame}(hm:fr.mode= .run)(ht:fr.todo= .code (.rangeFunc f ps asg body)::k)
 (he:(Instr.enterLoop fr.fn fr.tmps ps asg body fr.roundOf).run P w= .ok (l,mark) w')
 (hr:(do let d←Deferred.ofValue (fr.eval f) #[.func (.yield l) #[] #[]];invoke d.target d.args:Sem Next).run P w'= .ok nx w')(hn:aRY P nx fr'):
 step P (lone fr cs w)= .next (lone fr' ({fr with todo:= .inRangeFunc l::k,defers:=mark++fr.defers}::cs) w'):=by
 refine step_lone_go ?_
 have hev:({fr with todo:= .inRangeFunc l::k,defers:=mark++fr.defers}:Frame).eval=fr.eval:=by funext x;cases x<;>rfl
 have hres:(do let d←resolve ({fr with todo:= .inRangeFunc l::k,defers:=mark++fr.defers}:Frame).eval {callee:= .value f,args:=#[.const (.func (.yield l) #[] #[])],argTypes:=#[]} 0;invoke d.target d.args:Sem Next).run P w'= .ok nx w':=by
  have hmap:(#[Operand.const (Value.func (Fn.yield l) #[] #[])]:Array Operand).map fr.eval= #[Value.func (Fn.yield l) #[] #[]]:=by simp[Frame.eval]
  rw[hev,←hr]
  simp only[resolve,hmap]
 simp only[hm,aa0]at hres
 cases hn with
 |enter=>simp[stepG,stepG.exec,hm,ht,ak3,he,ah7,stepG.apply,hres]
 |round=>simp[stepG,stepG.exec,hm,ht,ak3,he,ah7,stepG.apply,hres]
theorem Rel.btH {H:AH}(hr:Rel P φ dm H w)(hlim:H.next<LIM){o:Obj}{x:afp}(hx:anh P φ dm (w.alloc o) ⟨w.heap.size,0,0⟩ x)(hqt:x.quiet=true:=by rfl):
 ∃φ' dm',(φ' H.next)=⟨w.heap.size,0,0⟩∧dm' H.next∧Rel P φ' dm' (H.add x) (w.alloc o)∧Grow φ dm H w φ' dm' (H.add x) (w.alloc o):=by
 have hb:¬dm H.next:=fun hd=>af9 _ (hr.next _ hd)
 have:=hr.alloc (b:=H.next) (aai _) (o:=o) (x:=x) (l:=⟨w.heap.size,0,0⟩) rfl (H':=H.add x) (fun k=>akb _ _ _ _ hlim) (ab5 _) (aeQ _) hx (fun m l c h=>absurd h (afp.aWc hqt m l c))
 exact⟨_,_,if_pos rfl,.inr rfl,this.1,this.2⟩
theorem aWY (hC:Table P C)(R:ajq P φ dm bs s fr frs w)(hm:s.fr.mode= .run){f:Operand}{u:Od}{ps:Array Tmp}{asg body:Code}{k:List AI}{kk:List Item}(ht:fr.todo= .code (.rangeFunc f ps asg body)::kk)(hk:ap9 (alI P φ dm) k kk)
 (hf:adC f=some u){g:AV}(hg:u.ev s.fr.ρ.get=some g)
 (h:(match s.fr.round with
   |some l=>match s.H.bl.get l with
    |some (.loop _ _ _ _ _ _ _ _ d)=>if s.H.next<LIM then
      ap5 C {s with fr:={s.fr with todo:= .inRange s.H.next::k},H:=s.H.add (.loop s.fr.ρ s.fr.nt s.fr.fn ps.toList (ae8 P asg) (ae8 P body) 0 none d)} g [.yld s.H.next] else none
    |_=>none
   |none=>if s.H.next+1<LIM then
     ap5 C {s with fr:={s.fr with todo:= .inRange (s.H.next+1)::k,ds:= .mark s.H.next::s.fr.ds},H:=(s.H.add (.dfd true)).add (.loop s.fr.ρ s.fr.nt s.fr.fn ps.toList (ae8 P asg) (ae8 P body) 0 none s.H.next)} g [.yld (s.H.next+1)] else none)=some s'):Sim P φ dm bs s s' fr frs w:=by
 have hmode:fr.mode= .run:=by have:=R.fr.mode;rw[hm]at this;exact this
 obtain⟨c1,c2⟩:=abU R.rr hf hg
 have hfe:fr.eval f=abe φ g:=by rw[←aoh (s:=s) R.fr];exact c1
 split at h
 ·rename_i l hr
  obtain⟨hro,hdl⟩ :aqb φ dm (some l) fr.roundOf:=by have:=R.fr.round;rw[hr]at this;exact this
  split at h
  ·rename_i q1 q2 q3 q4 q5 q6 q7 q8 d hb
   split at h
   ·rename_i hlim
    obtain⟨L,l1,l0,l00,l2,l3,l4,l5,l6,l7,l8,l9,l10⟩:=R.heap.blk l _ hb hdl
    have hen:=run_enterLoop_inner (P:=P) l1 fr.fn fr.tmps ps asg body
    rw[←hro]at hen
    obtain⟨φ',dm',k1,k2,k3,k4⟩:=R.heap.btH hlim (o:= .loop {state:= .ready,pending:=none,fn:=fr.fn,tmps:=fr.tmps,params:=ps,assign:=asg,body:=body,defers:=L.defers})
     (x:= .loop s.fr.ρ s.fr.nt s.fr.fn ps.toList (ae8 P asg) (ae8 P body) 0 none d)
     ⟨_,amR w _,R.fr.size,by rw[←R.fr.fn];exact R.fr.apl,R.fr.fn,R.fr.reg,rfl,rfl,rfl,rfl,rfl,l9,l10⟩
    have R1:ajq P φ' dm' bs {s with fr:={s.fr with todo:= .inRange s.H.next::k},H:=s.H.add (.loop s.fr.ρ s.fr.nt s.fr.fn ps.toList (ae8 P asg) (ae8 P body) 0 none d)}
     {fr with todo:= .inRangeFunc w.heap.size::kk,defers:=[]++fr.defers} frs (w.alloc (.loop {state:= .ready,pending:=none,fn:=fr.fn,tmps:=fr.tmps,params:=ps,assign:=asg,body:=body,defers:=L.defers})):=by
     have RF:=R.fr.mono k4.dms k4.ph
     exact⟨⟨RF.fn,RF.apl,RF.size,RF.reg,fun _=> .cons ⟨k2,by rw[k1]⟩ (al2 (alI.mono k4.dms k4.ph) hk),RF.ds,RF.mode,RF.kind,RF.round,RF.nd⟩,aa7 R.hlo k4.next,R.up k4,k3⟩
    obtain⟨nx,fr',n1,n2,n3,n4⟩:=aqC hC R1.x h (ajD k4.dms _ c2) ⟨k2,trivial⟩
    have hgc:abe φ' g=fr.eval f:=by rw[ahS k4.ph _ c2,hfe]
    have hyl:(ab2 φ' [AV.yld s.H.next]).toArray= #[Value.func (Fn.yield w.heap.size) #[] #[]]:=by simp[ab2,abe,k1]
    rw[hgc,hyl]at n1
    exact⟨φ',dm',fr',_::frs,_,.one (ayB hmode ht hen n1 n2),n3.x,by rw[n4];exact k4.s R.hlo⟩
   ·contradiction
  ·contradiction
 ·rename_i hr
  have hro:fr.roundOf=none:=by have:=R.fr.round;rw[hr]at this;exact this
  split at h
  ·rename_i hlim
   have hen:=run_enterLoop_outer (P:=P) (w:=w) fr.fn fr.tmps ps asg body
   rw[←hro]at hen
   obtain⟨φ1,dm1,k1,k2,k3,k4⟩:=R.heap.btH (by omega:s.H.next<LIM) (o:= .deferred (some [])) (x:= .dfd true) (amR w _)
   obtain⟨φ',dm',j1,j2,j3,j4⟩:=k3.btH (by show s.H.next+1<LIM;exact hlim) (o:= .loop {state:= .ready,pending:=none,fn:=fr.fn,tmps:=fr.tmps,params:=ps,assign:=asg,body:=body,defers:=w.heap.size})
    (x:= .loop s.fr.ρ s.fr.nt s.fr.fn ps.toList (ae8 P asg) (ae8 P body) 0 none s.H.next)
    ⟨_,amR (w.alloc (.deferred (some []))) _,R.fr.size,by rw[←R.fr.fn];exact R.fr.apl,R.fr.fn,(R.fr.mono k4.dms k4.ph).reg,rfl,rfl,rfl,rfl,rfl,k2,by rw[k1]⟩
   have G:=k4.trans j4
   have R1:ajq P φ' dm' bs {s with fr:={s.fr with todo:= .inRange (s.H.next+1)::k,ds:= .mark s.H.next::s.fr.ds},H:=(s.H.add (.dfd true)).add (.loop s.fr.ρ s.fr.nt s.fr.fn ps.toList (ae8 P asg) (ae8 P body) 0 none s.H.next)}
    {fr with todo:= .inRangeFunc (w.heap.size+1)::kk,defers:=[{target:= .collected w.heap.size,args:=#[]}]++fr.defers} frs ((w.alloc (.deferred (some []))).alloc (.loop {state:= .ready,pending:=none,fn:=fr.fn,tmps:=fr.tmps,params:=ps,assign:=asg,body:=body,defers:=w.heap.size})):=by
    have RF:=R.fr.mono G.dms G.ph
    refine⟨⟨RF.fn,RF.apl,RF.size,RF.reg,fun _=> .cons ⟨j2,?_⟩ (al2 (alI.mono G.dms G.ph) hk),.cons ⟨?_,j4.dms _ k2⟩ RF.ds,RF.mode,RF.kind,RF.round,RF.nd⟩,aa7 R.hlo G.next,R.up G,j3⟩
    ·have:=congrArg Loc.blk j1
     simpa[AH.add,aaS]using this
    ·rw[j4.ph _ k2,k1]
   obtain⟨nx,fr',n1,n2,n3,n4⟩:=aqC hC R1.x h (ajD G.dms _ c2) ⟨j2,trivial⟩
   have hgc:abe φ' g=fr.eval f:=by rw[ahS G.ph _ c2,hfe]
   have hyl:(ab2 φ' [AV.yld (s.H.next+1)]).toArray= #[Value.func (Fn.yield (w.heap.size+1)) #[] #[]]:=by
    have:=congrArg Loc.blk j1
    have h2:(φ' (s.H.next+1)).blk=w.heap.size+1:=by simpa[AH.add,aaS]using this
    simp[ab2,abe,h2]
   rw[hgc,hyl]at n1
   exact⟨φ',dm',fr',_::frs,_,.one (ayB hmode ht hen n1 n2),n3.x,by rw[n4];exact G.s R.hlo⟩
  ·contradiction
end
end Ex
end Go.Proofs.YtfehlbepjmmkeaaGreatDoor
