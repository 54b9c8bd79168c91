/-
  DERIVED. An abstract machine, and that its runs are runs of the model: part 3 of 11. No condition.
-/
import Derived.Test.YtfehlbepjmmkeaaGreatDoorXb
import Derived.Lib.UnsafeStr
import GoSem.Extern.BytealgIndexByte
import GoSem.Extern.BytealgCount
namespace Go.Proofs.YtfehlbepjmmkeaaGreatDoor
set_option linter.unusedSimpArgs false
set_option linter.unusedVariables false
section
open Go.RowKit
namespace Ex
noncomputable section
variable {P:Program}{φ:Nat→Loc}{dm:Nat→Prop}{g:Nat→Option AV}{a:Act}{H H':AH}{w:World}{v:AV}
theorem aKI (n:Nat):∀(r c:Nat),Builtin.growBy n r c≤max c (n+(n+768) / 4)
 |0,c=>by simp[Builtin.growBy];omega
 |r+1,c=>by
  simp only[Builtin.growBy]
  split
  ·omega
  ·have:=aKI n r (c+(c+768) / 4)
   omega
theorem aWl {n c:Nat}(h:c<n):Builtin.nextslicecap n c≤2*n+768:=by
 unfold Builtin.nextslicecap
 split
 ·omega
 ·split
  ·omega
  ·have:=aKI n 4 c
   omega
theorem aes {α β:Type}{s:Sem α}{k:α→Sem β}{v:α}{w w':World}(h:s.run P w= .ok v w'):(s>>=k).run P w=(k v).run P w':=by simp[h]
theorem asn {ts:Array TypeId}{ty t e d:Nat}{de:TypeDesc}{size n cap:Nat}{base:Option Addr}{x:Value}(ht0:ts[0]? =some t)(ht:P.underlying t=some (.slice e))
 (ht1:ts[1]? =some d)(hd:P.underlying d=some de)(hi:atc de=false)(hs:sizeT P e=some size)
 (hlen:(Builtin.lenOf x).run P w= .ok 0 w)(hnew:(Builtin.firstCells size 0 x).run P w= .ok #[] w)(hfit:n≤cap):
 (Builtin.append_ ts ty #[.slice base n cap,x]).run P w= .ok (.slice base n cap) w:=by
 unfold Builtin.append_
 simp only[ht0,ht1,adY,ac3,ad6]
 rw[aes (run_underlying ht w)]
 dsimp only
 rw[aes (aeb hs w),aes (run_underlying hd w)]
 refine(aes (v:=false) (w':=w) ?_).trans ?_
 ·cases de<;>first|rfl|simp[atc]at hi
 simp only[acf,if_false]
 rw[aes hlen]
 simp only[adK,if_pos hfit,Bool.not_false,if_true]
 rw[aes hnew]
 cases base<;>rfl
theorem asv {ts:Array TypeId}{ty t e d:Nat}{de:TypeDesc}{size m n cap:Nat}{base:Addr}{x:Value}{new:Array Value}{w':World}(ht0:ts[0]? =some t)(ht:P.underlying t=some (.slice e))
 (ht1:ts[1]? =some d)(hd:P.underlying d=some de)(hi:atc de=false)(hs:sizeT P e=some size)
 (hlen:(Builtin.lenOf x).run P w= .ok m w)(hnew:(Builtin.firstCells size m x).run P w= .ok new w)(hfit:n+m≤cap)
 (hst:(storeCells (base.add (n*size)) new.toList).run P w= .ok () w'):
 (Builtin.append_ ts ty #[.slice (some base) n cap,x]).run P w= .ok (.slice (some base) (n+m) cap) w':=by
 unfold Builtin.append_
 simp only[ht0,ht1,adY,ac3,ad6]
 rw[aes (run_underlying ht w)]
 dsimp only
 rw[aes (aeb hs w),aes (run_underlying hd w)]
 refine(aes (v:=false) (w':=w) ?_).trans ?_
 ·cases de<;>first|rfl|simp[atc]at hi
 simp only[acf,if_false]
 rw[aes hlen]
 simp only[if_pos hfit,Bool.not_false,if_true]
 rw[aes hnew,aes hst]
 rfl
theorem run_append_grow {ts:Array TypeId}{ty t e d:Nat}{de:TypeDesc}{i:TypeInfo}{z:Value}{size m n cap:Nat}{base:Option Addr}{x:Value}{new old:Array Value}(ht0:ts[0]? =some t)(ht:P.underlying t=some (.slice e))
 (ht1:ts[1]? =some d)(hd:P.underlying d=some de)(hi:atc de=false)(hs:sizeT P e=some size)(hinfo:P.info? e=some i)(hz:i.zero=some z)
 (hlen:(Builtin.lenOf x).run P w= .ok m w)(hnew:(Builtin.firstCells size m x).run P w.drew= .ok new w.drew)(hold:(Builtin.firstCells size n (.slice base n cap)).run P w.drew= .ok old w.drew)
 (hfit:¬n+m≤cap)(hsm:n+m<1000000)(hb:i.bytes<1000000):
 ∃k,(Builtin.append_ ts ty #[.slice base n cap,x]).run P w=
  .ok (.slice (some ⟨w.heap.size,0,none⟩) (n+m) (n+m+k)) (w.drew.alloc (.cells (old++new++Builtin.zeroCells z.cells k) e)):=by
 have h1:¬(((n+m:Nat):Int)>IntKind.i64.max):=by rw[IntKind.max_i64];omega
 have h2:=aWl (n:=n+m) (c:=cap) (by omega)
 have h3:¬Builtin.nextslicecap (n+m) cap*i.bytes>2^48:=by
  have:Builtin.nextslicecap (n+m) cap*i.bytes≤(2*1000000+768)*1000000:=Nat.mul_le_mul (by omega) (by omega)
  omega
 obtain⟨k,hk⟩ :∃k,Question.cut (.appendCap (n+m) cap e) (w.tape w.drawn (.appendCap (n+m) cap e))=n+m+k:=⟨_,rfl⟩
 have hch:(choose (.appendCap (n+m) cap e)).run P w= .ok (n+m+k) w.drew:=by
  rw[run_choose_drew,if_neg (by simp[Question.forced]),hk]
 have hti:∀w,(typeInfo e).run P w= .ok i w:=fun w=>by simp[typeInfo,hinfo]
 have hzv:∀w,(zeroValue e).run P w= .ok z w:=fun w=>by simp[zeroValue,typeInfo,hinfo,hz]
 refine⟨k,?_⟩
 unfold Builtin.append_
 simp only[ht0,ht1,adY,ac3,ad6]
 rw[aes (run_underlying ht w)]
 dsimp only
 rw[aes (aeb hs w),aes (run_underlying hd w)]
 refine(aes (v:=false) (w':=w) ?_).trans ?_
 ·cases de<;>first|rfl|simp[atc]at hi
 simp only[acf,if_false]
 rw[aes hlen]
 simp only[if_neg hfit,Bool.not_false,if_true]
 rw[aes (hti w)]
 simp only[h1,false_and,if_false]
 rw[aes (hti w)]
 simp only[if_neg h3]
 rw[aes hch,aes (hti _),aes (run_askRoom P _ _),aes hold,aes hnew,aes (hzv _)]
 simp only[Nat.add_sub_cancel_left]
 simp[newRow]
theorem ap2 (z:Array Value)(k:Nat):(Builtin.zeroCells z k).size=k*z.size:=by simp[Builtin.zeroCells]
theorem aKK (fz size top:Nat):a6G fz (0,0) size top:=by
 unfold a6G
 split<;>simp
theorem Rel.grown (hr:Rel P φ dm H w){e size k:Nat}(fz:Nat){l:List AV}{rest:Array Value}{K:AH}(hK:∀b x,K.bl.get b=some x→H.bl.get b=some x)
 (hKl:∀b m left cur ents,K.bl.get b=some (.iter m left cur)→H.bl.get m=some (.apa ents)→K.bl.get m=some (.apa ents))(hKn:K.next=H.next)(hlim:K.next<LIM)(hll:l.length<LIM)(hl:scL dm l)
 (hrest:rest.size=k*size):
 ∃φ' dm',φ' H.next=⟨w.heap.size,0,k⟩∧dm' H.next∧Rel P φ' dm' (K.add (.cells l.length (putCells l 0 .E) e true size fz)) (w.drew.alloc (.cells ((ab2 φ l).toArray++rest) e))∧
  Grow φ dm H w φ' dm' (K.add (.cells l.length (putCells l 0 .E) e true size fz)) (w.drew.alloc (.cells ((ab2 φ l).toArray++rest) e)):=by
 obtain⟨r1,g1⟩:=hr.weaken hK (Nat.le_of_eq hKn.symm) hKl
 obtain⟨r2,g2⟩:=r1.same (w':=w.drew) rfl rfl rfl rfl
 have:=r2.alloc (b:=K.next) (aai _) (o:= .cells ((ab2 φ l).toArray++rest) e) (x:= .cells l.length (putCells l 0 .E) e true size fz) (l:=⟨w.heap.size,0,k⟩) rfl
  (H':=K.add (.cells l.length (putCells l 0 .E) e true size fz)) (fun k=>akb _ _ _ _ hlim) (ab5 _) (aeQ _) ?_
 ·rw[←hKn]
  exact⟨_,_,if_pos rfl,.inr rfl,this.1,g1.trans (g2.trans this.2)⟩
 ·refine⟨_,(0,0),amR w.drew _,aKK _ _ _,(fun hf=>by cases hf),(fun _=>by simp[adP,hrest]),fun i v hv=>?_⟩
  rw[ahj _ _ _ _ (by omega)]at hv
  split at hv
  ·rename_i hi
   refine⟨by omega,aoL hl hv,?_⟩
   rw[alp]at hv
   rw[adI,agw (by simp[adP];omega)]
   simp only[adY,agL,hv]
   rfl
  ·rw[T.akl]at hv;cases hv
theorem a1k {ts:Array TypeId}{ty t e d:Nat}{de:TypeDesc}{size:Nat}{x y:Operand}{u q:Od}(ht0:ts[0]? =some t)(ht:P.underlying t=some (.slice e))
 (ht1:ts[1]? =some d)(hd:P.underlying d=some de)(hi:atc de=false)(hs:sizeT P e=some size)(hsz:0<size)(hzl:(zeroOf P e).map List.length=some size)
 (hx:adC x=some u)(hy:adC y=some q)(hv:acA g H (.append e size (arE P e) u q)=some (v,H'))(R:RR φ dm g a)(hr:Rel P φ dm H w):
 Good P φ dm H w ((do pure (Next.value (←Builtin.append_ ts ty #[a.eval x,a.eval y])):Sem Next).run P w) v H':=by
 obtain⟨z,hz,bD9⟩:=ac1.1 hzl
 obtain⟨i,z0,hinfo,hz0,hzz⟩:=ant hz
 have hcz:=(hzz φ dm).1
 have bs0:z0.cells.size=size:=by rw[←hcz];simp[adP,bD9]
 have hbi:arE P e=i.bytes:=by simp[arE,hinfo]
 simp only[acA]at hv
 split at hv
 case h_2=>contradiction
 rename_i s he
 split at hv
 case h_2=>contradiction
 rename_i r he2
 obtain⟨e1,e2⟩:=abU R hx he
 obtain⟨e3,e4⟩:=abU R hy he2
 rw[e1,e3]
 unfold aNY at hv
 split at hv
 ·contradiction
 rename_i m new hel
 obtain⟨l1,l2,l3,l4⟩:=aoQ hr hel e4
 have hnew:=l1 m (aai _)
 rw[aiG (by omega)]at hnew
 have hrd:=(hr.same (w':=w.drew) rfl rfl rfl rfl).1
 have aX7:=(aoQ hrd hel e4).1 m (aai _)
 rw[aiG (by omega)]at aX7
 have hn0:=l1 0 (ab6 _)
 simp only[Nat.zero_mul,agN,ab2]at hn0
 split at hv
 ·split at hv
  ·rename_i hm
   subst hm
   injection hv with hv
   injection hv with h1 h2
   subst h1
   subst h2
   refine Good.still (afs _ ?_) (by simp[sc]) hr
   exact asn ht0 ht ht1 hd hi hs l3 hn0 (aai 0)
  ·rename_i hm
   split at hv
   ·rename_i hb
    split at hv
    ·rename_i b H1 hn
     injection hv with hv
     injection hv with h1 h2
     subst h1
     subst h2
     unfold ara at hn
     split at hn
     ·rename_i hlim
      injection hn with hn
      injection hn with hn1 hn2
      subst hn1
      subst hn2
      obtain⟨k,hk⟩:=run_append_grow (P:=P) (w:=w) (ty:=ty) (base:=none) (n:=0) (cap:=0) (old:=#[]) ht0 ht ht1 hd hi hs hinfo hz0 l3 aX7 (by simp[Builtin.firstCells]) (by omega) (by unfold LIM at hb;omega) (by rw[←hbi];unfold LIM at hb;omega)
      obtain⟨φ',dm',p1,p2,p3,p4⟩:=hr.grown 0 (e:=e) (size:=size) (k:=k) (l:=new) (rest:=Builtin.zeroCells z0.cells k) (K:=H) (fun _ _ h=>h) (fun _ _ _ _ _ _ h=>h) rfl hlim.1 hlim.2 l2 (by rw[ap2,bs0])
      refine⟨φ',dm',_,_,afs _ hk,.inl ?_,p2,?_,?_⟩
      ·simp only[abe,p1,adI]
       congr 3
       simp
      ·simpa using p3
      ·simpa using p4
     ·contradiction
    ·contradiction
   ·contradiction
 ·rename_i b o d' n c
  split at hv
  ·rename_i hm
   subst hm
   split at hv
   ·rename_i hnc
    injection hv with hv
    injection hv with h1 h2
    subst h1
    subst h2
    exact Good.still (afs _ (asn ht0 ht ht1 hd hi hs l3 hn0 (aa7 hnc (Nat.le_add_right _ _)))) e2 hr
   ·contradiction
  ·rename_i hm
   split at hv
   ·rename_i nc vals elem flex esz fz hb
    obtain⟨cc,zz,k1,k2,k3,k4,k5⟩:=hr.blk b _ hb e2
    split at hv
    ·rename_i hfit
     split at hv
     ·rename_i H1 hst
      injection hv with hv
      injection hv with h1 h2
      subst h1
      subst h2
      obtain⟨w',s1,s2,s3⟩:=arG hr hst e2 l2
      have hce:¬c+(φ b).ext=0:=by omega
      refine⟨φ,dm,w',_,afs _ ?_,.inl rfl,e2,s2,s3⟩
      simp only[abe]
      rw[if_neg hce]
      refine asv ht0 ht ht1 hd hi hs l3 hnew (by omega) ?_
      rw[agO,agI]
      exact s1
     ·contradiction
    ·rename_i hfit
     split at hv
     ·rename_i hb2
      obtain⟨q1,q2,q3,q4,q5⟩:=hb2
      split at hv
      ·rename_i no old hold
       obtain⟨o1,o2,o3,o4⟩:=aoQ hrd hold e2
       have hno:no=n:=by
        simp only[elemsOf]at hold
        split at hold
        ·rename_i h0;injection hold with hold;injection hold with h1 h2;omega
        ·split at hold
         ·split at hold
          ·contradiction
          ·split at hold
           ·injection hold with hold;injection hold with h1 h2;exact h1.symm
           ·contradiction
         ·contradiction
       subst hno
       have a7a:=o1 no (aai _)
       rw[aiG (by omega)]at a7a
       split at hv
       ·split at hv
        ·rename_i hcond
         obtain⟨c1,rfl,c2,c3,c4,c5⟩:=hcond
         injection hv with hv
         injection hv with h1 h2
         subst h1
         subst h2
         have hsize:=k4 rfl
         by_cases hroom:no+m≤c+(φ b).ext
         ·
          have hce:¬c+(φ b).ext=0:=by omega
          have m1:(no+m)*size≤(c+(φ b).ext)*size:=Nat.mul_le_mul_right _ hroom
          rw[Nat.add_mul,Nat.add_mul]at m1
          rw[c1]at hsize
          have aN4:(ab2 φ new).length=m*size:=by rw[adP];exact l4
          have hfz:∀j,j<(ab2 φ new).length→¬(zz.1≤(φ b).base+o+no*size+0+j∧(φ b).base+o+no*size+0+j<zz.2):=by
           intro j hj
           rw[aN4]at hj
           rcases c3 with h2|h2
           ·have:fz=0∨fz=1:=by omega
            rcases this with rfl|rfl
            ·have hzz:zz=(0,0):=k2
             rw[hzz];simp
            ·exact k2 _ (by omega)
           ·subst h2
            have k2':∀i,(φ b).base+nc≤i→i<cc.size→¬(zz.1≤i∧i<zz.2):=by
             unfold a6G at k2
             split at k2
             ·intro i _ _;rw[k2];simp
             ·intro i _ hi;exact k2 i hi
             ·exact k2
            exact k2' _ (by omega) (by omega)
          obtain⟨w',c',s1,s2,s3,s4,s5,s6,s7,s8,s9⟩:=anj (P:=P) (φ b).blk ((φ b).base+o+no*size) elem zz (ab2 φ new) 0 cc w k1 hfz
           (by rw[aN4];omega) (by
             intro v hv
             rw[anl]at hv
             obtain⟨u,hu,rfl⟩:=aaZ.1 hv
             exact aRy φ u (acg.1 q5 u hu))
          have hold':∀j u,old[j]? =some u→vals.get (o+j)=some u:=by
           simp only[elemsOf,hb]at hold
           split at hold
           ·injection hold with hold;injection hold with h1 h2;subst h2;intro j u hu;simp at hu
           ·split at hold
            ·contradiction
            ·split at hold
             ·rename_i r hg;injection hold with hold;injection hold with h1 h2;subst h2;exact(anQ _ _ _ _ hg).2
             ·contradiction
          have hoc:scL dm (old++new):=(agH dm _).2 fun v hv=>by
           rcases aaG.1 hv with h|h
           ·exact(agH dm _).1 o2 v h
           ·exact(agH dm _).1 l2 v h
          have hlen:(old++new).length=no*size+m*size:=by rw[aa1,o4,l4]
          have hnb:H.next≤H.next:=aai _
          have hext:(c+(φ b).ext - (no+m))*size=c*size+(φ b).ext*size - (no*size+m*size):=by rw[Nat.sub_mul,Nat.add_mul,Nat.add_mul]
          have hmv:=hr.move (w':=w') (b0:=b) (b:=H.next) (x:= .cells (old++new).length (putCells (old++new) 0 .E) elem true size fz)
           (l:=⟨(φ b).blk,(φ b).base+o,c+(φ b).ext - (no+m)⟩) hb e2 hnb rfl s2 s3 s4 s5 s6
           (H':=(H.put b none).add (.cells (old++new).length (putCells (old++new) 0 .E) elem true size fz))
           (fun k=>by
             show(T.set _ FUEL (T.set none FUEL H.bl b) H.next).get k=_
             rw[akb _ _ _ _ c4,akb _ _ _ _ q3]) (ab5 _) (aeQ _) ?_
          ·refine⟨_,_,w',_,afs _ ?_,.inl rfl,.inr rfl,hmv.1,hmv.2⟩
           simp only[abe,if_true]
           rw[if_neg hce]
           have:=asv (P:=P) (ty:=ty) (base:=⟨(φ b).blk,(φ b).base+o,none⟩) (n:=no) (cap:=c+(φ b).ext) (w':=w') ht0 ht ht1 hd hi hs l3 hnew hroom (by
            rw[agO];exact s1)
           rw[this]
           congr 2
           ·simp
           ·omega
          ·refine⟨c',zz,s7,?_,(fun hf=>by cases hf),fun _=>?_,fun i v hv=>?_⟩
           ·rw[s8]
            unfold a6G at k2 ⊢
            split at k2
            ·exact k2
            ·exact k2
            ·intro i hi hi2
             refine k2 i ?_ hi2
             have hi3:(φ b).base+o+(no*size+m*size)≤i:=by rw[←hlen];exact hi
             have f0:fz≠0:=by assumption
             have f1:fz≠1:=by assumption
             have:no=c:=by
              rcases c3 with h|h
              ·omega
              ·exact h
             subst this
             omega
           ·rw[s8,hlen]
            show cc.size=(φ b).base+o+_+(c+(φ b).ext - (no+m))*size
            rw[hext]
            omega
           ·rw[ahj _ _ _ _ (by omega)]at hv
            split at hv
            ·rename_i hi
             rw[alp]at hv
             refine⟨by omega,aoL hoc hv,?_⟩
             show c'[(φ b).base+o+i]? =_
             rw[s9,aN4]
             by_cases hin:i<no*size
             ·rw[if_neg (by omega)]
              rw[aby (by omega)]at hv
              have:=(k5 (o+i) v (hold' i v hv)).2.2
              rwa [←agI]at this
             ·rw[if_pos (by omega),agL]
              rw[acN (by omega),o4]at hv
              rw[show(φ b).base+o+i - ((φ b).base+o+no*size+0)=i - no*size by omega,hv]
              rfl
            ·rw[T.akl]at hv;cases hv
         ·
          obtain⟨k,hk⟩:=run_append_grow (P:=P) (w:=w) (ty:=ty) ht0 ht ht1 hd hi hs hinfo hz0 l3 aX7 a7a hroom (by unfold LIM at q1;omega) (by rw[←hbi];unfold LIM at q2;omega)
          obtain⟨φ',dm',p1,p2,p3,p4⟩:=hr.grown fz (e:=elem) (size:=size) (k:=k) (l:=old++new) (rest:=Builtin.zeroCells z0.cells k) (K:=H.put b none)
           (fun k x hk=>by
             have hk':(T.set none FUEL H.bl b).get k=some x:=hk
             rw[akb _ _ _ _ q3]at hk'
             split at hk'
             ·cases hk'
             ·exact hk') (fun b' m left cur ents _ hm=>by
             show(T.set none FUEL H.bl b).get m=_
             rw[akb _ _ _ _ q3]
             split
             ·rename_i he;rw[he,hb]at hm;cases hm
             ·exact hm) rfl c4 c5
           ((agH dm _).2 fun v hv=>by
             rcases aaG.1 hv with h|h
             ·exact(agH dm _).1 o2 v h
             ·exact(agH dm _).1 l2 v h) (by rw[ap2,bs0])
          have aWo:(ab2 φ (old++new)).toArray=(ab2 φ old).toArray++(ab2 φ new).toArray:=by rw[ame];simp
          rw[aWo]at p3 p4
          refine⟨φ',dm',_,_,afs _ hk,.inl ?_,p2,p3,p4⟩
          simp only[abe,p1]
          congr 3
          simp
        ·contradiction
       ·split at hv
        ·rename_i b' H1 hn
         injection hv with hv
         injection hv with h1 h2
         subst h1
         subst h2
         obtain⟨f1,f2,f3⟩:=k3 rfl
         unfold ara at hn
         split at hn
         ·rename_i hlim
          injection hn with hn
          injection hn with hn1 hn2
          subst hn1
          subst hn2
          obtain⟨k,hk⟩:=run_append_grow (P:=P) (w:=w) (ty:=ty) ht0 ht ht1 hd hi hs hinfo hz0 l3 aX7 a7a (by omega) (by unfold LIM at q1;omega) (by rw[←hbi];unfold LIM at q2;omega)
          obtain⟨φ',dm',p1,p2,p3,p4⟩:=hr.grown 0 (e:=e) (size:=size) (k:=k) (l:=old++new) (rest:=Builtin.zeroCells z0.cells k) (K:=H) (fun _ _ h=>h) (fun _ _ _ _ _ _ h=>h) rfl hlim.1 hlim.2
           ((agH dm _).2 fun v hv=>by
             rcases aaG.1 hv with h|h
             ·exact(agH dm _).1 o2 v h
             ·exact(agH dm _).1 l2 v h) (by rw[ap2,bs0])
          have aWo:(ab2 φ (old++new)).toArray=(ab2 φ old).toArray++(ab2 φ new).toArray:=by rw[ame];simp
          rw[aWo]at p3 p4
          refine⟨φ',dm',_,_,afs _ hk,.inl ?_,p2,p3,p4⟩
          simp only[abe,p1]
          congr 3
          simp
         ·contradiction
        ·contradiction
      ·contradiction
     ·contradiction
   ·contradiction
 ·contradiction
end
end Ex
end
section
open Go.RowKit
namespace Ex
noncomputable section
variable {P:Program}{φ:Nat→Loc}{dm:Nat→Prop}{g:Nat→Option AV}{a:Act}{H H':AH}{w:World}{v:AV}
theorem ahl {r:Nat}{es:Array MapEntry}{c:Nat}(h:w.heap[r]? =some (.map es c)):(getObj r).run P w= .ok (.map es c) w:=by simp[getObj,Sem.run,h]
theorem am6 {r:Nat}{es:Array MapEntry}{c:Nat}(o:Obj)(h:w.heap[r]? =some (.map es c)):(setObj r o).run P w= .ok () {w with heap:=w.heap.setIfInBounds r o}:=by simp[setObj,Sem.run,h]
theorem ax0 (hr:Rel P φ dm H w){K H':AH}{lo:Nat}(hlim:K.next<LIM)(A:arj dm K (K.add (.map [])) H H')(hlo:lo≤K.next):
 ∃φ' dm',(φ' K.next).blk=w.heap.size∧dm' K.next∧Rel P φ' dm' H' (w.alloc (.map #[] 0))∧GrowS lo φ dm H w φ' dm' H' (w.alloc (.map #[] 0))∧∀c,dm' c→dm c∨c=K.next:=by
 have:=hr.aWd (b:=K.next) A.hb (o:= .map #[] 0) (x:= .map []) (l:=⟨w.heap.size,0,0⟩) rfl
  (H':=H') (fun k=>by rw[A.get k,show(K.add (afp.map [])).bl.get K.next=some (.map []) from by
    show(T.set _ FUEL K.bl K.next).get K.next=_;rw[akb _ _ _ _ hlim,if_pos rfl]]) A.hn A.lt ⟨#[],0,amR w _,by simp,by simp,by simp,by simp,by simp⟩ hlo
 exact⟨_,_,by simp,.inr rfl,this.1,this.2,fun c hc=>hc⟩
theorem avH {t:TypeId}{K K':AH}{lo:Nat}(A:arj dm K K' H H')(hlo:lo≤K.next)(hv:acA g K (.asl none)=some (v,K'))(hr:Rel P φ dm H w):
 GoodS lo K.next P φ dm H w ((do pure (Next.value (←Instr.makeMap t none)):Sem Next).run P w) v H':=by
 simp only[acA]at hv
 split at hv
 ·rename_i hl
  injection hv with hv
  injection hv with h1 h2
  subst h1
  subst h2
  obtain⟨φ',dm',k1,k2,k3,k4⟩:=ax0 hr hl A hlo
  refine⟨φ',dm',_,_,afs _ (v:= .map (some w.heap.size)) (by simp[Instr.makeMap]),.inl ?_,k2,k3,k4⟩
  simp[abe,k1]
 ·contradiction
theorem aIY {t:TypeId}(hv:acA g H (.asl none)=some (v,H'))(hr:Rel P φ dm H w):
 Good P φ dm H w ((do pure (Next.value (←Instr.makeMap t none)):Sem Next).run P w) v H':=by
 obtain⟨x,hl,rfl⟩:=aod hv rfl
 exact(avH (.self hr hl) (aai _) hv hr).good
theorem avM {t k e:TypeId}{x:Operand}{u:Od}(ht:P.underlying t=some (.map k e))(hx:adC x=some u){K K':AH}{lo:Nat}(A:arj dm K K' H H')(hlo:lo≤K.next)(hv:acA g K (.asl (some u))=some (v,K'))(R:RR φ dm g a)(hr:Rel P φ dm H w):
 GoodS lo K.next P φ dm H w ((do pure (Next.value (←Instr.makeMap t (some (a.eval x)))):Sem Next).run P w) v H':=by
 simp only[acA]at hv
 split at hv
 ·rename_i kk nn he
  split at hv
  ·rename_i hl
   injection hv with hv
   injection hv with h1 h2
   subst h1
   subst h2
   obtain⟨e1,_⟩:=abU R hx he
   obtain⟨φ',dm',k1,k2,k3,k4⟩:=ax0 hr hl A hlo
   refine⟨φ',dm',_,_,afs _ (v:= .map (some w.heap.size)) (by simp[Instr.makeMap,e1,run_underlying ht,abe,asInt,asIntOf]),.inl ?_,k2,k3,k4⟩
   simp[abe,k1]
  ·contradiction
 ·contradiction
theorem aI1 {t k e:TypeId}{x:Operand}{u:Od}(ht:P.underlying t=some (.map k e))(hx:adC x=some u)(hv:acA g H (.asl (some u))=some (v,H'))(R:RR φ dm g a)(hr:Rel P φ dm H w):
 Good P φ dm H w ((do pure (Next.value (←Instr.makeMap t (some (a.eval x)))):Sem Next).run P w) v H':=by
 obtain⟨x,hl,rfl⟩:=aod hv rfl
 exact(avM ht hx (.self hr hl) (aai _) hv R hr).good
theorem bcZ {t k e:TypeId}{ts:Array TypeId}{ty:TypeId}{x:Operand}{u:Od}(ht0:ts[0]? =some t)(ht:P.underlying t=some (.map k e))(hx:adC x=some u)(hv:acA g H (.a6C u)=some (v,H'))(R:RR φ dm g a)(hr:Rel P φ dm H w):
 Good P φ dm H w ((do pure (Next.value (←Builtin.len_ ts ty #[a.eval x])):Sem Next).run P w) v H':=by
 simp only[acA]at hv
 split at hv
 ·rename_i he
  injection hv with hv
  injection hv with h1 h2
  subst h1
  subst h2
  obtain⟨e1,_⟩:=abU R hx he
  exact Good.still (afs _ (by simp[Builtin.len_,ht0,e1,abe,run_underlying ht,goInt])) (by simp[sc]) hr
 ·rename_i b he
  split at hv
  ·rename_i l hl
   injection hv with hv
   injection hv with h1 h2
   subst h1
   subst h2
   obtain⟨e1,e2⟩:=abU R hx he
   obtain⟨es,cl,m1,m2,_⟩:=hr.blk b _ hl e2
   have hlen:es.size=l.length:=by have:=m2.length_eq;simpa using this
   refine Good.still (afs _ ?_) (by simp[sc]) hr
   simp[Builtin.len_,ht0,e1,abe,run_underlying ht,goInt,ahl m1,hlen]
  ·contradiction
 ·contradiction
theorem bs1 {t e:TypeId}{ts:Array TypeId}{ty:TypeId}{x:Operand}{u:Od}(ht0:ts[0]? =some t)(ht:P.underlying t=some (.slice e))(hx:adC x=some u)(hv:acA g H (.cap u)=some (v,H'))(R:RR φ dm g a)(hr:Rel P φ dm H w):
 Good P φ dm H w ((do pure (Next.value (←Builtin.cap_ ts ty #[a.eval x])):Sem Next).run P w) v H':=by
 simp only[acA]at hv
 split at hv
 ·rename_i he
  injection hv with hv
  injection hv with h1 h2
  subst h1
  subst h2
  obtain⟨e1,_⟩:=abU R hx he
  exact Good.still (afs _ (by simp[Builtin.cap_,ht0,e1,abe,run_underlying ht,goInt])) (by simp[sc]) hr
 ·rename_i b o d n c he
  split at hv
  ·rename_i q1 q2 q3 q4 q5 hb
   injection hv with hv
   injection hv with h1 h2
   subst h1
   subst h2
   obtain⟨e1,e2⟩:=abU R hx he
   obtain⟨cc,zz,_,_,k3,_⟩:=hr.blk b _ hb e2
   have hext:=(k3 rfl).2.1
   exact Good.still (afs _ (by simp[Builtin.cap_,ht0,e1,abe,run_underlying ht,goInt,hext])) (by simp[sc]) hr
  ·contradiction
 ·contradiction
theorem a1n {t e:TypeId}{n s:Nat}{x:Operand}{lo hi:Option Operand}{u:Od}{l h:Option Od}
 (hx:adC x=some u)(hl:odO lo=some l)(hh:odO hi=some h)(ht:P.underlying t=some (.array n e))(hs:sizeT P e=some s)
 (hv:acA g H (.aGy n s u l h)=some (v,H'))(R:RR φ dm g a)(hr:Rel P φ dm H w):
 Good P φ dm H w ((do pure (Next.value (←Instr.sliceAt t (a.eval x) (lo.map a.eval) (hi.map a.eval) none)):Sem Next).run P w) v H':=by
 simp only[acA]at hv
 split at hv
 ·rename_i b o he
  obtain⟨h1,h2⟩:=abU R hx he
  split at hv
  ·rename_i hv' e1
   split at hv
   ·rename_i lv e2
    split at hv
    ·rename_i q1 q2 q3 q4 q5 hb
     injection hv with hv
     injection hv with h3 h4
     subst h3
     subst h4
     obtain⟨cc,zz,_,_,k3,_⟩:=hr.blk b _ hb h2
     have hext:=(k3 rfl).2.1
     refine Good.still (afs _ ?_) h2 hr
     have hbn:=aqy (P:=P) R (s:=false) hl hh e1 e2 (aai n) w
     have hlv:lv≤hv':=by
      rcases anO R hl e2 with⟨_,rfl⟩|⟨_,_,_,_,h3⟩
      ·omega
      ·exact h3
     have hvl:hv'≤n:=by
      rcases anO R hh e1 with⟨_,rfl⟩|⟨_,_,_,_,h3⟩
      ·omega
      ·exact h3
     rw[h1]
     simp only[Instr.sliceAt,aa0,run_underlying ht,aay,abe,Instr.sureAddr,abA,hbn,aeb hs,hext,adK]
     congr 2
     ·by_cases hc:n=lv
      ·rw[if_pos hc,if_pos (by omega)]
      ·rw[if_neg hc,if_neg (by omega),agO,agI]
    ·contradiction
   ·contradiction
  ·contradiction
 ·contradiction
theorem bs6 {src dst e:TypeId}{x:Operand}{u:Od}(h1:P.underlying src=some .string)(h2:P.underlying dst=some (.slice e))(h3:P.underlying e=some (.int .u8))
 (hx:adC x=some u)(hv:acA g H (.s2b e u)=some (v,H'))(R:RR φ dm g a)(hr:Rel P φ dm H w):
 Good P φ dm H w ((do pure (Next.value (←convert src dst (a.eval x))):Sem Next).run P w) v H':=by
 simp only[acA]at hv
 split at hv
 ·rename_i l n he
  split at hv
  ·rename_i hl
   split at hv
   ·rename_i b H1 hn
    injection hv with hv
    injection hv with k1 k2
    subst k1
    subst k2
    obtain⟨e1,_⟩:=abU R hx he
    unfold ara at hn
    split at hn
    ·rename_i hlim
     injection hn with hn
     injection hn with hn1 hn2
     subst hn1
     subst hn2
     obtain⟨k,hk⟩ :∃k,Question.cut (.appendCap l 0 e) (w.tape w.drawn (.appendCap l 0 e))=l+k:=⟨_,rfl⟩
     have hch:(choose (.appendCap l 0 e)).run P w= .ok (l+k) w.drew:=by
      rw[run_choose_drew,if_neg (by simp[Question.forced]),hk]
     have hel:((aj9 l n).data.map fun b=>Value.int .u8 b.toNat)=(ab2 φ (akP n l)).toArray:=by
      rw[atv];simp[aj9]
     have hrd:=(hr.same (w':=w.drew) rfl rfl rfl rfl)
     have hsz:((ab2 φ (akP n l)).toArray++Array.replicate k (Value.int .u8 0)).size=l+k:=by simp[adP,anS]
     obtain⟨W,hW⟩ :∃W,W=w.drew.alloc (.cells ((ab2 φ (akP n l)).toArray++Array.replicate k (Value.int .u8 0)) e):=⟨_,rfl⟩
     have hWh:W.heap[w.heap.size]? =some (.cells ((ab2 φ (akP n l)).toArray++Array.replicate k (Value.int .u8 0)) e (0,0)):=by rw[hW];exact amR w.drew _
     have aN5:=hrd.1.alloc (b:=H.next) (aai _) (o:= .cells ((ab2 φ (akP n l)).toArray++Array.replicate k (Value.int .u8 0)) e) (x:= .cells (akP n l).length (putCells (akP n l) 0 .E) e true 1 1) (l:=⟨w.heap.size,0,k⟩) rfl
      (H':=H.add (.cells (akP n l).length (putCells (akP n l) 0 .E) e true 1 1)) (fun k=>akb _ _ _ _ hlim.1) (ab5 _) (aeQ _)
      ⟨_,(0,0),amR w.drew _,aKK _ _ _,(fun hf=>by cases hf),(fun _=>by rw[hsz,anS];simp),fun i v hv=>by
       rw[ahj _ _ _ _ (by omega)]at hv
       split at hv
       ·rename_i hi
        rw[alp]at hv
        refine⟨by omega,aoL (auT _ _) hv,?_⟩
        rw[adI,agw (by simp[adP];omega)]
        simp only[adY,agL,hv]
        rfl
       ·rw[T.akl]at hv;cases hv⟩
     rw[←hW]at aN5
     obtain⟨W',hW'⟩ :∃W',W'=W.freeze {block:=w.heap.size,off:=l+k} 1:=⟨_,rfl⟩
     have hfz:W'.heap[w.heap.size]? =some (.cells ((ab2 φ (akP n l)).toArray++Array.replicate k (Value.int .u8 0)) e (l+k,l+k+1)):=by
      rw[hW'];simp[World.freeze,ah5,hWh]
     have hoth:∀i,i≠w.heap.size→W'.heap[i]? =W.heap[i]? :=by
      intro i hi
      rw[hW'];simp[World.freeze,ah5,ahU hi]
     have hturn:=aN5.1.turn (w':=W') (b:=H.next) (x:= .cells (akP n l).length (putCells (akP n l) 0 .E) e true 1 1) (H':=H.add (.cells (akP n l).length (putCells (akP n l) 0 .E) e true 1 1))
      (by show(T.set _ FUEL H.bl H.next).get H.next=_;rw[akb _ _ _ _ hlim.1,if_pos rfl]) (.inr rfl) (by rw[hW'];simp[World.freeze]) (by rw[hW'];simp[World.freeze]) (by rw[hW'];simp[World.freeze]) (by rw[hW'];simp[World.freeze])
      (by simpa using hoth)
      (fun k=>by
        show(T.set _ FUEL H.bl H.next).get k=_
        rw[akb _ _ _ _ hlim.1]
        by_cases hk:k=H.next
        ·rw[if_pos hk,if_pos hk]
        ·rw[if_neg hk,if_neg hk]
         show _=(T.set _ FUEL H.bl H.next).get k
         rw[akb _ _ _ _ hlim.1,if_neg hk]) rfl ?_
     ·refine⟨_,_,W',_,afs _ (v:= .slice (some ⟨w.heap.size,0,none⟩) l (l+k)) ?_,.inl ?_,.inr rfl,hturn.1,hrd.2.trans (aN5.2.trans hturn.2)⟩
      ·rw[e1]
       simp only[abe,convert,aa0,run_underlying h1,run_underlying h2,run_underlying h3,aay,Conv.stringToBytes,aob,hch,hel,newRow,Nat.add_sub_cancel_left]
       have hsh:W.shape? w.heap.size=some (e,l+k):=by simp only[World.shape?,hWh,hsz]
       have hmark:(markStringish ⟨w.heap.size,0,none⟩).run P W= .ok () W':=by
        unfold markStringish
        rw[aes (v:=some (e,l+k)) (w':=W) (by show Result.ok (W.shape? w.heap.size) W=_;rw[hsh])]
        rw[hW']
        rfl
       have hnew:(newObj (Obj.cells ((ab2 φ (akP n l)).toArray++Array.replicate k (Value.int IntKind.u8 0)) e)).run P w.drew= .ok w.heap.size W:=by
        rw[hW];rfl
       simp only[hnew,aay,abA,hmark]
      ·simp[abe]
     ·simp only[if_true]
      refine⟨_,_,hfz,fun i hi hc=>?_,(fun hf=>by cases hf),(fun _=>by rw[hsz,anS];simp),fun i v hv=>by
       rw[ahj _ _ _ _ (by omega)]at hv
       split at hv
       ·rename_i hi
        rw[alp]at hv
        refine⟨by omega,aoL (auT _ _) hv,?_⟩
        rw[adI,agw (by simp[adP];omega)]
        simp only[adY,agL,hv]
        exact congrArg some (ahS aN5.2.ph v (aoL (auT (dm:=dm) _ _) hv)).symm
       ·rw[T.akl]at hv;cases hv⟩
      rw[hsz]at hi
      simp only at hc
      omega
    ·contradiction
   ·contradiction
  ·contradiction
 ·contradiction
end
end Ex
end
section
open Go.RowKit
namespace Ex
noncomputable section
variable {P:Program}{φ:Nat→Loc}{dm:Nat→Prop}{g:Nat→Option AV}{a:Act}{H H':AH}{w:World}{v:AV}
theorem bytes_beq (a b:ByteArray):(a==b)=true↔a=b:=by
 cases a;cases b
 rename_i x y
 show(x==y)=true↔_
 simp
theorem aqH (b o o':Nat):(sameAddr ⟨b,o,none⟩ ⟨b,o',none⟩).run P w= .ok (o==o') w:=by
 have e:((⟨b,o,none⟩ :Addr)==⟨b,o',none⟩)=(o==o'):=by
  rw[ace]
  simp
 simp[sameAddr,e]
theorem aCB (hr:Rel P φ dm H w){b:Nat}(h:aNU H b=true)(hd:dm b):
 ∃c t n x,w.heap[(φ b).blk]? =some (.cells c t (0,0))∧H.bl.get b=some x∧c.size=n:=by
 unfold aNU at h
 split at h
 ·rename_i q1 q2 q3 q4 q5 hb
  obtain⟨c,z,k1,k2,_⟩:=hr.blk b _ hb hd
  have:z=(0,0):=k2
  subst this
  exact⟨c,_,_,_,k1,hb,rfl⟩
 ·contradiction
theorem apO {a b:Addr}{c1 c2:Array Value}{t1 t2:TypeId}(hne:a.block≠b.block)(ha:w.heap[a.block]? =some (.cells c1 t1 (0,0)))(hb:w.heap[b.block]? =some (.cells c2 t2 (0,0))):
 (sameAddr a b).run P w= .ok false w:=by
 have f1:∀k,(frozen ⟨a.block,k,none⟩).run P w= .ok false w:=fun k=>by show Result.ok (w.frozen? _) w=_;simp[World.frozen?,ha]
 have f2:∀k,(frozen ⟨b.block,k,none⟩).run P w= .ok false w:=fun k=>by show Result.ok (w.frozen? _) w=_;simp[World.frozen?,hb]
 have g1:(frozen a).run P w= .ok false w:=by show Result.ok (w.frozen? _) w=_;simp[World.frozen?,ha]
 have g2:(frozen b).run P w= .ok false w:=by show Result.ok (w.frozen? _) w=_;simp[World.frozen?,hb]
 have s1:(shape a.block).run P w= .ok (some (t1,c1.size)) w:=by show Result.ok (w.shape? _) w=_;simp[World.shape?,ha]
 have s2:(shape b.block).run P w= .ok (some (t2,c2.size)) w:=by show Result.ok (w.shape? _) w=_;simp[World.shape?,hb]
 have s1':w.shape? a.block=some (t1,c1.size):=by simp[World.shape?,ha]
 have s2':w.shape? b.block=some (t2,c2.size):=by simp[World.shape?,hb]
 have v1:(noView a).run P w= .ok () w:=by simp[noView,viewAt,s1']
 have v2:(noView b).run P w= .ok () w:=by simp[noView,viewAt,s2']
 have st1:(stringish a).run P w= .ok false w:=by simp[stringish,g1,s1',f1]
 have st2:(stringish b).run P w= .ok false w:=by simp[stringish,g2,s2',f2]
 have m:(mayBeOne a b).run P w= .ok false w:=by
  simp[mayBeOne,st1,st2,s1',s2']
 unfold sameAddr
 rw[if_neg (by simpa using hne)]
 simp[g1,v1,v2,m]
theorem aCF (hr:Rel P φ dm H w){b o b' o':Nat}{r:Bool}(h:ptrEq H b o b' o'=some r)(hd:dm b)(hd':dm b'):
 (sameAddr ⟨(φ b).blk,(φ b).base+o,none⟩ ⟨(φ b').blk,(φ b').base+o',none⟩).run P w= .ok r w∧(r=true↔abe φ (.ptr b o)=abe φ (.ptr b' o')):=by
 unfold ptrEq at h
 split at h
 ·rename_i hb
  subst hb
  injection h with h
  subst h
  rw[aqH]
  have e:((φ b).base+o==(φ b).base+o')=(o==o'):=by rw[ace];simp
  rw[e]
  exact⟨rfl,by simp[abe]⟩
 ·rename_i hb
  split at h
  ·rename_i hp
   injection h with h
   subst h
   rw[aa6]at hp
   obtain⟨c1,t1,n1,x1,k1,k2,_⟩:=aCB hr hp.1 hd
   obtain⟨c2,t2,n2,x2,k3,k4,_⟩:=aCB hr hp.2 hd'
   have hne:(φ b).blk≠(φ b').blk:=fun he=>hb (hr.inj b b' x1 x2 k2 k4 hd hd' he)
   refine⟨apO (by simpa using hne) k1 k3,?_⟩
   simp[abe,hne]
  ·contradiction
def KD (P:Program)(k:TypeId):Nat→Prop
 |0=>∃i,P.underlying k=some (.int i)
 |1=>P.underlying k=some .string
 |2=>P.underlying k=some .bool
 |3=>∃e n,P.underlying k=some (.pointer e)∧sizeT P e=some n∧n≠0
 |_=>False
theorem aA2 {t:TypeId}{kd:Nat}{e:TypeId}(h:aNC P t=some (kd,e)):∃k,P.underlying t=some (.map k e)∧KD P k kd:=by
 unfold aNC at h
 split at h
 ·rename_i k e' ht
  split at h
  ·rename_i i hk;injection h with h;injection h with h1 h2;subst h1 h2;exact⟨k,ht,i,hk⟩
  ·rename_i hk;injection h with h;injection h with h1 h2;subst h1 h2;exact⟨k,ht,hk⟩
  ·rename_i hk;injection h with h;injection h with h1 h2;subst h1 h2;exact⟨k,ht,hk⟩
  ·rename_i x hk
   split at h
   ·rename_i n hn
    split at h
    ·contradiction
    ·rename_i hn0;injection h with h;injection h with h1 h2;subst h1 h2;exact⟨k,ht,x,n,hk,hn,hn0⟩
   ·contradiction
  ·contradiction
 ·contradiction
structure Cmp (P:Program)(w:World)(k:TypeId)(kd:Nat)(K y:Value)(b:Bool):Prop where
 iff:b=true↔K=y
 now:kd<3→∀d,P.underlying k=some d→Instr.sameNow d K y=some b
 ask:kd=3→(Op.equal k K y).run P w= .ok b w
theorem auw {k e:TypeId}{n:Nat}(hk:P.underlying k=some (.pointer e))(hn:sizeT P e=some n)(h0:n≠0)(p q:Addr){r:Bool}(h:(sameAddr p q).run P w= .ok r w):
 (Op.equal k (.pointer (some p)) (.pointer (some q))).run P w= .ok r w:=by
 show(Op.equalIn (9999+1) k _ _).run P w=_
 rw[Op.equalIn]
 simp[run_underlying hk,aeb hn,h0,h]
theorem aCG (hr:Rel P φ dm H w){k:TypeId}{kd:Nat}(hk:KD P k kd){x y:AV}{b:Bool}(h:anZ H kd x y=some b)(hx:sc dm x)(hy:sc dm y):Cmp P w k kd (abe φ x) (abe φ y) b:=by
 unfold anZ at h
 split at h
 ·rename_i i p j q
  split at h
  ·rename_i hij
   subst hij
   injection h with h
   subst h
   obtain⟨ii,hk⟩:=hk
   exact⟨by simp[abe],fun _ d hd=>by rw[hk]at hd;injection hd with hd;subst hd;simp[abe,Instr.sameNow],fun h=>by cases h⟩
  ·contradiction
 ·rename_i l n l' n'
  injection h with h
  subst h
  have hk':P.underlying k=some .string:=hk
  refine⟨by rw[aAP];simp[abe],fun _ d hd=>?_,fun h=>by cases h⟩
  rw[hk']at hd;injection hd with hd;subst hd
  simp only[abe,Instr.sameNow]
  congr 1
  rw[ace,aAP,bytes_beq]
 ·injection h with h
  subst h
  have hk':P.underlying k=some .bool:=hk
  exact⟨by simp[abe],fun _ d hd=>by rw[hk']at hd;injection hd with hd;subst hd;simp[abe,Instr.sameNow],fun h=>by cases h⟩
 ·obtain⟨e,n,hk1,hk2,hk3⟩:=hk
  obtain⟨h1,h2⟩:=aCF hr h hx hy
  exact⟨h2,fun h=>by omega,fun _=>auw hk1 hk2 hk3 _ _ h1⟩
 ·contradiction
theorem aCI {d:TypeDesc}{K:Value}:∀(es:List MapEntry)(i:Nat),(∀e∈es,∃b,Instr.sameNow d K e.key=some b∧(b=true↔K=e.key))→
 ∃r,Instr.findNow d K es i=some r∧match r with
  |some (j,u)=>∃e,i≤j∧es[j - i]? =some e∧e.key=K∧e.val=u
  |none=>∀e∈es,e.key≠K
 | [],i,_=>⟨none,rfl,by simp⟩
 |e::es,i,h=>by
  obtain⟨b,hb,hiff⟩:=h e (by simp)
  cases b with
  |true=>exact⟨some (i,e.val),by simp[Instr.findNow,hb],e,aai _,by simp,(hiff.1 rfl).symm,rfl⟩
  |false=>
   obtain⟨r,hr,hm⟩:=aCI es (i+1) fun e he=>h e (by simp[he])
   refine⟨r,by simp[Instr.findNow,hb,hr],?_⟩
   cases r with
   |none=>
    intro e' he'
    rcases abb.1 he' with rfl|he'
    ·intro hk;exact Bool.noConfusion (hiff.2 hk.symm)
    ·exact hm e' he'
   |some ju=>
    obtain⟨j,u⟩:=ju
    obtain⟨e',h1,h2,h3,h4⟩:=hm
    exact⟨e',by omega,by rw[show j - i=(j - (i+1))+1 by omega];simpa using h2,h3,h4⟩
theorem atw {k:TypeId}{K:Value}:∀(es:List MapEntry)(i:Nat),(∀e∈es,∃b,(Op.equal k K e.key).run P w= .ok b w∧(b=true↔K=e.key))→
 ∃r,(Instr.findAsking k K es i).run P w= .ok r w∧match r with
  |some (j,u)=>∃e,i≤j∧es[j - i]? =some e∧e.key=K∧e.val=u
  |none=>∀e∈es,e.key≠K
 | [],i,_=>⟨none,rfl,by simp⟩
 |e::es,i,h=>by
  obtain⟨b,hb,hiff⟩:=h e (by simp)
  cases b with
  |true=>exact⟨some (i,e.val),by simp[Instr.findAsking,hb],e,aai _,by simp,(hiff.1 rfl).symm,rfl⟩
  |false=>
   obtain⟨r,hr,hm⟩:=atw es (i+1) fun e he=>h e (by simp[he])
   refine⟨r,by simp[Instr.findAsking,hb,hr],?_⟩
   cases r with
   |none=>
    intro e' he'
    rcases abb.1 he' with rfl|he'
    ·intro hk;exact Bool.noConfusion (hiff.2 hk.symm)
    ·exact hm e' he'
   |some ju=>
    obtain⟨j,u⟩:=ju
    obtain⟨e',h1,h2,h3,h4⟩:=hm
    exact⟨e',by omega,by rw[show j - i=(j - (i+1))+1 by omega];simpa using h2,h3,h4⟩
theorem akH {k:TypeId}{kd:Nat}(hk:KD P k kd){K:Value}(es:List MapEntry)(h:∀e∈es,∃b,Cmp P w k kd K e.key b):
 ∃r,(Instr.findKey k K es).run P w= .ok r w∧match r with
  |some (j,u)=>∃e,es[j]? =some e∧e.key=K∧e.val=u
  |none=>∀e∈es,e.key≠K:=by
 obtain⟨d,hd⟩ :∃d,P.underlying k=some d:=by
  match kd,hk with
  |0,⟨i,h⟩=>exact⟨_,h⟩
  |1,h=>exact⟨_,h⟩
  |2,h=>exact⟨_,h⟩
  |3,⟨e,n,h,_⟩=>exact⟨_,h⟩
 by_cases hk3:kd<3
 ·obtain⟨r,hr,hm⟩:=aCI (d:=d) (K:=K) es 0 fun e he=>by
   obtain⟨b,hb⟩:=h e he
   exact⟨b,hb.now hk3 d hd,hb.iff⟩
  refine⟨r,by simp[Instr.findKey,run_underlying hd,hr],?_⟩
  cases r with
  |none=>exact hm
  |some ju=>obtain⟨j,u⟩:=ju;obtain⟨e,_,h2,h3⟩:=hm;exact⟨e,by simpa using h2,h3⟩
 ·have h3:kd=3:=by
   match kd,hk with
   |0,_=>omega
   |1,_=>omega
   |2,_=>omega
   |3,_=>rfl
  subst h3
  obtain⟨e,n,hk1,_,_⟩:=hk
  rw[hk1]at hd
  injection hd with hd
  subst hd
  cases es with
  |nil=>exact⟨none,by simp[Instr.findKey,run_underlying hk1,Instr.findNow],by simp⟩
  |cons e0 es=>
   obtain⟨r,hr,hm⟩:=atw (P:=P) (w:=w) (k:=k) (K:=K) (e0::es) 0 fun e he=>by
    obtain⟨b,hb⟩:=h e he
    exact⟨b,hb.ask rfl,hb.iff⟩
   refine⟨r,?_,?_⟩
   ·simp only[Instr.findKey,aa0,run_underlying hk1,aay,Instr.findNow,Instr.sameNow]
    exact hr
   ·cases r with
    |none=>exact hm
    |some ju=>obtain⟨j,u⟩:=ju;obtain⟨e,_,h2,h3⟩:=hm;exact⟨e,by simpa using h2,h3⟩
theorem ahL {k:TypeId}{kd:Nat}(hk:KD P k kd)(em:Bool)(K:Value):(Instr.checkKey em 10000 k K).run P w= .ok () w:=by
 show(Instr.checkKey em (9999+1) k K).run P w=_
 rw[Instr.checkKey]
 match kd,hk with
 |0,⟨i,h⟩=>cases K<;>simp[run_underlying h]
 |1,h=>have h':P.underlying k=some .string:=h
       cases K<;>simp[run_underlying h']
 |2,h=>have h':P.underlying k=some .bool:=h
       cases K<;>simp[run_underlying h']
 |3,⟨e,n,h,_⟩=>cases K<;>simp[run_underlying h]
end
end Ex
end
section
open Go.RowKit
namespace Ex
noncomputable section
variable {P:Program}{φ:Nat→Loc}{dm:Nat→Prop}{g:Nat→Option AV}{a:Act}{H H':AH}{w:World}{v:AV}
abbrev kv (e:MapEntry):Value×Value:=(e.key,e.val)
abbrev cv (φ:Nat→Loc)(p:AV×AV):Value×Value:=(abe φ p.1,abe φ p.2)
theorem aGU {kd:Nat}{k u:AV}:∀{l:List (AV×AV)},aGO H kd k l=some u→∃m1 x m2,l=m1++(x,u)::m2∧anZ H kd k x=some true
 | [],h=>by cases h
 |(x,y)::l,h=>by
  simp only[aGO]at h
  split at h
  ·rename_i hk;injection h with h;subst h;exact⟨[],x,l,rfl,hk⟩
  ·obtain⟨m1,z,m2,rfl,hz⟩:=aGU h;exact⟨(x,y)::m1,z,m2,rfl,hz⟩
theorem aG1 {kd:Nat}{k:AV}:∀{l:List (AV×AV)},aGO H kd k l=none→∀p∈l,anZ H kd k p.1≠some true
 | [],_=>by simp
 |(x,y)::l,h=>by
  simp only[aGO]at h
  split at h
  ·cases h
  ·rename_i hk
   intro p hp
   rcases abb.1 hp with rfl|hp
   ·exact hk
   ·exact aG1 h p hp
theorem aG2 {kd:Nat}{k v:AV}:∀(l:List (AV×AV)),(∃m1 x u m2,l=m1++(x,u)::m2∧anZ H kd k x=some true∧a1f H kd k v l=m1++(k,v)::m2)∨
 ((∀p∈l,anZ H kd k p.1≠some true)∧a1f H kd k v l=l++ [(k,v)])
 | []=> .inr ⟨by simp,rfl⟩
 |(x,u)::l=>by
  simp only[a1f]
  by_cases hk:anZ H kd k x=some true
  ·rw[if_pos hk];exact .inl ⟨[],x,u,l,rfl,hk,rfl⟩
  ·rw[if_neg hk]
   rcases aG2 (kd:=kd) (k:=k) (v:=v) l with⟨m1,y,z,m2,h1,h2,h3⟩|⟨h1,h2⟩
   ·exact .inl ⟨(x,u)::m1,y,z,m2,by rw[h1];rfl,h2,by rw[h3];rfl⟩
   ·refine .inr ⟨fun p hp=>?_,by rw[h2];rfl⟩
    rcases abb.1 hp with rfl|hp
    ·exact hk
    ·exact h1 p hp
theorem aG5 {kd:Nat}{k:AV}:∀(l:List (AV×AV)),(∃m1 x u m2,l=m1++(x,u)::m2∧anZ H kd k x=some true∧a1i H kd k l=m1++m2)∨
 ((∀p∈l,anZ H kd k p.1≠some true)∧a1i H kd k l=l)
 | []=> .inr ⟨by simp,rfl⟩
 |(x,u)::l=>by
  simp only[a1i]
  by_cases hk:anZ H kd k x=some true
  ·rw[if_pos hk];exact .inl ⟨[],x,u,l,rfl,hk,rfl⟩
  ·rw[if_neg hk]
   rcases aG5 (kd:=kd) (k:=k) l with⟨m1,y,z,m2,h1,h2,h3⟩|⟨h1,h2⟩
   ·exact .inl ⟨(x,u)::m1,y,z,m2,by rw[h1];rfl,h2,by rw[h3];rfl⟩
   ·refine .inr ⟨fun p hp=>?_,by rw[h2]⟩
    rcases abb.1 hp with rfl|hp
    ·exact hk
    ·exact h1 p hp
structure MapAt (P:Program)(φ:Nat→Loc)(dm:Nat→Prop)(H:AH)(w:World)(k:TypeId)(kd b:Nat)(K:AV)(l:List (AV×AV))(es:Array MapEntry)(cl:Nat):Prop where
 at_:w.heap[(φ b).blk]? =some (.map es cl)
 perm:(es.toList.map kv).Perm (l.map (cv φ))
 nodup:(l.map fun p=>abe φ p.1).Nodup
 scs:∀p∈l,sc dm p.1∧sc dm p.2
 aKL:(es.toList.map (·.born)).Nodup
 old:∀e∈es.toList,e.born<cl
 same:∀p∈l,∀b,anZ H kd K p.1=some b→(b=true↔abe φ K=abe φ p.1)
 cmp:∀e∈es.toList,∃b,Cmp P w k kd (abe φ K) e.key b
theorem a7f (hr:Rel P φ dm H w){k:TypeId}{kd b:Nat}{K:AV}{l:List (AV×AV)}(hk:KD P k kd)(hb:H.bl.get b=some (.map l))(hd:dm b)(hK:sc dm K)(hc:atn H kd K l=true):
 ∃es cl,MapAt P φ dm H w k kd b K l es cl:=by
 obtain⟨es,cl,h1,h2,h3,h4,h5,h6⟩:=hr.blk b _ hb hd
 refine⟨es,cl,h1,h2,h3,h4,h5,h6,fun p hp b hb=>(aCG hr hk hb hK (h4 p hp).1).iff,fun e he=>?_⟩
 have hm:kv e∈l.map (cv φ):=h2.mem_iff.1 (aaZ.2 ⟨e,he,rfl⟩)
 obtain⟨p,hp,hpe⟩:=aaZ.1 hm
 have hcp:=acg.1 hc p hp
 obtain⟨b,hb⟩:=ajO.1 hcp
 have:=aCG hr hk hb hK (h4 p hp).1
 have he':abe φ p.1=e.key:=congrArg Prod.fst hpe
 rw[he']at this
 exact⟨b,this⟩
theorem MapAt.found {k:TypeId}{kd b:Nat}{K:AV}{l:List (AV×AV)}{es:Array MapEntry}{cl:Nat}(M:MapAt P φ dm H w k kd b K l es cl){i:Nat}{e:MapEntry}(he:es.toList[i]? =some e)(hk:e.key=abe φ K)
 {m1 m2:List (AV×AV)}{x u:AV}(hl:l=m1++(x,u)::m2)(hx:anZ H kd K x=some true):abe φ x=abe φ K∧e.val=abe φ u:=by
 have hxl:(x,u)∈l:=by rw[hl];simp
 have hxk:abe φ x=abe φ K:=((M.same _ hxl true hx).1 rfl).symm
 refine⟨hxk,?_⟩
 have hm:kv e∈l.map (cv φ):=M.perm.mem_iff.1 (aaZ.2 ⟨e,aaH he,rfl⟩)
 obtain⟨p,hp,hpe⟩:=aaZ.1 hm
 have hpk:abe φ p.1=abe φ K:=(congrArg Prod.fst hpe).trans hk
 have hpx:p=(x,u):=by
  have hnd:=M.nodup
  obtain⟨i1,h1⟩:=abM.1 hp
  obtain⟨i2,h2⟩:=abM.1 hxl
  have e1:(l.map fun p=>abe φ p.1)[i1]? =some (abe φ K):=by rw[abl,h1];simp[hpk]
  have e2:(l.map fun p=>abe φ p.1)[i2]? =some (abe φ K):=by rw[abl,h2];simp[hxk]
  have hlt:i1<(l.map fun p=>abe φ p.1).length:=(aaq.1 e1).1
  have:i1=i2:=(afC hlt hnd).1 (e1.trans e2.symm)
  subst this
  rw[h1]at h2
  injection h2
 subst hpx
 exact(congrArg Prod.snd hpe).symm
theorem MapAt.a7l {k:TypeId}{kd b:Nat}{K:AV}{l:List (AV×AV)}{es:Array MapEntry}{cl:Nat}(M:MapAt P φ dm H w k kd b K l es cl){m1 m2:List (AV×AV)}{x u:AV}(hl:l=m1++(x,u)::m2)(hx:anZ H kd K x=some true):
 ¬∀e∈es.toList,e.key≠abe φ K:=by
 intro h
 have hxl:(x,u)∈l:=by rw[hl];simp
 have hxk:abe φ x=abe φ K:=((M.same _ hxl true hx).1 rfl).symm
 have hm:cv φ (x,u)∈es.toList.map kv:=M.perm.mem_iff.2 (aaZ.2 ⟨_,hxl,rfl⟩)
 obtain⟨e,he,hee⟩:=aaZ.1 hm
 exact h e he ((congrArg Prod.fst hee).trans hxk)
theorem MapAt.bs7 {k:TypeId}{kd b:Nat}{K:AV}{l:List (AV×AV)}{es:Array MapEntry}{cl:Nat}(M:MapAt P φ dm H w k kd b K l es cl)(hc:atn H kd K l=true)(h:∀p∈l,anZ H kd K p.1≠some true):∀e∈es.toList,e.key≠abe φ K:=by
 intro e he hek
 have hm:kv e∈l.map (cv φ):=M.perm.mem_iff.1 (aaZ.2 ⟨e,he,rfl⟩)
 obtain⟨p,hp,hpe⟩:=aaZ.1 hm
 obtain⟨b,hb⟩:=ajO.1 (acg.1 hc p hp)
 have hpk:abe φ p.1=e.key:=congrArg Prod.fst hpe
 have:b=true:=(M.same p hp b hb).2 (by rw[hpk,hek])
 subst this
 exact h p hp hb
theorem a1o {t e:TypeId}{kd:Nat}{z:AV}{ok:Bool}{x y:Operand}{u q:Od}(ht:aNC P t=some (kd,e))(hz:aAX P e=some z)(hx:adC x=some u)(hy:adC y=some q)
 (hv:acA g H (.lookup kd z ok u q)=some (v,H'))(R:RR φ dm g a)(hr:Rel P φ dm H w):
 Good P φ dm H w ((do pure (Next.value (←Instr.lookup t (a.eval x) (a.eval y) ok)):Sem Next).run P w) v H':=by
 obtain⟨k,hu,hk⟩:=aA2 ht
 obtain⟨hz1,hz2⟩:=aCs hz φ dm w
 simp only[acA]at hv
 split at hv
 case h_2=>contradiction
 rename_i K he
 obtain⟨d1,d2⟩:=abU R hy he
 split at hv
 ·rename_i hm
  split at hv
  ·injection hv with hv
   injection hv with h1 h2
   subst h1
   subst h2
   obtain⟨c1,_⟩:=abU R hx hm
   have hck:=ahL (P:=P) (w:=w) hk true (abe φ K)
   obtain⟨r,hr1,hr2⟩:=akH (P:=P) (w:=w) hk (K:=abe φ K) [] (by simp)
   have hrn:r=none:=by
    cases r with
    |none=>rfl
    |some ju=>obtain⟨e',h,_⟩:=hr2;simp at h
   subst hrn
   refine Good.still (afs _ ?_) (by cases ok<;>simp[sc,scL,hz2]) hr
   rw[c1,d1]
   simp only[Instr.lookup,aa0,run_underlying hu,aay,abe,abA,Array.isEmpty_empty,hck,hr1,hz1]
   cases ok<;>simp[abe,ab2]
  ·contradiction
 ·rename_i b hm
  obtain⟨c1,c2⟩:=abU R hx hm
  split at hv
  ·rename_i l hl
   split at hv
   ·rename_i hc
    rw[aa6]at hc
    obtain⟨es,cl,M⟩:=a7f hr hk hl c2 d2 hc.1
    have hck:=ahL (P:=P) (w:=w) hk es.isEmpty (abe φ K)
    obtain⟨r,hr1,hr2⟩:=akH (P:=P) (w:=w) hk (K:=abe φ K) es.toList M.cmp
    split at hv
    ·rename_i uu hf
     injection hv with hv
     injection hv with h1 h2
     subst h1
     subst h2
     obtain⟨m1,xx,m2,hl1,hl2⟩:=aGU hf
     cases r with
     |none=>exact absurd hr2 (M.a7l hl1 hl2)
     |some ju=>
      obtain⟨j,uv⟩:=ju
      obtain⟨e',he1,he2,he3⟩:=hr2
      obtain⟨_,hval⟩:=M.found he1 he2 hl1 hl2
      have hsu:sc dm uu:=(M.scs (xx,uu) (by rw[hl1];simp)).2
      refine Good.still (afs _ ?_) (by cases ok<;>simp[sc,scL,hsu]) hr
      rw[c1,d1]
      simp only[Instr.lookup,aa0,run_underlying hu,aay,abe,ahl M.at_,abA,hck,hr1]
      rw[←he3,hval]
      cases ok<;>simp[abe,ab2]
    ·rename_i hf
     injection hv with hv
     injection hv with h1 h2
     subst h1
     subst h2
     have hno:=M.bs7 hc.1 (aG1 hf)
     cases r with
     |some ju=>
      obtain⟨j,uv⟩:=ju
      obtain⟨e',he1,he2,he3⟩:=hr2
      exact absurd he2 (hno e' (aaH he1))
     |none=>
      refine Good.still (afs _ ?_) (by cases ok<;>simp[sc,scL,hz2]) hr
      rw[c1,d1]
      simp only[Instr.lookup,aa0,run_underlying hu,aay,abe,ahl M.at_,abA,hck,hr1,hz1]
      cases ok<;>simp[abe,ab2]
   ·contradiction
  ·contradiction
 ·contradiction
end
end Ex
end
section
open Go.RowKit
namespace Ex
noncomputable section
variable {P:Program}{φ:Nat→Loc}{dm:Nat→Prop}{g:Nat→Option AV}{a:Act}{H H':AH}{w:World}{v:AV}
theorem aOe {kd:Nat}{K:AV}(h:keyOf kd K=true):Instr.sameBits 10000 (abe φ K) (abe φ K)=true:=by
 unfold keyOf at h
 split at h<;>first|(simp[abe,Instr.sameBits];done)|contradiction|(simp[abe,Instr.sameBits,bytes_beq])
theorem aRM {α:Type}{l:List α}{i:Nat}{e:α}(h:l[i]? =some e):∃l1 l2,l=l1++e::l2∧l1.length=i:=by
 refine⟨l.take i,l.drop (i+1),?_,?_⟩
 ·have hlt:=(aaq.1 h).1
  have he:=(aaq.1 h).2
  have:l.drop i=e::l.drop (i+1):=by rw[List.drop_eq_getElem_cons hlt,he]
  rw[←this,afn]
 ·rw[ahW];have:=(aaq.1 h).1;omega
theorem Rel.aEQ (hr:Rel P φ dm H w){b:Nat}{l l':List (AV×AV)}{es es':Array MapEntry}{cl cl':Nat}(hb:H.bl.get b=some (.map l))(hd:dm b)(hlim:b<LIM)(hat:w.heap[(φ b).blk]? =some (.map es cl))
 (perm:(es'.toList.map kv).Perm (l'.map (cv φ)))(nodup:(l'.map fun p=>abe φ p.1).Nodup)(scs:∀p∈l',sc dm p.1∧sc dm p.2)(aKL:(es'.toList.map (·.born)).Nodup)(old:∀e∈es'.toList,e.born<cl'):
 Rel P φ dm (H.put b (some (.map l'))) {w with heap:=w.heap.setIfInBounds (φ b).blk (.map es' cl')}∧Grow φ dm H w φ dm (H.put b (some (.map l'))) {w with heap:=w.heap.setIfInBounds (φ b).blk (.map es' cl')}:=by
 have hlt:(φ b).blk<w.heap.size:=(acK.1 hat).1
 refine hr.turn (w':={w with heap:=w.heap.setIfInBounds (φ b).blk (.map es' cl')}) (x:= .map l') (H':=H.put b (some (.map l'))) hb hd rfl rfl rfl (by simp) (fun i hi=>?_) (fun k=>akb _ _ _ _ hlim) rfl ⟨es',cl',?_,perm,nodup,scs,aKL,old⟩
 ·exact abN (ahU hi)
 ·exact abk hlt
theorem aHa {α:Type}(f:α→α):∀(l1:List α)(e:α)(l2:List α),(l1++e::l2).modify l1.length f=l1++f e::l2
 | [],e,l2=>by simp
 |x::l1,e,l2=>by simp[aHa f l1 e l2]
theorem aKM {t e:TypeId}{kd:Nat}{x y z:Operand}{u q r:Od}(ht:aNC P t=some (kd,e))(hx:adC x=some u)(hy:adC y=some q)(hz:adC z=some r)
 (hv:acA g H (.update kd u q r)=some (v,H'))(R:RR φ dm g a)(hr:Rel P φ dm H w):
 Good P φ dm H w ((do Instr.mapUpdate t (a.eval x) (a.eval y) (a.eval z);pure Next.skip:Sem Next).run P w) v H':=by
 obtain⟨k,hu,hk⟩:=aA2 ht
 simp only[acA]at hv
 split at hv
 case h_2=>contradiction
 rename_i K he
 obtain⟨d1,d2⟩:=abU R hy he
 split at hv
 case h_2=>contradiction
 rename_i V hV
 obtain⟨v1,v2⟩:=abU R hz hV
 split at hv
 case h_2=>contradiction
 rename_i b hm
 obtain⟨c1,c2⟩:=abU R hx hm
 split at hv
 case h_2=>contradiction
 rename_i l hl
 split at hv
 case isFalse=>contradiction
 rename_i hc
 rw[aa6,aa6]at hc
 obtain⟨⟨hc1,hc2⟩,hc3⟩:=hc
 have hlim:b<LIM:=of_decide_eq_true hc3
 injection hv with hv
 injection hv with h1 h2
 subst h1
 subst h2
 obtain⟨es,cl,M⟩:=a7f hr hk hl c2 d2 hc1
 have hck:=ahL (P:=P) (w:=w) hk false (abe φ K)
 obtain⟨rr,hr1,hr2⟩:=akH (P:=P) (w:=w) hk (K:=abe φ K) es.toList M.cmp
 rw[c1,d1,v1]
 rcases aG2 (H:=H) (kd:=kd) (k:=K) (v:=V) l with⟨m1,xx,uu,m2,hl1,hl2,hl3⟩|⟨hl1,hl2⟩
 ·cases rr with
  |none=>exact absurd hr2 (M.a7l hl1 hl2)
  |some ju=>
   obtain⟨j,uv⟩:=ju
   obtain⟨e',he1,he2,he3⟩:=hr2
   obtain⟨hxk,hval⟩:=M.found he1 he2 hl1 hl2
   obtain⟨l1,l2,hes,hlen⟩:=aRM he1
   have hes':(es.modify j fun e=>{e with key:=abe φ K,val:=abe φ V}).toList=l1++{e' with key:=abe φ K,val:=abe φ V}::l2:=by
    rw[al5,hes,←hlen]
    exact aHa _ l1 e' l2
   have bEe:(Instr.keyThatStays (((es[j]?).map (·.key)).getD (abe φ K)) (abe φ K)).run P w= .ok (abe φ K) w:=by
    have:es[j]? =some e':=by rw[←he1];simp
    rw[this]
    simp only[adn,ahc,he2,Instr.keyThatStays,aOe hc2,if_true,abA]
   have p1:((l1++l2).map kv).Perm ((m1++m2).map (cv φ)):=by
    have hp:=M.perm
    rw[hes,hl1,abH,acv,abH,acv]at hp
    have hp2:=(agx.symm.trans hp).trans agx
    have e1:kv e'=cv φ (xx,uu):=by simp[kv,cv,he2,hxk,hval]
    rw[e1]at hp2
    have:=hp2.cons_inv
    simpa using this
   have hturn:=hr.aEQ (l':=m1++(K,V)::m2) (es':=es.modify j fun e=>{e with key:=abe φ K,val:=abe φ V}) (cl':=cl) hl c2 hlim M.at_
    (by
      rw[hes',abH,acv,abH,acv]
      refine agx.trans (List.Perm.trans ?_ agx.symm)
      refine List.Perm.cons _ ?_
      simpa using p1)
    (by
      have:=M.nodup
      rw[hl1,abH,acv]at this
      rw[abH,acv]
      simpa[hxk]using this)
    (by
      intro p hp
      rcases aaG.1 hp with h|h
      ·exact M.scs p (by rw[hl1];simp[h])
      ·rcases abb.1 h with rfl|h
       ·exact⟨d2,v2⟩
       ·exact M.scs p (by rw[hl1];simp[h]))
    (by
      have:=M.aKL
      rw[hes,abH,acv]at this
      rw[hes',abH,acv]
      exact this)
    (by
      intro e he
      rw[hes']at he
      have:=M.old
      rw[hes]at this
      rcases aaG.1 he with h|h
      ·exact this e (by simp[h])
      ·rcases abb.1 h with rfl|h
       ·exact this e' (by simp)
       ·exact this e (by simp[h]))
   rw[hl3]
   refine⟨φ,dm,_,.skip,aWg _ ?_,.inr ⟨rfl,rfl⟩,by simp[sc,scL],hturn.1,hturn.2⟩
   simp only[Instr.mapUpdate,aa0,run_underlying hu,aay,abe,ahl M.at_,hck,hr1,bEe,am6 _ M.at_]
 ·have hno:=M.bs7 hc1 hl1
  cases rr with
  |some ju=>
   obtain⟨j,uv⟩:=ju
   obtain⟨e',he1,he2,he3⟩:=hr2
   exact absurd he2 (hno e' (aaH he1))
  |none=>
   have hturn:=hr.aEQ (l':=l++ [(K,V)]) (es':=es.push {key:=abe φ K,val:=abe φ V,born:=cl}) (cl':=cl+1) hl c2 hlim M.at_
    (by rw[ajy,abH,abH];exact M.perm.append (List.Perm.refl _))
    (by
      rw[abH,acv,aiy]
      refine afB.2 ⟨M.nodup,by simp,?_⟩
      intro p hp y hy
      simp only[aaW]at hy
      subst hy
      intro he
      obtain⟨pp,hpp,rfl⟩:=aaZ.1 hp
      have hm:cv φ pp∈es.toList.map kv:=M.perm.mem_iff.2 (aaZ.2 ⟨_,hpp,rfl⟩)
      obtain⟨e',he',hee⟩:=aaZ.1 hm
      exact hno e' he' ((congrArg Prod.fst hee).trans he))
    (by
      intro p hp
      rcases aaG.1 hp with h|h
      ·exact M.scs p h
      ·simp only[aaW]at h;subst h;exact⟨d2,v2⟩)
    (by
      rw[ajy,abH,acv,aiy]
      refine afB.2 ⟨M.aKL,by simp,?_⟩
      intro p hp y hy
      simp only[aaW]at hy
      subst hy
      obtain⟨e',he',rfl⟩:=aaZ.1 hp
      exact aln (M.old e' he'))
    (by
      intro e he
      rw[ajy]at he
      rcases aaG.1 he with h|h
      ·exact Nat.lt_succ_of_lt (M.old e h)
      ·simp only[aaW]at h;subst h;exact aeQ _)
   rw[hl2]
   refine⟨φ,dm,_,.skip,aWg _ ?_,.inr ⟨rfl,rfl⟩,by simp[sc,scL],hturn.1,hturn.2⟩
   simp only[Instr.mapUpdate,aa0,run_underlying hu,aay,abe,ahl M.at_,hck,hr1,am6 _ M.at_]
theorem a1q {t e:TypeId}{kd:Nat}{ts:Array TypeId}{ty:TypeId}{x y:Operand}{u q:Od}(ht0:ts[0]? =some t)(ht:aNC P t=some (kd,e))(hx:adC x=some u)(hy:adC y=some q)
 (hv:acA g H (.delete kd u q)=some (v,H'))(R:RR φ dm g a)(hr:Rel P φ dm H w):
 Good P φ dm H w ((do pure (Next.value (←Builtin.delete_ ts ty #[a.eval x,a.eval y])):Sem Next).run P w) v H':=by
 obtain⟨k,hu,hk⟩:=aA2 ht
 simp only[acA]at hv
 split at hv
 case h_2=>contradiction
 rename_i K he
 obtain⟨d1,d2⟩:=abU R hy he
 split at hv
 ·rename_i hm
  split at hv
  ·injection hv with hv
   injection hv with h1 h2
   subst h1
   subst h2
   obtain⟨c1,_⟩:=abU R hx hm
   have hck:=ahL (P:=P) (w:=w) hk true (abe φ K)
   refine Good.still (afs _ ?_) (by simp[sc,scL]) hr
   rw[c1,d1]
   simp[Builtin.delete_,ht0,run_underlying hu,abe,ab2,hck]
  ·contradiction
 ·rename_i b hm
  obtain⟨c1,c2⟩:=abU R hx hm
  split at hv
  case h_2=>contradiction
  rename_i l hl
  split at hv
  case isFalse=>contradiction
  rename_i hc
  rw[aa6,aa6]at hc
  obtain⟨⟨hc1,hc2⟩,hc3⟩:=hc
  have hlim:b<LIM:=of_decide_eq_true hc3
  injection hv with hv
  injection hv with h1 h2
  subst h1
  subst h2
  obtain⟨es,cl,M⟩:=a7f hr hk hl c2 d2 hc1
  have hck:=ahL (P:=P) (w:=w) hk es.isEmpty (abe φ K)
  obtain⟨rr,hr1,hr2⟩:=akH (P:=P) (w:=w) hk (K:=abe φ K) es.toList M.cmp
  rw[c1,d1]
  rcases aG5 (H:=H) (kd:=kd) (k:=K) l with⟨m1,xx,uu,m2,hl1,hl2,hl3⟩|⟨hl1,hl2⟩
  ·cases rr with
   |none=>exact absurd hr2 (M.a7l hl1 hl2)
   |some ju=>
    obtain⟨j,uv⟩:=ju
    obtain⟨e',he1,he2,he3⟩:=hr2
    obtain⟨hxk,hval⟩:=M.found he1 he2 hl1 hl2
    obtain⟨l1,l2,hes,hlen⟩:=aRM he1
    have hes':(es.eraseIdxIfInBounds j).toList=l1++l2:=by
     rw[Array.toList_eraseIdxIfInBounds,hes,←hlen]
     rw[List.eraseIdx_append_of_length_le (aai _)]
     simp
    have p1:((l1++l2).map kv).Perm ((m1++m2).map (cv φ)):=by
     have hp:=M.perm
     rw[hes,hl1,abH,acv,abH,acv]at hp
     have hp2:=(agx.symm.trans hp).trans agx
     have e1:kv e'=cv φ (xx,uu):=by simp[kv,cv,he2,hxk,hval]
     rw[e1]at hp2
     have:=hp2.cons_inv
     simpa using this
    have hturn:=hr.aEQ (l':=m1++m2) (es':=es.eraseIdxIfInBounds j) (cl':=cl) hl c2 hlim M.at_
     (by rw[hes'];exact p1)
     (by
       have:=M.nodup
       rw[hl1,abH,acv]at this
       rw[abH]
       have:=(agx.nodup_iff.1 this)
       exact(List.nodup_cons.1 this).2)
     (by
       intro p hp
       rcases aaG.1 hp with h|h
       ·exact M.scs p (by rw[hl1];simp[h])
       ·exact M.scs p (by rw[hl1];simp[h]))
     (by
       have:=M.aKL
       rw[hes,abH,acv]at this
       rw[hes',abH]
       exact(List.nodup_cons.1 (agx.nodup_iff.1 this)).2)
     (by
       intro e he
       rw[hes']at he
       have:=M.old
       rw[hes]at this
       rcases aaG.1 he with h|h
       ·exact this e (by simp[h])
       ·exact this e (by simp[h]))
    rw[hl3]
    refine⟨φ,dm,_,_,afs _ (v:= .tuple #[]) ?_,.inl (by simp[abe,ab2]),by simp[sc,scL],hturn.1,hturn.2⟩
    simp[Builtin.delete_,ht0,run_underlying hu,abe,ahl M.at_,hck,hr1,am6 _ M.at_]
  ·have hno:=M.bs7 hc1 hl1
   cases rr with
   |some ju=>
    obtain⟨j,uv⟩:=ju
    obtain⟨e',he1,he2,he3⟩:=hr2
    exact absurd he2 (hno e' (aaH he1))
   |none=>
    have hturn:=hr.aEQ (l':=l) (es':=es) (cl':=cl) hl c2 hlim M.at_ M.perm M.nodup M.scs M.aKL M.old
    rw[hl2]
    refine⟨φ,dm,_,_,afs _ (v:= .tuple #[]) ?_,.inl (by simp[abe,ab2]),by simp[sc,scL],hturn.1,hturn.2⟩
    simp[Builtin.delete_,ht0,run_underlying hu,abe,ahl M.at_,hck,hr1,am6 _ M.at_]
 ·contradiction
end
end Ex
end
section
open Go.RowKit
namespace Ex
noncomputable section
variable {P:Program}{φ:Nat→Loc}{dm:Nat→Prop}{g:Nat→Option AV}{a:Act}{H H':AH}{w:World}{v:AV}
theorem a7n {op:BinOp}{t e:TypeId}{n:Nat}{x y:Operand}{u q:Od}(ht:P.underlying t=some (.pointer e))(hn:sizeT P e=some n)(h0:n≠0)(hop:op= .eql∨op= .neq)
 (hx:adC x=some u)(hy:adC y=some q)(hv:acA g H (.eqP (op== .neq) u q)=some (v,H'))(R:RR φ dm g a)(hr:Rel P φ dm H w):
 Good P φ dm H w ((do pure (Next.value (←(do eqGuard op t x y (a.eval x) (a.eval y);binOp op t (a.eval x) (a.eval y):Sem Value))):Sem Next).run P w) v H':=by
 have hg:∀p q:Option Addr,(eqGuard op t x y (.pointer p) (.pointer q)).run P w= .ok () w:=by
  intro p q
  rcases hop with rfl|rfl<;>simp[eqGuard]
 have hb:∀(p q:Option Addr)(r:Bool),(Op.equal t (.pointer p) (.pointer q)).run P w= .ok r w→
  ((do eqGuard op t x y (.pointer p) (.pointer q);binOp op t (.pointer p) (.pointer q):Sem Value)).run P w= .ok (.bool (if op== .neq then !r else r)) w:=by
  intro p q r h
  rw[aes (hg p q)]
  rcases hop with rfl|rfl<;>simp[binOp,h]
 have he0:∀p:Option Addr,(Op.equal t (.pointer none) (.pointer p)).run P w= .ok p.isNone w:=by
  intro p
  show(Op.equalIn (9999+1) t _ _).run P w=_
  rw[Op.equalIn];simp[run_underlying ht]
 have he1:∀p:Addr,(Op.equal t (.pointer (some p)) (.pointer none)).run P w= .ok false w:=by
  intro p
  show(Op.equalIn (9999+1) t _ _).run P w=_
  rw[Op.equalIn];simp[run_underlying ht]
 simp only[acA]at hv
 split at hv
 ·rename_i b o hxe
  obtain⟨c1,c2⟩:=abU R hx hxe
  split at hv
  ·rename_i b' o' hye
   obtain⟨d1,d2⟩:=abU R hy hye
   split at hv
   ·rename_i r hp
    injection hv with hv
    injection hv with h1 h2
    subst h1
    subst h2
    obtain⟨s1,_⟩:=aCF hr hp c2 d2
    refine Good.still (afs _ ?_) (by simp[sc]) hr
    rw[c1,d1]
    exact hb _ _ _ (auw ht hn h0 _ _ s1)
   ·contradiction
  ·rename_i hye
   obtain⟨d1,_⟩:=abU R hy hye
   injection hv with hv
   injection hv with h1 h2
   subst h1
   subst h2
   refine Good.still (afs _ ?_) (by simp[sc]) hr
   rw[c1,d1]
   have:=hb (some ⟨(φ b).blk,(φ b).base+o,none⟩) none false (he1 _)
   simp only[abe]
   rw[this]
   rcases hop with rfl|rfl<;>rfl
  ·contradiction
 ·rename_i hxe
  obtain⟨c1,c2⟩:=abU R hx hxe
  split at hv
  ·rename_i b' o' hye
   obtain⟨d1,_⟩:=abU R hy hye
   injection hv with hv
   injection hv with h1 h2
   subst h1
   subst h2
   refine Good.still (afs _ ?_) (by simp[sc]) hr
   rw[c1,d1]
   have:=hb none (some ⟨(φ b').blk,(φ b').base+o',none⟩) false (he0 _)
   simp only[abe]
   rw[this]
   rcases hop with rfl|rfl<;>rfl
  ·rename_i hye
   obtain⟨d1,_⟩:=abU R hy hye
   injection hv with hv
   injection hv with h1 h2
   subst h1
   subst h2
   refine Good.still (afs _ ?_) (by simp[sc]) hr
   rw[c1,d1]
   have:=hb none none true (he0 _)
   simp only[abe]
   rw[this]
   rcases hop with rfl|rfl<;>rfl
  ·contradiction
 ·contradiction
structure Ext (P:Program):Prop where
 mix:P.follows .mixedOrders=true
 idx:∀f fn,P.funcs[f]? =some fn→¬fn.body.isSome=true→fn.name=a5k→∀args w v,(Extern.BytealgIndexByte.indexByte args).run P w= .ok v w→(callFunc f args).run P w= .ok (.value v) w
 cnt:∀f fn,P.funcs[f]? =some fn→¬fn.body.isSome=true→fn.name=a5l→∀args w v,(Extern.BytealgCount.count args).run P w= .ok v w→(callFunc f args).run P w= .ok (.value v) w
 esc:∀f fn,P.funcs[f]? =some fn→¬fn.body.isSome=true→fn.name=a5n→∀v w,(callFunc f #[v]).run P w= .ok (.value v) w
end
end Ex
end
end Go.Proofs.YtfehlbepjmmkeaaGreatDoor
