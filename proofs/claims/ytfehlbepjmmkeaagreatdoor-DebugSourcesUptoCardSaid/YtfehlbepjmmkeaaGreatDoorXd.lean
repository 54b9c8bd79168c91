/-
  DERIVED. An abstract machine, and that its runs are runs of the model: part 4 of 11. No condition.
-/
import Derived.Test.YtfehlbepjmmkeaaGreatDoorXc
import Derived.Laws.IdiomRangeMap
import Derived.RangeFuncRecord
import Derived.RangeFuncNested
namespace Go.Proofs.YtfehlbepjmmkeaaGreatDoor
set_option linter.unusedSimpArgs false
set_option linter.unusedVariables false
open Go.RowKit
namespace Ex
noncomputable section
variable {P:Program}{φ:Nat→Loc}{dm:Nat→Prop}{g:Nat→Option AV}{a:Act}{H H':AH}{w:World}{v:AV}
theorem a1r {t k e:TypeId}{x:Operand}{u:Od}(ht:P.underlying t=some (.map k e))(hx:adC x=some u)(hv:acA g H (.aNB u)=some (v,H'))(R:RR φ dm g a)(hr:Rel P φ dm H w):
 Good P φ dm H w ((do pure (Next.value (←Instr.range t (a.eval x))):Sem Next).run P w) v H':=by
 simp only[acA]at hv
 split at hv
 ·rename_i he
  split at hv
  ·rename_i hl
   injection hv with hv
   injection hv with h1 h2
   subst h1 h2
   obtain⟨e1,e2⟩:=abU R hx he
   have:=hr.alloc (b:=H.next) (aai _) (o:= .mapIter none 0 #[] 0) (x:= .axW) (l:=⟨w.heap.size,0,0⟩) rfl (H':=H.add .axW) (fun k=>akb _ _ _ _ hl) (ab5 _) (aeQ _) ⟨rfl,0,#[],0,amR w _⟩
   refine⟨_,_,_,_,afs _ (v:= .pointer (some ⟨w.heap.size,0,none⟩)) ?_,.inl ?_,.inr rfl,this.1,this.2⟩
   ·simp[Instr.range,e1,run_underlying ht,abe]
   ·simp[abe]
  ·contradiction
 ·rename_i b he
  split at hv
  ·rename_i l hb
   split at hv
   ·rename_i hl
    injection hv with hv
    injection hv with h1 h2
    subst h1 h2
    obtain⟨e1,e2⟩:=abU R hx he
    have hd:dm b:=e2
    have hne:b≠H.next:=fun he=>af9 _ (he▸hr.next b hd)
    have hx0:anh P φ dm w (φ b) (.apa l):=by have:=hr.blk b _ hb hd;exact this
    obtain⟨r1,g1⟩:=hr.turn (w':=w) (x:= .apa l) (H':=H.put b (some (.apa l))) hb hd rfl rfl rfl rfl (fun _ _=>rfl) (fun k=>akb _ _ _ _ hl.2) rfl hx0
    obtain⟨es,cl,q1,q2,q3,q4,q5,q6⟩:=hr.blk b _ hb hd
    have hlt:(φ b).blk<w.heap.size:=(acK.1 q1).1
    have hget:∀k,((H.put b (some (.apa l))).bl.get k)=if k=b then some (.apa l) else H.bl.get k:=fun k=>akb _ _ _ _ hl.2
    have:=r1.alloc (b:=H.next) (aai _) (o:= .mapIter (some (φ b).blk) cl #[] cl) (x:= .iter b l none) (l:=⟨w.heap.size,0,0⟩) rfl (H':=(H.put b (some (.apa l))).add (.iter b l none))
     (fun k=>akb _ _ _ _ (by exact hl.1)) (ab5 _) (aeQ _)
     ⟨hd,rfl,es,cl,#[],by rw[ajZ w _ _ hlt];exact q1,amR w _,by
      have:(es.toList.filter fun e=>!(#[]:Array Nat).contains e.born)=es.toList:=ahw.2 (by simp)
      rw[this];exact q2,q4,by simp⟩
     (fun m left cur hh=>by
       injection hh with hm _ _
       subst hm
       refine⟨⟨l,by rw[hget,if_pos rfl]⟩,fun b' l' c' hb' hd'=>?_⟩
       rw[hget]at hb'
       split at hb'
       ·cases hb'
       ·obtain⟨ents,q⟩:=hr.aEp _ _ _ _ hb' hd'
        rw[hb]at q;cases q)
    refine⟨_,_,_,_,afs _ (v:= .pointer (some ⟨w.heap.size,0,none⟩)) ?_,.inl ?_,.inr rfl,this.1,g1.trans this.2⟩
    ·simp[Instr.range,e1,run_underlying ht,abe,ahl q1]
    ·simp[abe]
   ·contradiction
  ·contradiction
 ·contradiction
theorem aCL:∀(l1:List (AV×AV))(x:AV×AV)(l2:List (AV×AV)),aKE l1.length (l1++x::l2)=some (x,l1++l2)
 | [],x,l2=>rfl
 |y::l1,x,l2=>by simp only[abJ,acJ,aKE,aCL l1 x l2]
theorem a7q {F:List MapEntry}{e:MapEntry}(hn:(F.map (·.born)).Nodup)(he:e∈F):F.Perm (e::F.filter fun x=>x.born !=e.born):=by
 obtain⟨f1,f2,rfl⟩:=List.append_of_mem he
 rw[abH,acv,afB]at hn
 obtain⟨h1,h2,h3⟩:=hn
 rw[List.nodup_cons]at h2
 have e1:f1.filter (fun x=>x.born !=e.born)=f1:=ahw.2 fun x hx=>by
  have:=h3 x.born (aaZ.2 ⟨x,hx,rfl⟩) e.born (by simp)
  simpa using this
 have e2:f2.filter (fun x=>x.born !=e.born)=f2:=ahw.2 fun x hx=>by
  have:x.born≠e.born:=fun hh=>h2.1 (by rw[←hh];exact aaZ.2 ⟨x,hx,rfl⟩)
  simpa using this
 rw[akw,List.filter_cons,e1,e2]
 simp only[bne_self_eq_false,acf,if_false]
 exact agx
theorem aRR (n:Nat)(hn:0<n)(w:World):∃j w1,j<n∧(choose (.mapNext n)).run P w= .ok j w1∧w1.heap=w.heap∧w1.os=w.os∧w1.tape=w.tape∧w1.output=w.output:=by
 by_cases hf:n≤1
 ·exact⟨0,w,hn,by simp[choose,Sem.run,Question.forced,hf],rfl,rfl,rfl,rfl⟩
 ·refine⟨w.tape w.drawn (.mapNext n)%n,w.drew,akS _ (by omega),?_,rfl,rfl,rfl,rfl⟩
  simp only[choose,Sem.run,Question.forced,decide_eq_true_eq,hf,if_false,Question.cut]
  rfl
theorem aWp {r:Nat}{o o':Obj}(h:w.heap[r]? =some o')(hc:∀c t z,o'≠ .cells c t z):(setObj r o).run P w= .ok () {w with heap:=w.heap.setIfInBounds r o}:=by
 simp only[setObj,Sem.run,h]
theorem apb {r:Nat}{o:Obj}(h:w.heap[r]? =some o)(hc:∀c t z,o≠ .cells c t z):(getObj r).run P w= .ok o w:=by
 simp only[getObj,Sem.run,h]
theorem awG {b:Nat}{t:TypeId}(hr:Rel P φ dm H w)(hd:dm b)(hw:∀i,i<anv H b→(ard H b i).isSome=true):
 ∃i v H',i<anv H b∧ard H b i=some (v,H')∧Good P φ dm H w ((do pure (Next.value (←Instr.next (abe φ (.ptr b 0)) false t)):Sem Next).run P w) v H':=by
 have h0:=hw 0
 have hwa:=hw
 unfold anv at hw h0 ⊢
 cases hb:H.bl.get b with
 |none=>rw[hb]at h0;simp[ard,hb]at h0
 |some x=>
  cases x with
  |axW=>
   obtain⟨hbase,p,q,r,hit⟩:=hr.blk b _ hb hd
   refine⟨0,.tup [.bool false],H,by simp,by simp[ard,hb],?_⟩
   refine⟨φ,dm,w,_,afs _ (v:= .tuple #[.bool false]) ?_,.inl (by simp[abe,ab2]),by simp[sc,scL],hr,Grow.refl _ _ _ _⟩
   simp only[abe,hbase,adK,Instr.next]
   rw[aes (apb hit (by simp))]
   rfl
  |iter m left cur=>
   obtain⟨hdm,hbase,es,cl,seen,q1,q2,q3,q4,q5⟩:=hr.blk b _ hb hd
   obtain⟨ents,hm⟩:=hr.aEp _ _ _ _ hb hd
   obtain⟨es',cl',m1,m2,m3,m4,m5,m6⟩:=hr.blk m _ hm hdm
   rw[q1]at m1
   injection m1 with m1
   injection m1 with m1a m1b
   subst m1a m1b
   have hb':es.all (fun e=>decide (e.born≥cl))=true→es.isEmpty=true:=by
    intro h
    rw[Array.isEmpty_iff]
    apply ac4.1
    rw[List.eq_nil_iff_forall_not_mem]
    intro e he
    have h1:=m6 e he
    rw[←Array.all_toList]at h
    have h2:=acg.1 h e he
    simp at h2
    omega
   have hcond:(!seen.isEmpty&& !es.isEmpty&&es.all fun e=>decide (e.born≥cl))=false:=by
    cases h1:(es.all fun e=>decide (e.born≥cl))with
    |false=>simp
    |true=>rw[hb' h1];simp
   obtain⟨L,hL⟩ :∃L,L=es.filter fun e=>!seen.contains e.born:=⟨_,rfl⟩
   have hLl:L.toList=es.toList.filter fun e=>!seen.contains e.born:=by rw[hL,Array.toList_filter]
   have hmem:∀e∈L.toList,e∈es.toList:=fun e he=>by rw[hLl]at he;exact(acD.1 he).1
   have e1:L.filter (fun e=>decide (e.born<cl))=L:=by
    apply ac4.1
    rw[Array.toList_filter]
    exact ahw.2 fun e he=>by simpa using m6 e (hmem e he)
   have e2:L.filter (fun e=>decide (e.born≥cl))= #[]:=by
    apply ac4.1
    rw[Array.toList_filter]
    exact List.filter_eq_nil_iff.2 fun e he=>by have:=m6 e (hmem e he);simp;omega
   have hrun:(Instr.next (abe φ (.ptr b 0)) false t).run P w=(do
    match ((if L.isEmpty then #[none] else #[])++L.map some)[←choose (.mapNext ((if L.isEmpty then #[none] else #[])++L.map some).size)]? with
    |some (some e)=>
     setObj (φ b).blk (.mapIter (some (φ m).blk) cl (seen.push e.born) cl)
     pure (.tuple #[.bool true,e.key,e.val])
    |some none=>pure (.tuple #[.bool false])
    |none=>stuck "Next: no such candidate" :Sem Value).run P w:=by
    simp only[abe,hbase,adK,Instr.next,aa0,apb q2 (by simp),apb q1 (by simp),aay]
    rw[hcond,←hL,e1,e2]
    simp only[acf,if_false,Array.append_empty,aa0]
    rfl
   cases hleft:left with
   |nil=>
    subst hleft
    have hLn:L= #[]:=by
     rw[aiy,List.perm_nil,List.map_eq_nil_iff,←hLl]at q3
     apply ac4.1
     exact q3
    have h1:=h0 (by rw[hb];simp)
    simp only[ard,hb,hm]at h1
    split at h1
    case isFalse=>cases h1
    rename_i hlim
    refine⟨0,.tup [.bool false],(H.put b none).put m (some (.map ents)),by simp,by simp only[ard,hb,hm,if_pos hlim],?_⟩
    have hmb:m≠b:=by rintro rfl;rw[hb]at hm;cases hm
    have hg1:∀k,(H.put b none).bl.get k=if k=b then none else H.bl.get k:=fun k=>akb _ _ _ _ hlim.2
    have hsub:∀k x,(H.put b none).bl.get k=some x→H.bl.get k=some x:=fun k x hk=>by
     rw[hg1]at hk
     split at hk
     ·cases hk
     ·exact hk
    obtain⟨r1,g1⟩:=hr.weaken (K:=H.put b none) hsub (aai _) (fun k m' l' c' en hk hm'=>by
     rw[hg1,if_neg (by rintro rfl;rw[hb]at hm';cases hm')];exact hm')
    have hm1:(H.put b none).bl.get m=some (.apa ents):=by rw[hg1,if_neg hmb];exact hm
    have hx0:anh P φ dm w (φ m) (.map ents):=by have:=hr.blk m _ hm hdm;exact this
    obtain⟨r2,g2⟩ :Rel P φ dm ((H.put b none).put m (some (.map ents))) w∧Grow φ dm (H.put b none) w φ dm ((H.put b none).put m (some (.map ents))) w:=by
     have hg2:∀k,((H.put b none).put m (some (.map ents))).bl.get k=if k=m then some (.map ents) else (H.put b none).bl.get k:=fun k=>akb _ _ _ _ hlim.1
     refine⟨⟨fun k y hk hdk=>?_,fun k k' y y' hk hk' hdk bs8 he=>?_,r1.next,r1.glob,fun k m' l' c' hk hdk=>?_,fun k m' l' c' k' l'' c'' hk hdk hk' bs8=>?_⟩,⟨fun _ h=>h,fun _ _=>rfl,rfl,rfl,rfl,aai _,fun _ _ _=>rfl,fun i ⟨k,y,hk,hdk,he⟩=> .inr ?_,aai _,fun _ h=> .inl h⟩⟩
     ·rw[hg2]at hk
      split at hk
      ·rename_i hkm;injection hk with hk;subst hk;rw[hkm];exact hx0
      ·exact r1.blk k y hk hdk
     ·have ex:∀k y,((H.put b none).put m (some (.map ents))).bl.get k=some y→∃y,(H.put b none).bl.get k=some y:=fun k y hk=>by
       rw[hg2]at hk
       split at hk
       ·rename_i hkm;exact⟨_,by rw[hkm];exact hm1⟩
       ·exact⟨y,hk⟩
      obtain⟨z,hz⟩:=ex k y hk
      obtain⟨z',hz'⟩:=ex k' y' hk'
      exact r1.inj k k' z z' hz hz' hdk bs8 he
     ·rw[hg2]at hk
      split at hk
      ·cases hk
      ·rename_i hkm
       obtain⟨en,hen⟩:=r1.aEp _ _ _ _ hk hdk
       refine⟨en,?_⟩
       rw[hg2]
       split
       ·rename_i hmm
        exfalso
        subst hmm
        rw[hg1]at hk
        split at hk
        ·cases hk
        ·rename_i hkb;exact hkb (hr.uniq k m' l' c' b _ _ hk hdk hb hd)
       ·exact hen
     ·rw[hg2]at hk hk'
      split at hk
      ·cases hk
      ·split at hk'
       ·cases hk'
       ·exact r1.uniq k m' l' c' k' l'' c'' hk hdk hk' bs8
     ·rw[hg2]at hk
      split at hk
      ·rename_i hkm;exact⟨m,_,hm1,hdm,by rw[←hkm];exact he⟩
      ·exact⟨k,y,hk,hdk,he⟩
    refine⟨φ,dm,w,_,afs _ (v:= .tuple #[.bool false]) ?_,.inl (by simp[abe,ab2]),by simp[sc,scL],r2,g1.trans g2⟩
    rw[hrun]
    subst hLn
    simp[choose,Sem.run,Question.forced]
   |cons e0 left0=>
    rw[←hleft]
    have hne:left≠[]:=by rw[hleft];simp
    have hlen:L.size=left.length:=by
     have:=q3.length_eq
     rw[afe,afe,←hLl]at this
     simpa using this
    have hLe:L.isEmpty=false:=by
     cases hh:L.isEmpty with
     |false=>rfl
     |true=>
      rw[Array.isEmpty_iff]at hh
      rw[hh]at hlen
      exact absurd (acU hlen.symm) hne
    obtain⟨j,w1,hj,hch,hw1,hw2,hw3,hw4⟩:=aRR (P:=P) L.size (by rw[hlen];exact List.length_pos_iff.2 hne) w
    have hje:L[j]∈L.toList:=Array.getElem_mem_toList hj
    obtain⟨e,heq⟩ :∃e,e=L[j]:=⟨_,rfl⟩
    rw[←heq]at hje
    have hin:(e.key,e.val)∈left.map fun p=>(abe φ p.1,abe φ p.2):=q3.mem_iff.1 (by rw[←hLl];exact aaZ.2 ⟨e,hje,rfl⟩)
    obtain⟨x,hx,hxe⟩:=aaZ.1 hin
    obtain⟨l1,l2,hsp⟩:=List.append_of_mem hx
    have aKQ:anv H b=left.length:=by unfold anv;rw[hb,hleft];rfl
    have hil:l1.length<left.length:=by rw[hsp];simp
    have h1:=hwa l1.length (by rw[aKQ];exact hil)
    have hnx:∀i,ard H b i=match aKE i left with
     |some (e,left')=>if b<LIM then some (.tup [.bool true,e.1,e.2],H.put b (some (.iter m left' (some e)))) else none
     |none=>none:=fun i=>by rw[ard,hb,hleft];rfl
    have hpk:aKE l1.length left=some (x,l1++l2):=by rw[hsp];exact aCL l1 x l2
    rw[hnx,hpk]at h1
    simp only at h1
    split at h1
    case isFalse=>cases h1
    rename_i hlim
    refine⟨l1.length,.tup [.bool true,x.1,x.2],H.put b (some (.iter m (l1++l2) (some x))),by have hh:=hil;rw[←aKQ]at hh;unfold anv at hh;rw[hb]at hh;exact hh,by rw[hnx,hpk];simp only[if_pos hlim],?_⟩
    have bdc:=q4 x hx
    injection hxe with hx1 hx2
    obtain⟨r0,g0⟩:=hr.same (w':=w1) hw2 hw3 hw4 hw1
    have hlt:(φ b).blk<w1.heap.size:=by rw[hw1];exact(acK.1 q2).1
    have bEf:(φ m).blk≠(φ b).blk:=fun he=>by
     rw[he,q2]at q1;cases q1
    have hperm:((es.toList.filter fun e'=>!(seen.push e.born).contains e'.born).map fun e=>(e.key,e.val)).Perm ((l1++l2).map fun p=>(abe φ p.1,abe φ p.2)):=by
     have hF:(es.toList.filter fun e'=>!(seen.push e.born).contains e'.born)=L.toList.filter fun x=>x.born !=e.born:=by
      rw[hLl,List.filter_filter]
      refine ajt fun y _=>?_
      rw[Array.contains_push]
      simp only[Bool.not_or]
      rw[Bool.and_comm]
      rfl
     have hn:(L.toList.map (·.born)).Nodup:=by rw[hLl];exact m5.sublist (List.filter_sublist.map _)
     have p1:=(a7q hn hje).map fun e=>(e.key,e.val)
     rw[←hF]at p1
     have p2:(left.map fun p=>(abe φ p.1,abe φ p.2)).Perm ((abe φ x.1,abe φ x.2)::(l1++l2).map fun p=>(abe φ p.1,abe φ p.2)):=by
      rw[hsp,abH,acv,abH];exact agx
     rw[←hLl]at q3
     have p3:=p1.symm.trans (q3.trans p2)
     rw[acv,hx1,hx2]at p3
     exact p3.cons_inv
    obtain⟨r1,g1⟩:=r0.turn (w':={w1 with heap:=w1.heap.setIfInBounds (φ b).blk (.mapIter (some (φ m).blk) cl (seen.push e.born) cl)}) (x:= .iter m (l1++l2) (some x)) (H':=H.put b (some (.iter m (l1++l2) (some x)))) hb hd rfl rfl rfl (by simp)
     (fun i hi=>abN (ahU hi)) (fun k=>akb _ _ _ _ hlim) rfl
     ⟨hdm,hbase,es,cl,seen.push e.born,by
      show(w1.heap.setIfInBounds _ _)[(φ m).blk]? =_
      rw[abN (ahU bEf),hw1];exact q1,abk hlt,hperm,
      fun p hp=>q4 p (by rw[hsp];simp only[aaG,abb]at hp ⊢;rcases hp with h|h;exact .inl h;exact .inr (.inr h)),
      fun p hp=>by
       injection hp with hp
       subst hp
       exact⟨bdc.1,bdc.2,e,hmem e hje,by simp,hx1.symm,hx2.symm⟩⟩
     (fun _ h=>by cases h)
     (fun m' left' cur' hh=>by
       injection hh with hh _ _
       subst hh
       refine⟨by rintro rfl;exact bEf rfl,⟨ents,hm⟩,fun b' l' c' hb' hd'=>hr.uniq b' m l' c' b _ _ hb' hd' hb hd⟩)
    refine⟨φ,dm,_,_,?_,.inl rfl,⟨trivial,bdc.1,bdc.2,trivial⟩,r1,g0.trans g1⟩
    refine afs _ ?_
    rw[hrun,hLe]
    simp only[acf,if_false,Array.empty_append,Array.size_map]
    rw[aes hch]
    have hsome:(Array.map some L)[j]? =some (some e):=by rw[Array.getElem?_map,acE hj,heq];rfl
    rw[hsome]
    dsimp only
    rw[aes (aWp (o':= .mapIter (some (φ m).blk) cl seen cl) (by rw[hw1];exact q2) (by simp))]
    simp[abe,ab2,hx1,hx2]
  |_=>rw[hb]at h0;simp[ard,hb]at h0
theorem bde {t:TypeId}{x:Operand}{u:Od}(hx:adC x=some u)(hv:acA g H (.aGA u)=some (v,H'))(R:RR φ dm g a)(hr:Rel P φ dm H w):
 Good P φ dm H w ((do pure (Next.value (←Instr.next (a.eval x) false t)):Sem Next).run P w) v H':=by
 simp only[acA]at hv
 split at hv
 ·rename_i b he
  split at hv
  ·rename_i h1
   obtain⟨e1,e2⟩:=abU R hx he
   obtain⟨i,v1,H1,q1,q2,q3⟩:=awG (t:=t) hr e2 (fun i hi=>by
    have:i=0:=by omega
    subst this
    rw[hv];rfl)
   have:i=0:=by omega
   subst this
   rw[hv]at q2
   injection q2 with q2
   injection q2 with q2 q4
   subst q2 q4
   rw[e1]
   exact q3
  ·contradiction
 ·contradiction
theorem a7r {x:Operand}{u:Od}(hx:adC x=some u)(hv:acA g H (.aGC u)=some (v,H'))(R:RR φ dm g a)(hr:Rel P φ dm H w):
 Good P φ dm H w ((do pure (Next.value (←Instr.entry (a.eval x))):Sem Next).run P w) v H':=by
 simp only[acA]at hv
 split at hv
 ·rename_i b he
  split at hv
  ·rename_i m left p hb
   injection hv with hv
   injection hv with h1 h2
   subst h1 h2
   obtain⟨e1,e2⟩:=abU R hx he
   obtain⟨hdm,hbase,es,cl,seen,q1,q2,q3,q4,q5⟩:=hr.blk b _ hb e2
   obtain⟨ents,hm⟩:=hr.aEp _ _ _ _ hb e2
   obtain⟨es',cl',m1,m2,m3,m4,m5,m6⟩:=hr.blk m _ hm hdm
   rw[q1]at m1
   injection m1 with m1
   injection m1 with m1a m1b
   subst m1a m1b
   obtain⟨s1,s2,e,t1,t2,t3,t4⟩:=q5 p rfl
   refine Good.still (v:= .tup [p.1,p.2]) (afs _ ?_) ⟨s1,s2,trivial⟩ hr
   have hf:es.find? (·.born==e.born)=some e:=by rw[←Array.find?_toList];exact find_born e es.toList m5 t1
   rw[e1]
   simp only[abe,hbase,adK,Instr.entry]
   rw[aes (apb q2 (by simp))]
   simp only[t2]
   rw[aes (apb q1 (by simp))]
   simp[hf,ab2,t3,t4]
  ·contradiction
 ·contradiction
theorem aA3 {r:Nat}{c:Array Value}{e:TypeId}{z:Nat×Nat}(h:w.heap[r]? =some (.cells c e z)):(viewAt r).run P w= .ok none w:=by
 simp[viewAt,shape,Sem.run,World.shape?,h]
theorem arl {ad:Addr}{c:Array Value}{e:TypeId}{z:Nat×Nat}(h:w.heap[ad.block]? =some (.cells c e z)):(Conv.seenAt ad).run P w= .ok ad w:=by
 simp[Conv.seenAt,aA3 h]
theorem ax5 {r:Nat}{c:Array Value}{e:TypeId}{z:Nat×Nat}(h:w.heap[r]? =some (.cells c e z)):(cellsIn r).run P w= .ok (some c.size) w:=by
 simp[cellsIn,shape,Sem.run,World.shape?,h]
theorem bs9 {src dst t:TypeId}{n:Nat}{x:Operand}{u:Od}(h1:P.underlying src=some (.pointer t))(h2:P.underlying dst=some .unsafePointer)(h3:sizeT P t=some n)(h4:n≠0)
 (hx:adC x=some u)(hv:acA g H (.p2u u)=some (v,H'))(R:RR φ dm g a)(hr:Rel P φ dm H w):
 Good P φ dm H w ((do pure (Next.value (←convert src dst (a.eval x))):Sem Next).run P w) v H':=by
 simp only[acA]at hv
 split at hv
 ·rename_i b o he
  split at hv
  ·rename_i nc t0 el s z hb
   split at hv
   ·rename_i ho
    injection hv with hv
    injection hv with k1 k2
    subst k1 k2
    obtain⟨e1,e2⟩:=abU R hx he
    obtain⟨c,zz,q1,_,q3,_⟩:=hr.blk b _ hb e2
    obtain⟨b1,b2,b3⟩:=q3 rfl
    refine Good.still (afs _ ?_) e2 hr
    have hlt:¬((φ b).base+o≥c.size):=by rw[b1,b3];omega
    rw[e1]
    simp only[convert,aa0,run_underlying h1,run_underlying h2,aay,abe]
    simp only[Conv.unsafePointer,aa0,run_underlying h1,run_underlying h2,aay]
    simp only[arl (ad:=⟨(φ b).blk,(φ b).base+o,none⟩) q1,ax5 q1,aay,aeb h3,hlt,h4,decide_false,Bool.false_and]
    simp
   ·contradiction
  ·contradiction
 ·contradiction
theorem bta {src dst t:TypeId}{n:Nat}{x:Operand}{u:Od}(h1:P.underlying src=some .unsafePointer)(h2:P.underlying dst=some (.pointer t))(h3:sizeT P t=some n)(h4:n≠0∧P.cellsOf t=n∧liesAt P P.depth t 1 0 t 1=true)
 (hx:adC x=some u)(hv:acA g H (.u2p t n u)=some (v,H'))(R:RR φ dm g a)(hr:Rel P φ dm H w):
 Good P φ dm H w ((do pure (Next.value (←convert src dst (a.eval x))):Sem Next).run P w) v H':=by
 simp only[acA]at hv
 split at hv
 ·rename_i b he
  split at hv
  ·rename_i nc t0 el s z hb
   split at hv
   ·rename_i ho
    obtain⟨rfl,rfl⟩:=ho
    injection hv with hv
    injection hv with k1 k2
    subst k1 k2
    obtain⟨e1,e2⟩:=abU R hx he
    obtain⟨c,zz,q1,_,q3,_⟩:=hr.blk b _ hb e2
    obtain⟨b1,b2,b3⟩:=q3 rfl
    refine Good.still (afs _ ?_) e2 hr
    have hva:(variablesAt ⟨(φ b).blk,(φ b).base+0,none⟩ el 1).run P w= .ok true w:=by
     simp only[variablesAt,shape,Sem.run,World.shape?,q1,aa0,run_program,aay]
     rw[b1,b3,h4.2.1,Nat.div_self (Nat.pos_of_ne_zero h4.1),h4.2.2]
     rfl
    rw[e1]
    simp only[convert,aa0,run_underlying h1,run_underlying h2,aay,abe]
    simp only[Conv.unsafePointer,aa0,run_underlying h1,run_underlying h2,aay]
    simp only[arl (ad:=⟨(φ b).blk,(φ b).base+0,none⟩) q1,hva,aay,aeb h3,h4.1]
    simp
   ·contradiction
  ·contradiction
 ·contradiction
theorem aWq {e:TypeId}(hc:P.cellsOf e=1)(count off n:Nat)(hn:off+n≤count):liesAt P P.depth e count off e n=true:=by
 have hd:P.depth=(2*(P.types.size+Made.depth)+1)+1:=rfl
 rw[hd]
 simp only[liesAt,afU]
 left
 rw[hd]
 simp[rowAt,hc,hn,sameLayout,anY]
theorem aCM:∀(l:List AV)(k:Nat),awD l=some k→∀(j:Nat)(v:AV),l[j]? =some v→∃x:UInt8,(ai8 k l.length)[j]? =some x∧v=AV.int .u8 (x.toNat:Int)
 | [],k,h,j,v,hv=>by simp at hv
 | .int .u8 b::l,k,h,j,v,hv=>by
   simp only[awD]at h
   split at h
   ·rename_i n hn
    split at h
    ·rename_i hb
     injection h with h
     subst h
     have e1:(b.toNat+256*n)%256=b.toNat:=by omega
     have e2:(b.toNat+256*n) / 256=n:=by omega
     simp only[abJ,ai8,e1,e2]
     cases j with
     |zero=>
      simp only[ac3,aej]at hv ⊢
      refine⟨_,rfl,?_⟩
      subst hv
      have:(UInt8.ofNat b.toNat).toNat=b.toNat:=by rw[UInt8.toNat_ofNat'];omega
      rw[this]
      congr 1
      omega
     |succ j=>
      simp only[ad6]at hv ⊢
      exact aCM l n hn j v hv
    ·contradiction
   ·contradiction
 | .bool _::l,k,h,_,_,_| .str _ _::l,k,h,_,_,_| .ptr _ _::l,k,h,_,_,_| .aqh::l,k,h,_,_,_| .slice _ _ _ _ _::l,k,h,_,_,_| .acB::l,k,h,_,_,_
 | .map _::l,k,h,_,_,_| .aqk::l,k,h,_,_,_| .func _ _ _::l,k,h,_,_,_| .aAI::l,k,h,_,_,_| .iface _ _::l,k,h,_,_,_| .arD::l,k,h,_,_,_| .agg _::l,k,h,_,_,_
 | .tup _::l,k,h,_,_,_| .yld _::l,k,h,_,_,_=>by simp[awD]at h
 | .int .i64 b::l,k,h,_,_,_| .int .i8 b::l,k,h,_,_,_| .int .i16 b::l,k,h,_,_,_| .int .i32 b::l,k,h,_,_,_| .int .u16 b::l,k,h,_,_,_| .int .u32 b::l,k,h,_,_,_| .int .u64 b::l,k,h,_,_,_=>by simp[awD]at h
theorem bdi {ts:Array TypeId}{ty pt e:TypeId}{x y:Operand}{u q:Od}(ht0:ts[0]? =some pt)(hp:P.underlying pt=some (.pointer e))(hc:P.cellsOf e=1)
 (hx:adC x=some u)(hy:adC y=some q)(hv:acA g H (.bcU e u q)=some (v,H'))(R:RR φ dm g a)(hr:Rel P φ dm H w):
 Good P φ dm H w ((do pure (Next.value (←Builtin.unsafeString_ ts ty #[a.eval x,a.eval y])):Sem Next).run P w) v H':=by
 simp only[acA]at hv
 split at hv
 case h_2=>contradiction
 rename_i n hn
 split at hv
 case isFalse=>contradiction
 rename_i hnb
 split at hv
 case h_2=>contradiction
 rename_i b o he
 split at hv
 case h_2=>contradiction
 rename_i nc t el f s z hb
 split at hv
 case isFalse=>contradiction
 rename_i hcond
 obtain⟨rfl,hle,hlim,rfl⟩:=hcond
 split at hv
 case h_2=>contradiction
 rename_i l hl
 split at hv
 case h_2=>contradiction
 rename_i k hk
 injection hv with hv
 injection hv with k1 k2
 subst k1 k2
 obtain⟨e1,e2⟩:=abU R hx he
 obtain⟨f1,f2⟩:=abU R hy hn
 obtain⟨c,zz,q1,q0,q3,q4,q5⟩:=hr.blk b _ hb e2
 obtain⟨l1,l2⟩:=anQ _ _ _ _ hl
 have hz:zz=(0,0):=q0
 subst hz
 have hsz:(φ b).base+nc≤c.size:=by
  cases f with
  |false=>obtain⟨b1,b2,b3⟩:=q3 rfl;omega
  |true=>have:=q4 rfl;omega
 obtain⟨m,hm⟩ :∃m:Nat,n=(m:Int):=⟨n.toNat,by omega⟩
 subst hm
 have hmn:((m:Int)).toNat=m:=by omega
 rw[hmn]at hle hl l1 ⊢
 have hsl:(ai8 k m).length=m:=alY _ _
 have hcell:∀j x,(ai8 k m)[j]? =some x→w.cell? ((⟨(φ b).blk,(φ b).base+o,none⟩ :Addr).add j)=some (.int .u8 x.toNat):=fun j x hx=>by
  have hj:j<m:=by rw[←hsl];exact(aaq.1 hx).1
  have hj':j<l.length:=by omega
  obtain⟨x',h1,h2⟩:=aCM l k hk j _ (aaw hj')
  rw[l1,hx]at h1
  injection h1 with h1
  subst h1
  obtain⟨_,h4⟩:=hr.cell hb e2 (l2 j _ (aaw hj'))
  rw[agO,show(φ b).base+o+j=(φ b).base+(o+j) by omega,h4,h2]
  rfl
 have hlb:=Go.Lib.run_loadBytes (P:=P) w (ai8 k m) ⟨(φ b).blk,(φ b).base+o,none⟩ .empty hcell
 have hlies:=aWq (P:=P) hc (c.size / P.cellsOf el) ((φ b).base+o) m (by rw[hc,Nat.div_one];omega)
 have hva:(variablesAt ⟨(φ b).blk,(φ b).base+o,none⟩ el m).run P w= .ok true w:=by
  simp only[variablesAt,shape,Sem.run,World.shape?,q1,aa0,run_program,aay,hlies]
  rfl
 have hmax:IntKind.i64.max=9223372036854775807:=rfl
 have h0:m≠0:=by omega
 have hrun:(Builtin.unsafeString_ ts ty #[a.eval x,a.eval y]).run P w= .ok (.string (aj9 m k)) (w.freeze ⟨(φ b).blk,(φ b).base+o,none⟩ m):=by
  have hdef:Builtin.unsafeString_ ts ty #[.pointer (some ⟨(φ b).blk,(φ b).base+o,none⟩),.int .i64 (m:Int)]=
   (do
     let n←asInt (.int .i64 (m:Int))
     let some pt:=ts[0]? |stuck "unsafe.String: no argument types"
     if n<0 then runtimePanic (.error "unsafe.String: len out of range")
     if n>IntKind.i64.max then unsupported (.unsafePointer "String: a length above the largest int")
     if n=0 then pure (.string .empty)
     else if←variablesAt ⟨(φ b).blk,(φ b).base+o,none⟩ (←elemOf pt) n.toNat then do
      let s←loadBytes ⟨(φ b).blk,(φ b).base+o,none⟩ .empty n.toNat
      freeze ⟨(φ b).blk,(φ b).base+o,none⟩ n.toNat
      pure (.string s)
     else unsupported (.unsafePointer "String: not so many bytes at ptr")):=rfl
  rw[e1,f1]
  simp only[abe]
  rw[hdef,ht0]
  have g1:¬((m:Int)<0):=by omega
  have g2:¬((m:Int)>9223372036854775807):=by omega
  have g3:¬((m:Int)=0):=by omega
  rw[hsl]at hlb
  simp only[asInt,asIntOf,aa0,abA,aay,hmax,g1,g2,g3,if_false,elemOf,run_underlying hp,hmn,hva,hlb,if_true]
  simp[aj9,freeze,Sem.run]
 have hturn:=hr.turn (w':=w.freeze ⟨(φ b).blk,(φ b).base+o,none⟩ m) (x:= .cells nc t el f s 2) (H':=H.put b (some (.cells nc t el f s 2))) hb e2
  (by simp[World.freeze,h0]) (by simp[World.freeze,h0]) (by simp[World.freeze,h0]) (by simp[World.freeze,h0])
  (fun i hi=>by simp[World.freeze,h0,ah5,ahU hi]) (fun k=>akb _ _ _ _ hlim) rfl
  ⟨c,((φ b).base+o,(φ b).base+o+m),by simp[World.freeze,h0,ah5,q1],by
   intro i hi hi2
   simp only
   omega,q3,q4,q5⟩
 exact⟨φ,dm,_,_,afs _ hrun,.inl rfl,trivial,hturn.1,hturn.2⟩
end
end Ex
namespace Ex
noncomputable section
def oEq:Option AV→Option AV→Bool
 |none,none=>true
 |some x,some y=>aj3 x y
 |_,_=>false
theorem bth {x y:Option AV}(h:oEq x y=true):x=y:=by
 cases x<;>cases y<;>first|rfl|(simp[oEq]at h;done)|(rw[amd h])
def tEq:T AV→T AV→Bool
 | .E,.E=>true
 | .N v l r,.N v' l' r'=>oEq v v'&&tEq l l'&&tEq r r'
 |_,_=>false
theorem aWu:∀{x y:T AV},tEq x y=true→x=y
 | .E,y,h=>by cases y<;>simp_all[tEq]
 | .N v l r,y,h=>by
   cases y with
   |E=>simp[tEq]at h
   |N v' l' r'=>
    simp only[tEq,aa6]at h
    rw[bth h.1.1,aWu h.1.2,aWu h.2]
def a1s:List (AV×AV)→List (AV×AV)→Bool
 | [],[]=>true
 |p::l,p'::l'=>aj3 p.1 p'.1&&aj3 p.2 p'.2&&a1s l l'
 |_,_=>false
theorem aYa:∀{l m:List (AV×AV)},a1s l m=true→l=m
 | [],m,h=>by cases m<;>simp_all[a1s]
 |(a,b)::l,m,h=>by
  cases m with
  |nil=>simp[a1s]at h
  |cons p m=>
   obtain⟨a',b'⟩:=p
   simp only[a1s,aa6]at h
   rw[amd h.1.1,amd h.1.2,aYa h.2]
def bEq:afp→afp→Bool
 | .cells n v e f s z,.cells n' v' e' f' s' z'=>n==n'&&tEq v v'&&e==e'&&f==f'&&s==s'&&z==z'
 | .map l,.map l'=>a1s l l'
 |_,_=>false
theorem btm {x y:afp}(h:bEq x y=true):x=y:=by
 cases x with
 |cells n v e f s z=>
  cases y with
  |cells n' v' e' f' s' z'=>
   simp only[bEq,aa6,beq_iff_eq]at h
   obtain⟨⟨⟨⟨⟨h1,h2⟩,h3⟩,h4⟩,h5⟩,h6⟩:=h
   rw[h1,aWu h2,h3,h4,h5,h6]
  |_=>simp[bEq]at h
 |map l=>
  cases y with
  |map l'=>simp only[bEq]at h;rw[aYa h]
  |_=>simp[bEq]at h
 |_=>simp[bEq]at h
end
end Ex
namespace Ex
noncomputable section
inductive AD where
 |call (f:AV)(args:List AV)
 |mark (b:Nat)
 deriving Inhabited,DecidableEq
inductive AMd where
 |run|returning
 |panicking (ch:List (AV×Bool))
 deriving Inhabited
inductive AI where
 |code (c:PC)
 |inBlock (id:Nat)
 |inLoop (b:PC)
 |afm (l:List PO)
 |inRange (l:Nat)
 |arn (l:Nat)
 |beginRound
 deriving Inhabited,DecidableEq
structure Pd where
 i:Nat
 o:PO
 g:Nat→Option AV
 v:AV
 al:Option (Nat×afp)
 deriving Inhabited
structure DS where
 ρ:T AV
 pend:List Pd
 rest:List DO
 cur:Option DO
 deriving Inhabited
structure AF where
 fn:Nat
 nt:Nat
 ρ:T AV
 todo:List AI
 ds:List AD
 mode:AMd
 deferred:Bool
 round:Option Nat
 dr:Option DS:=none
 lo:Nat:=0
 deriving Inhabited
structure AS where
 fr:AF
 cs:List AF
 H:AH
 deriving Inhabited
inductive a1t where
 |t (n:Nat)
 |c (n:Option Nat)(a:Nat)
 |bad
 deriving Inhabited
structure PF where
 nt:Nat
 res:List a1t
 body:PC
 deriving Inhabited
def axM (P:Program)(f:Func):PF:=
 {nt:=f.ntmps
  res:=f.results.toList.map fun
   | .tmp t=> .t t
   | .cell a t=>match aEA P t,sizeT P t with
     |some true,some n=> .c (some n) a
     |some false,some _=> .c none a
     |_,_=> .bad
  body:=match f.body with|some c=>ae8 P c|none=> .bad}
def reg (ρ:T AV)(d:Option Nat)(v:AV):T AV:=match d with|some d=>T.set (some v) FUEL ρ d|none=>ρ
def apn (nt:Nat)(d:Option Nat):Bool:=match d with|some d=>decide (d<LIM∧d<nt)|none=>true
def wanted (g:Nat→Option AV):Option (Option Nat×Bool)→Option Bool
 |none=>some true
 |some (none,_)=>none
 |some (some t,b)=>match g t with
  |some (.bool c)=>some (c==b)
  |some (.tup [])=>some false
  |_=>none
def aOf (fr:AF)(d:DS)(v:AV):Option AF:=
 match d.cur with
 |some e=>if apn fr.nt e.o.dst then
   some {fr with dr:=some {ρ:=reg d.ρ e.o.dst v,pend:=d.pend.filter fun p=>!e.o.after.testBit p.i,rest:=d.rest,cur:=none}}
  else none
 |none=>none
def ayd (fr:AF)(v:AV):Option AF:=
 match fr.todo with
 | .afm (o::l)::k=>if apn fr.nt o.dst then some {fr with ρ:=reg fr.ρ o.dst v,todo:= .afm l::k} else none
 | .inRange l::k=>some {fr with todo:= .arn l::k}
 |_=>none
def finish (fr:AF)(v:AV):Option AF:=
 match fr.mode with
 | .run=>match fr.dr with
   |some d=>aOf fr d v
   |none=>ayd fr v
 |_=>none
def asw (id:Nat):List AI→Option (List AI)
 | .inBlock j::k=>if j=id then some k else asw id k
 |_::k=>asw id k
 | []=>none
def asY (C:T PF)(f:Nat)(args:List AV)(d:Bool)(lo:Nat):Option AF:=
 match C.get f with
 |some pf=>if args.length<1000 then some {fn:=f,nt:=pf.nt,ρ:=putCells args 0 .E,todo:=[.code pf.body],ds:=[],mode:= .run,deferred:=d,round:=none,lo} else none
 |none=>none
def res1 (ρ:T AV)(H:AH):a1t→Option AV
 | .t n=>ρ.get n
 | .c k a=>match ρ.get a with
   |some (.ptr b o)=>aGI H b o k
   |_=>none
 | .bad=>none
def a1u (ρ:T AV)(H:AH):List a1t→Option (List AV)
 | []=>some []
 |r::l=>match res1 ρ H r with
  |some v=>match a1u ρ H l with
   |some vs=>some (v::vs)
   |none=>none
  |none=>none
def a7v (pf:PF)(ρ:T AV)(H:AH):Option AV:=
 match a1u ρ H pf.res with
 |some [v]=>some v
 |some l=>some (.tup l)
 |none=>none
def aER:AMd→AMd
 | .panicking ((_,true)::_)=> .returning
 |m=>m
def aRX (s:AS)(v:AV):Option AS:=
 match s.cs with
 |c::cs=>
  if s.fr.deferred then
   match c.dr with
   |none=>some {s with fr:={c with mode:=aER c.mode},cs}
   |some _=>none
  else match finish c v with
   |some c'=>some {s with fr:=c',cs}
   |none=>none
 | []=>none
def atx (s:AS)(jump:Option PC):Option AS:=
 match s.fr.round with
 |none=>match jump with
  |none=>some {s with fr:={s.fr with mode:= .returning}}
  |some .ret=>some {s with fr:={s.fr with mode:= .returning}}
  |_=>none
 |some l=>match s.H.bl.get l with
  |some (.loop ρ nt fn ps a b _ _ d)=>if l<LIM∧s.fr.deferred=false then
    aRX {s with H:=s.H.put l (some (.loop ρ nt fn ps a b (if jump.isNone then 0 else 2) jump d))} (.bool jump.isNone) else none
  |_=>none
def apI (nt:Nat):List Nat→List AV→T AV→Option (T AV)
 | [],[],ρ=>some ρ
 |p::ps,v::vs,ρ=>if p<LIM∧p<nt then apI nt ps vs (T.set (some v) FUEL ρ p) else none
 |_,_,_=>none
def ap5 (C:T PF)(s:AS)(f:AV)(args:List AV):Option AS:=
 match f with
 | .func g first cap=>match asY C g (first++args++cap) false s.H.next with
   |some fr=>some {s with fr,cs:=s.fr::s.cs}
   |none=>none
 | .yld l=>match s.H.bl.get l with
   |some (.loop ρ nt fn ps a b _ _ _)=>match apI nt ps args ρ with
    |some ρ'=>some {s with fr:={fn,nt,ρ:=ρ',todo:=[.code a,.beginRound,.code b],ds:=[],mode:= .run,deferred:=false,round:=some l,lo:=s.H.next},cs:=s.fr::s.cs}
    |none=>none
   |_=>none
 |_=>none
def opA (C:T PF)(s:AS)(o:PO):Option AS:=
 let fr:=s.fr
 match o.ir with
 | .call f args=>match evs fr.ρ.get args with
   |some args=>ap5 C s (.func f [] []) args
   |none=>none
 | .atb f args=>match evs fr.ρ.get args with
   |some args=>match f.ev fr.ρ.get with
    |some f=>ap5 C s f args
    |none=>none
   |none=>none
 | .inv r tab args=>match evs fr.ρ.get args with
   |some args=>match r.ev fr.ρ.get with
    |some (.iface t v)=>match tab.find? (·.1==t)with
     |some (_,f,none)=>ap5 C s (.func f [] []) (v::args)
     |some (_,f,some (off,n))=>match v with
      | .ptr b o=>match aGI s.H b (o+off) n with
        |some u=>ap5 C s (.func f [] []) (u::args)
        |none=>none
      |_=>none
     |none=>none
    |_=>none
   |none=>none
 | .defer f args=>match evs fr.ρ.get args with
   |some args=>match f.ev fr.ρ.get with
    |some (.func g first cap)=>if fr.round.isSome then none else match finish {fr with ds:= .call (.func g first cap) args::fr.ds} (.tup [])with
     |some fr=>some {s with fr}
     |none=>none
    |_=>none
   |none=>none
 | .panic x=>match x.ev fr.ρ.get with
   |some (.iface t v)=>some {s with fr:={fr with mode:= .panicking [(.iface t v,false)]}}
   |_=>none
 | .recover=>match fr.deferred,fr.round,s.cs with
   |true,none,c::cs=>if c.dr.isSome then none else match c.mode with
    | .panicking ((v,false)::older)=>match finish fr v with
      |some fr=>some {s with fr,cs:={c with mode:= .panicking ((v,true)::older)}::cs}
      |none=>none
    | .returning=>match finish fr .arD with
      |some fr=>some {s with fr}
      |none=>none
    |_=>none
   |_,_,_=>none
 |ir=>match acA fr.ρ.get s.H ir with
  |some (v,H)=>match finish fr v with
   |some fr=>some {s with fr,H}
   |none=>none
  |none=>none
def AS.to (s:AS)(k:List AI):AS:={s with fr:={s.fr with todo:=k}}
def bjY:Option PC→List AI
 |some c=>[.code c]
 |none=>[]
def only(l:List Nat)(ρ:T AV):Nat→Option AV:=fun t=>if l.contains t then ρ.get t else none
def IR.aty:IR→Bool
 | .call .. | .atb .. | .inv .. =>true
 |_=>false
def aoV (g:Nat→Option AV)(H:AH):IR→Option (AV×List AV)
 | .call f args=>match evs g args with
   |some args=>some (.func f [] [],args)
   |none=>none
 | .atb f args=>match evs g args with
   |some args=>match f.ev g with
    |some f=>some (f,args)
    |none=>none
   |none=>none
 | .inv r tab args=>match evs g args with
   |some args=>match r.ev g with
    |some (.iface t v)=>match tab.find? (·.1==t)with
     |some (_,f,none)=>some (.func f [] [],v::args)
     |some (_,f,some (off,n))=>match v with
      | .ptr b o=>match aGI H b (o+off) n with
        |some u=>some (.func f [] [],u::args)
        |none=>none
      |_=>none
     |none=>none
    |_=>none
   |none=>none
 |_=>none
def atA (nt:Nat)(d:DS)(H:AH)(e:DO)(rest:List DO):Option (DS×AH):=
 let g:=only e.rs d.ρ
 if apn nt e.o.dst then
  match wanted g e.o.guard with
  |some false=>some ({ρ:=reg d.ρ e.o.dst (.tup []),pend:=⟨e.i,e.o,g,.tup [],none⟩::d.pend,rest,cur:=none},H)
  |some true=>match e.o.ir.cls with
   |2=>none
   |3=>match acA g ⟨.E,H.next⟩ e.o.ir with
    |some (v,K)=>match K.bl.get H.next with
     |some x=>if H.next<LIM then some ({ρ:=reg d.ρ e.o.dst v,pend:=⟨e.i,e.o,g,v,some (H.next,x)⟩::d.pend,rest,cur:=none},H.add x) else none
     |none=>none
    |none=>none
   |_=>match acA g H e.o.ir with
    |some (v,_)=>some ({ρ:=reg d.ρ e.o.dst v,pend:=⟨e.i,e.o,g,v,none⟩::d.pend,rest,cur:=none},H)
    |none=>none
  |none=>none
 else none
def ap7 (H:AH)(p:Pd):Bool:=
 match p.al with
 |some (b,x)=>match H.bl.get b with
  |some y=>bEq x y
  |none=>false
 |none=>match p.o.ir.cls with
  |1=>match wanted p.g p.o.guard with
   |some false=>true
   |_=>match acA p.g H p.o.ir with
    |some (v,_)=>aj3 v p.v
    |none=>false
  |_=>true
def a7w (e y:DO)(p:Pd):Bool:=(p.al.isNone&&p.o.ir.cls==0)||(e.o.after.testBit p.i&&y.o.after.testBit p.i)
def aYd (s:AS)(d:DS)(e y:DO):Option AS:=
 let g:=only e.rs d.ρ
 let g':=only y.rs d.ρ
 match e.o.ir,y.o.ir with
 | .store n x v,.store n' x' v'=>match x.ev g with
   |some (.ptr b o)=>match v.ev g with
    |some v=>match x'.ev g' with
     |some (.ptr b' o')=>match v'.ev g' with
      |some v'=>
       if v.cells.length=n∧v'.cells.length=n'∧(b≠b'∨o+n≤o'∨o'+n'≤o)∧d.pend.all (a7w e y)=true∧e.o.dst=none∧y.o.dst=none∧
        wanted g e.o.guard=some true∧wanted g' y.o.guard=some true then
        match alv s.H b o v.cells with
        |some H1=>match alv H1 b' o' v'.cells with
         |some H2=>some {s with fr:={s.fr with dr:=some {ρ:=d.ρ,pend:=d.pend.filter fun p=>!e.o.after.testBit p.i&& !y.o.after.testBit p.i,rest:=[],cur:=none}},H:=H2}
         |none=>none
        |none=>none
       else none
      |none=>none
     |_=>none
    |none=>none
   |_=>none
 |_,_=>none
def a1v (C:T PF)(s:AS)(d:DS)(e:DO)(rest:List DO):Option AS:=
 let g:=only e.rs d.ρ
 let fr:={s.fr with dr:=some {d with rest,cur:=some e}}
 match e.o.ir.aty with
 |true=>match aoV g s.H e.o.ir with
  |some (f,args)=>ap5 C {s with fr} f args
  |none=>none
 |false=>match acA g s.H e.o.ir with
  |some (v,H)=>match finish fr v with
   |some fr=>some {s with fr,H}
   |none=>none
  |none=>none
def a7F (C:T PF)(s:AS)(d:DS):Option AS:=
 match d.cur with
 |some _=>none
 |none=>match d.rest with
  | []=>if d.pend.all (ap7 s.H) then some {s with fr:={s.fr with ρ:=d.ρ,dr:=none}} else none
  |e::rest=>
   if e.o.ir.cls=2 then
    match wanted (only e.rs d.ρ) e.o.guard with
    |some true=>
     if d.pend.all (ap7 s.H) then
      match rest with
      | [y]=>if alh e rest&& !y.o.after.testBit e.i then aYd s d e y else a1v C s d e rest
      |_=>a1v C s d e rest
     else none
    |some false=>match atA s.fr.nt d s.H e rest with
     |some (d,H)=>some {s with fr:={s.fr with dr:=some d},H}
     |none=>none
    |none=>none
   else match atA s.fr.nt d s.H e rest with
    |some (d,H)=>some {s with fr:={s.fr with dr:=some d},H}
    |none=>none
def keepR (d:DS):List a1t→T AV→T AV
 | [],ρ=>ρ
 |r::l,ρ=>match (match r with| .t n=>some n| .c _ a=>some a| .bad=>none)with
  |some t=>match d.ρ.get t with
   |some v=>if t<LIM∧d.pend.all (fun p=>p.o.dst !=some t)=true then keepR d l (T.set (some v) FUEL ρ t) else keepR d l ρ
   |none=>keepR d l ρ
  |none=>keepR d l ρ
def aWv (C:T PF)(c:AF)(ch:List (AV×Bool)):Option AF:=
 match c.dr with
 |none=>some {c with mode:= .panicking ch}
 |some d=>match C.get c.fn with
  |some pf=>some {c with mode:= .panicking ch,ρ:=keepR d pf.res .E,dr:=none}
  |none=>none
def runN (C:T PF)(s:AS):Option AS:=
 match s.fr.todo with
 | []=>atx s none
 | .code c::k=>match c with
   | .skip=>some (s.to k)
   | .ret=>atx s (some .ret)
   | .bad=>none
   | .seq a b=>some (s.to (.code a:: .code b::k))
   | .cond c a b=>match c.ev s.fr.ρ.get with
     |some (.bool t)=>some (s.to (.code (if t then a else b)::k))
     |_=>none
   | .block id b=>some (s.to (.code b:: .inBlock id::k))
   | .loop b=>some (s.to (.code b:: .inLoop b::k))
   | .exit id=>match asw id k with
     |some k=>some (s.to k)
     |none=>atx s (some (.exit id))
   | .region l=>some (s.to (.afm l::k))
   | .drawn l=>some {s with fr:={s.fr with todo:=k,ρ:= .E,dr:=some {ρ:=s.fr.ρ,pend:=[],rest:=l,cur:=none}}}
   | .fork _=>none
   | .aNn f ps a b=>match f.ev s.fr.ρ.get with
     |some g=>match s.fr.round with
      |some l=>match s.H.bl.get l with
       |some (.loop _ _ _ _ _ _ _ _ d)=>if s.H.next<LIM then
         ap5 C {s with fr:={s.fr with todo:= .inRange s.H.next::k},H:=s.H.add (.loop s.fr.ρ s.fr.nt s.fr.fn ps a b 0 none d)} g [.yld s.H.next] else none
       |_=>none
      |none=>if s.H.next+1<LIM then
        ap5 C {s with fr:={s.fr with todo:= .inRange (s.H.next+1)::k,ds:= .mark s.H.next::s.fr.ds},H:=(s.H.add (.dfd true)).add (.loop s.fr.ρ s.fr.nt s.fr.fn ps a b 0 none s.H.next)} g [.yld (s.H.next+1)] else none
     |none=>none
 | .inBlock _::k=>some (s.to k)
 | .inLoop b::k=>some (s.to (.code b:: .inLoop b::k))
 | .afm []::k=>some (s.to k)
 | .afm (o::l)::k=>match wanted s.fr.ρ.get o.guard with
   |some true=>opA C s o
   |some false=>if apn s.fr.nt o.dst then some {s with fr:={s.fr with ρ:=reg s.fr.ρ o.dst (.tup []),todo:= .afm l::k}} else none
   |none=>none
 | .inRange _::_=>none
 | .arn l::k=>match s.H.bl.get l with
   |some (.loop ρ nt fn ps a b st pend d)=>if st=1∨¬l<LIM then none else
    some {s with fr:={s.fr with todo:=bjY pend++k},H:=s.H.put l (some (.loop ρ nt fn ps a b 3 pend d))}
   |_=>none
 | .beginRound::k=>match s.fr.round with
   |some l=>match s.H.bl.get l with
    |some (.loop ρ nt fn ps a b 0 pend d)=>if l<LIM then some {s with fr:={s.fr with todo:=k},H:=s.H.put l (some (.loop ρ nt fn ps a b 1 pend d))} else none
    |_=>none
   |none=>none
def a7J (C:T PF)(s:AS):Option AS:=
 match s.fr.dr with
 |some d=>a7F C s d
 |none=>runN C s
def asx (C:T PF)(s:AS):Option AS:=
 match s.fr.mode with
 | .run=>a7J C s
 |m=>match s.fr.ds with
  | .mark b::ds=>match s.H.bl.get b with
    |some (.dfd true)=>if b<LIM then some {s with fr:={s.fr with ds},H:=s.H.put b (some (.dfd false))} else none
    |_=>none
  | .call f args::ds=>match f with
    | .func g first cap=>match asY C g (first++args++cap) true s.H.next with
      |some fr=>some {s with fr,cs:={s.fr with ds}::s.cs}
      |none=>none
    |_=>none
  | []=>match m with
    | .panicking ch=>match s.cs with
      |c::cs=>match c.mode with
       | .panicking _=>none
       |_=>match aWv C c ch with
        |some fr=>some {s with fr,cs}
        |none=>none
      | []=>none
    |_=>match C.get s.fr.fn with
     |some pf=>match a7v pf s.fr.ρ s.H with
      |some v=>aRX s v
      |none=>none
     |none=>none
end
end Ex
namespace Ex
noncomputable section
inductive ap9 {α β:Type}(R:α→β→Prop):List α→List β→Prop
 |nil:ap9 R [] []
 |cons {a:α}{b:β}{l:List α}{m:List β}(h:R a b)(t:ap9 R l m):ap9 R (a::l) (b::m)
def POk (P:Program)(ops:Array Oper)(o:PO)(i:Nat):Prop:=∃op,ops[i]? =some op∧o.dst=op.dst∧o.guard=guardOf ops op∧o.ir=apg P op.op
def alI (P:Program)(φ:Nat→Loc)(dm:Nat→Prop):AI→Item→Prop
 | .code c,.code c'=>ae8 P c'=c
 | .inBlock i,.inBlock j=>i=j
 | .inLoop b,.inLoop b'=>ae8 P b'=b
 | .afm l,.inRegion ops idx=>ap9 (POk P ops) l idx
 | .inRange l,.inRangeFunc k=>dm l∧(φ l).blk=k
 | .arn l,.endRangeFunc k=>dm l∧(φ l).blk=k
 | .beginRound,.beginRound=>True
 | .code c,.inScope _=>c= .region []
 | .afm l,.inScope _=>l= []
 |_,_=>False
def a7M (φ:Nat→Loc)(dm:Nat→Prop):AD→Deferred→Prop
 | .call (.func g first cap) args,d=>d={target:= .fn (.func g) (ab2 φ cap).toArray,args:=(ab2 φ first).toArray++(ab2 φ args).toArray}∧scL dm first∧scL dm cap∧scL dm args
 | .call _ _,_=>False
 | .mark b,d=>d={target:= .collected (φ b).blk,args:=#[]}∧dm b
def chainOf (φ:Nat→Loc)(ch:List (AV×Bool)):List PanicEntry:=ch.map fun p=>{v:=abe φ p.1,recovered:=p.2}
def aI3 (φ:Nat→Loc)(dm:Nat→Prop):AMd→FrameMode→Prop
 | .run,m=>m= .run
 | .returning,m=>m= .returning
 | .panicking ch,m=>m= .panicking (chainOf φ ch)∧∀p∈ch,sc dm p.1
def aqb (φ:Nat→Loc)(dm:Nat→Prop):Option Nat→Option Nat→Prop
 |none,r=>r=none
 |some l,r=>r=some (φ l).blk∧dm l
structure akQ (P:Program)(φ:Nat→Loc)(dm:Nat→Prop)(af:AF)(fr:Frame):Prop where
 fn:fr.fn=af.fn
 apl:∃f,P.funcs[fr.fn]? =some f
 size:af.nt≤fr.tmps.size
 reg:∀t v,af.ρ.get t=some v→sc dm v∧fr.tmps.getD t undef=abe φ v
 todo:af.mode= .run→ap9 (alI P φ dm) af.todo fr.todo
 ds:ap9 (a7M φ dm) af.ds fr.defers
 mode:aI3 φ dm af.mode fr.mode
 kind:fr.kind=if af.deferred then .deferred else .normal
 round:aqb φ dm af.round fr.roundOf
 nd:af.dr=none
section
variable {P:Program}{φ φ':Nat→Loc}{dm dm':Nat→Prop}
theorem alI.mono (hd:∀b,dm b→dm' b)(hp:∀b,dm b→φ' b=φ b):∀{x:AI}{y:Item},alI P φ dm x y→alI P φ' dm' x y:=by
 intro x y h
 cases x<;>cases y<;>first
  |exact h
  |(obtain⟨h1,h2⟩:=h;exact⟨hd _ h1,by rw[hp _ h1];exact h2⟩)
theorem a7M.mono (hd:∀b,dm b→dm' b)(hp:∀b,dm b→φ' b=φ b):∀{x:AD}{y:Deferred},a7M φ dm x y→a7M φ' dm' x y:=by
 intro x y h
 cases x with
 |call f args=>
  cases f with
  |func g first cap=>
   obtain⟨h1,h2,h3,h4⟩:=h
   exact⟨by rw[anr hp _ h2,anr hp _ h3,anr hp _ h4];exact h1,ao2 hd _ h2,ao2 hd _ h3,ao2 hd _ h4⟩
  |_=>exact h.elim
 |mark b=>obtain⟨h1,h2⟩:=h;exact⟨by rw[hp _ h2];exact h1,hd _ h2⟩
theorem aI3.mono (hd:∀b,dm b→dm' b)(hp:∀b,dm b→φ' b=φ b):∀{x:AMd}{y:FrameMode},aI3 φ dm x y→aI3 φ' dm' x y:=by
 intro x y h
 cases x with
 |panicking ch=>
  obtain⟨h1,h2⟩:=h
  refine⟨?_,fun p hp'=>ajD hd _ (h2 p hp')⟩
  rw[h1]
  congr 1
  refine aec fun p hp'=>?_
  rw[ahS hp _ (h2 p hp')]
 |_=>exact h
theorem aqb.mono (hd:∀b,dm b→dm' b)(hp:∀b,dm b→φ' b=φ b):∀{x y:Option Nat},aqb φ dm x y→aqb φ' dm' x y:=by
 intro x y h
 cases x with
 |none=>exact h
 |some l=>obtain⟨h1,h2⟩:=h;exact⟨by rw[hp _ h2];exact h1,hd _ h2⟩
theorem al2 {α β:Type}{R S:α→β→Prop}(h:∀{a b},R a b→S a b):∀{l:List α}{m:List β},ap9 R l m→ap9 S l m
 |_,_,.nil=> .nil
 |_,_,.cons h1 h2=> .cons (h h1) (al2 h h2)
theorem akQ.mono (hd:∀b,dm b→dm' b)(hp:∀b,dm b→φ' b=φ b){x:AF}{y:Frame}(h:akQ P φ dm x y):akQ P φ' dm' x y where
 fn:=h.fn
 apl:=h.apl
 size:=h.size
 reg t v hv:=⟨ajD hd v (h.reg t v hv).1,by rw[ahS hp v (h.reg t v hv).1];exact(h.reg t v hv).2⟩
 todo hm:=al2 (alI.mono hd hp) (h.todo hm)
 ds:=al2 (a7M.mono hd hp) h.ds
 mode:=h.mode.mono hd hp
 kind:=h.kind
 round:=h.round.mono hd hp
 nd:=h.nd
end
def Lin (F:List DO):List Nat→Prop
 | []=>True
 |i::l=>(∀e∈F,e.i=i→∀j,e.o.after.testBit j=true→j∉i::l)∧i∉l∧Lin F l
def bdn (p:Pd):Prop:=
 match p.al with
 |some (b,x)=>wanted p.g p.o.guard=some true∧p.o.ir.cls=3∧∃K,acA p.g ⟨.E,b⟩ p.o.ir=some (p.v,K)∧K.bl.get b=some x
 |none=>(wanted p.g p.o.guard=some false∧p.v= .tup [])∨
   (wanted p.g p.o.guard=some true∧(p.o.ir.cls=1∨∃x,p.o.ir= .p x∧x.ev p.g=some p.v))
structure ajh (P:Program)(φ:Nat→Loc)(dm:Nat→Prop)(hi lo nt:Nat)(d:DS)(ops:Array Oper)(idx:List Nat)(tmps:Array Value)(F pre:List DO):Prop where
 ok:∀e∈F,POk P ops e.o e.i
 lin:Lin F idx
 cover:∀i∈idx,∃e∈F,e.i=i
 aft:∀e∈F,∀j,e.o.after.testBit j=true→∃x∈F,x.i=j
 inj:∀x∈F,∀y∈F,x.i=y.i→x=y
 split:F=pre++(d.cur.toList++d.rest)
 M:∃M,(∀j,M.testBit j=true↔∃e∈pre,e.i=j)∧awC M (d.cur.toList++d.rest)=true
 pairs:∀x∈pre,∀y∈d.cur.toList++d.rest,axT x y=true
 todo:∀e∈d.cur.toList++d.rest,e.i∈idx
 done:∀e∈pre,e.i∈idx→∃p∈d.pend,p.i=e.i
 pin:∀p∈d.pend,∃e∈pre,e.i=p.i∧e.o=p.o∧∀t v,p.g t=some v→aNS e.rs (some t)=true
 ayg:∀p∈d.pend,apn nt p.o.dst=true
 one:∀p∈d.pend,∀q∈d.pend,p.i=q.i→p=q
 aA7:∀p∈d.pend,∀q∈d.pend,∀t,p.o.dst=some t→q.o.dst=some t→p.i=q.i
 a1:∀p∈d.pend,∀t,p.o.dst=some t→d.ρ.get t=some p.v
 a2:∀p∈d.pend,∀q∈d.pend,p.i≠q.i→∀t v,p.o.dst=some t→q.g t=some v→(q.o.after.testBit p.i=true∧v=p.v)∨p.o.after.testBit q.i=true
 pok:∀p∈d.pend,bdn p
 res:∀p∈d.pend,p.i∈idx→∀b x,p.al=some (b,x)→¬dm b∧b<hi∧lo≤b
 reg:∀t v,d.ρ.get t=some v→(∀p∈d.pend,p.i∈idx→p.o.dst≠some t)→sc dm v∧tmps.getD t undef=abe φ v
 rp:∀q∈d.pend,q.i∈idx→∀t v,q.g t=some v→(∀p∈d.pend,p.i∈idx→q.o.after.testBit p.i=true→p.o.dst≠some t)→sc dm v∧tmps.getD t undef=abe φ v
 ayh:∀p∈d.pend,∀q∈d.pend,p.i∈idx→q.i∈idx→∀b x b' x',p.al=some (b,x)→q.al=some (b',x')→b=b'→p.i=q.i
def FrX (P:Program)(φ:Nat→Loc)(dm:Nat→Prop)(hi:Nat)(af:AF)(fr:Frame):Prop:=
 match af.dr with
 |none=>akQ P φ dm af fr
 |some d=>∃ops idx k F pre,fr.todo= .inRegion ops idx::k∧akQ P φ dm {af with ρ:= .E,dr:=none} {fr with todo:=k}∧af.mode= .run∧ajh P φ dm hi af.lo af.nt d ops idx fr.tmps F pre∧
   match d.cur with
   |some e=>∃l,idx=e.i::l
   |none=>True
inductive Stk (P:Program)(φ:Nat→Loc)(dm:Nat→Prop):Nat→List AF→List Frame→Prop
 |nil {hi:Nat}:Stk P φ dm hi [] []
 |cons {hi:Nat}{af:AF}{fr:Frame}{l:List AF}{m:List Frame}(h:FrX P φ dm hi af fr)(hl:af.lo≤hi)(t:Stk P φ dm af.lo l m):Stk P φ dm hi (af::l) (fr::m)
section
variable {P:Program}{φ φ':Nat→Loc}{dm dm':Nat→Prop}
theorem akQ.x {hi:Nat}{af:AF}{fr:Frame}(h:akQ P φ dm af fr):FrX P φ dm hi af fr:=by
 unfold FrX
 rw[h.nd]
 exact h
theorem ajh.mono {hi lo nt:Nat}{d:DS}{ops:Array Oper}{idx:List Nat}{tmps:Array Value}{F pre:List DO}(hd:∀b,dm b→dm' b)(hp:∀b,dm b→φ' b=φ b)(hf:∀b,dm' b→dm b∨hi≤b)
 (h:ajh P φ dm hi lo nt d ops idx tmps F pre):ajh P φ' dm' hi lo nt d ops idx tmps F pre:=
 {h with
  res:=fun p hp' hi' b x hb=>by
   obtain⟨h1,h2,h3⟩:=h.res p hp' hi' b x hb
   refine⟨fun h4=>?_,h2,h3⟩
   rcases hf b h4 with h5|h5
   ·exact h1 h5
   ·omega
  reg:=fun t v hv hn=>by
   obtain⟨h1,h2⟩:=h.reg t v hv hn
   exact⟨ajD hd v h1,by rw[ahS hp v h1];exact h2⟩
  rp:=fun q hq hi' t v hv hn=>by
   obtain⟨h1,h2⟩:=h.rp q hq hi' t v hv hn
   exact⟨ajD hd v h1,by rw[ahS hp v h1];exact h2⟩}
theorem FrX.mono {hi:Nat}{x:AF}{y:Frame}(hd:∀b,dm b→dm' b)(hp:∀b,dm b→φ' b=φ b)(hf:∀b,dm' b→dm b∨hi≤b)(h:FrX P φ dm hi x y):FrX P φ' dm' hi x y:=by
 unfold FrX at h ⊢
 split
 ·rename_i hx;rw[hx]at h;exact h.mono hd hp
 ·rename_i d hx
  rw[hx]at h
  obtain⟨ops,idx,k,F,pre,h1,h2,h3,h4,h5⟩:=h
  exact⟨ops,idx,k,F,pre,h1,h2.mono hd hp,h3,h4.mono hd hp hf,h5⟩
theorem Stk.mono (hd:∀b,dm b→dm' b)(hp:∀b,dm b→φ' b=φ b):∀{hi:Nat}{l:List AF}{m:List Frame},(∀b,dm' b→dm b∨hi≤b)→Stk P φ dm hi l m→Stk P φ' dm' hi l m
 |_,_,_,_,.nil=> .nil
 |_,_,_,hf,.cons h hl t=> .cons (h.mono hd hp hf) hl (t.mono hd hp fun b hb=>(hf b hb).imp id (aa7 hl))
end
structure ajq (P:Program)(φ:Nat→Loc)(dm:Nat→Prop)(bs:List Frame)(s:AS)(fr:Frame)(frs:List Frame)(w:World):Prop where
 fr:akQ P φ dm s.fr fr
 hlo:s.fr.lo≤s.H.next
 cs:Stk P φ dm s.fr.lo s.cs frs
 heap:Rel P φ dm s.H w
structure ais (P:Program)(φ:Nat→Loc)(dm:Nat→Prop)(bs:List Frame)(s:AS)(fr:Frame)(frs:List Frame)(w:World):Prop where
 fr:FrX P φ dm s.H.next s.fr fr
 hlo:s.fr.lo≤s.H.next
 cs:Stk P φ dm s.fr.lo s.cs frs
 heap:Rel P φ dm s.H w
theorem ajq.x {P:Program}{φ:Nat→Loc}{dm:Nat→Prop}{bs:List Frame}{s:AS}{fr:Frame}{frs:List Frame}{w:World}(h:ajq P φ dm bs s fr frs w):ais P φ dm bs s fr frs w:=⟨h.fr.x,h.hlo,h.cs,h.heap⟩
def Sim (P:Program)(φ:Nat→Loc)(dm:Nat→Prop)(bs:List Frame)(s s':AS)(fr:Frame)(frs:List Frame)(w:World):Prop:=
 ∃φ' dm' fr' aWA w',Steps P (lone fr (frs++bs) w) (lone fr' (aWA++bs) w')∧ais P φ' dm' bs s' fr' aWA w'∧GrowS s.fr.lo φ dm s.H w φ' dm' s'.H w'
theorem ajq.up {P:Program}{φ:Nat→Loc}{dm:Nat→Prop}{bs:List Frame}{s:AS}{fr:Frame}{frs:List Frame}{w:World}(h:ajq P φ dm bs s fr frs w){φ':Nat→Loc}{dm':Nat→Prop}{H':AH}{w':World}
 (g:Grow φ dm s.H w φ' dm' H' w'):Stk P φ' dm' s.fr.lo s.cs frs:=
 h.cs.mono g.dms g.ph fun b hb=>(g.fresh b hb).imp id (aa7 h.hlo)
theorem Sim.mk' {P:Program}{φ φ':Nat→Loc}{dm dm':Nat→Prop}{bs:List Frame}{s s':AS}{fr fr':Frame}{frs:List Frame}{w w':World}(R:ajq P φ dm bs s fr frs w)
 (hst:step P (lone fr (frs++bs) w)= .next (lone fr' (frs++bs) w'))(hf:akQ P φ' dm' s'.fr fr')(hcs:s'.cs=s.cs)(hlo:s'.fr.lo=s.fr.lo)(hr:Rel P φ' dm' s'.H w')(G:Grow φ dm s.H w φ' dm' s'.H w'):
 Sim P φ dm bs s s' fr frs w:=
 ⟨φ',dm',fr',frs,w',.one hst,ajq.x ⟨hf,by rw[hlo];exact aa7 R.hlo G.next,by rw[hlo,hcs];exact R.up G,hr⟩,G.s R.hlo⟩
def Table (P:Program)(C:T PF):Prop:=∀f pf,C.get f=some pf→∃fn c,P.funcs[f]? =some fn∧fn.body=some c∧fn.name≠ "runtime.NumGoroutine" ∧pf=axM P fn
section
variable {P:Program}{C:T PF}{φ:Nat→Loc}{dm:Nat→Prop}{bs:List Frame}{s s':AS}{fr:Frame}{frs:List Frame}{w:World}
theorem ajq.to (R:ajq P φ dm bs s fr frs w){k:List AI}{k':List Item}(hk:ap9 (alI P φ dm) k k')
 (hs:step P (lone fr (frs++bs) w)= .next (lone {fr with todo:=k'} (frs++bs) w)):Sim P φ dm bs s (s.to k) fr frs w:=
 ⟨φ,dm,{fr with todo:=k'},frs,w,.one hs,ajq.x ⟨⟨R.fr.fn,R.fr.apl,R.fr.size,R.fr.reg,fun _=>hk,R.fr.ds,R.fr.mode,R.fr.kind,R.fr.round,R.fr.nd⟩,R.hlo,R.cs,R.heap⟩,.refl _ _ _ _ _⟩
theorem ajq.stay (R:ajq P φ dm bs s fr frs w){k:List AI}(hk:ap9 (alI P φ dm) k fr.todo):Sim P φ dm bs s (s.to k) fr frs w:=
 ⟨φ,dm,fr,frs,w,akU P _,ajq.x ⟨⟨R.fr.fn,R.fr.apl,R.fr.size,R.fr.reg,fun _=>hk,R.fr.ds,R.fr.mode,R.fr.kind,R.fr.round,R.fr.nd⟩,R.hlo,R.cs,R.heap⟩,.refl _ _ _ _ _⟩
theorem aoh (_R:akQ P φ dm s.fr fr):(Act.mk fr.tmps fr.defers).eval=fr.eval:=by
 funext x;cases x<;>rfl
theorem ajq.rr (R:ajq P φ dm bs s fr frs w):RR φ dm s.fr.ρ.get ⟨fr.tmps,fr.defers⟩:=⟨R.fr.reg,R.heap.glob⟩
theorem awK (id:Nat):∀{k:List AI}{k':List Item}(r:List AI),ap9 (alI P φ dm) k k'→asw id k=some r→∃r',exitTo id k'=some r'∧ap9 (alI P φ dm) r r'
 |_,_,r,.nil,h=>by simp[asw]at h
 |x::k,y::k',r,.cons h1 h2,h=>by
  cases x with
  |inBlock j=>
   cases y with
   |inBlock j'=>
    have hj:j=j':=h1
    subst hj
    simp only[asw]at h
    by_cases hji:j=id
    ·rw[if_pos hji]at h
     injection h with h
     subst h
     exact⟨k',by simp[exitTo,hji],h2⟩
    ·rw[if_neg hji]at h
     obtain⟨r',hr,hf⟩:=awK id r h2 h
     exact⟨r',by simp[exitTo,hji,hr],hf⟩
   |_=>exact h1.elim
  |_=>
   simp only[asw]at h
   obtain⟨r',hr,hf⟩:=awK id r h2 h
   cases y<;>first
    |exact h1.elim
    |exact⟨r',by simp[exitTo,hr],hf⟩
theorem awL (id:Nat):∀{k:List AI}{k':List Item},ap9 (alI P φ dm) k k'→asw id k=none→exitTo id k'=none
 |_,_,.nil,_=>rfl
 |x::k,y::k',.cons h1 h2,h=>by
  cases x with
  |inBlock j=>
   cases y with
   |inBlock j'=>
    have hj:j=j':=h1
    subst hj
    simp only[asw]at h
    by_cases hji:j=id
    ·rw[if_pos hji]at h;cases h
    ·rw[if_neg hji]at h
     have:=awL id h2 h
     simp[exitTo,hji,this]
   |_=>exact h1.elim
  |_=>
   simp only[asw]at h
   have:=awL id h2 h
   cases y<;>first
    |exact h1.elim
    |simp[exitTo,this]
end
end
end Ex
namespace Ex
noncomputable section
variable {P:Program}{C:T PF}{φ:Nat→Loc}{dm:Nat→Prop}{bs:List Frame}{s s':AS}{fr:Frame}{frs cs:List Frame}{w:World}{k:List Item}
theorem bdq (hm:fr.mode= .run)(ht:fr.todo= .code .skip::k):step P (lone fr cs w)= .next (lone {fr with todo:=k} cs w):=step_lone_go (by simp[stepG,stepG.exec,hm,ht])
theorem a7N {l:Nat}(hm:fr.mode= .run)(ht:fr.todo= .code (.label l)::k):step P (lone fr cs w)= .next (lone {fr with todo:=k} cs w):=step_lone_go (by simp[stepG,stepG.exec,hm,ht])
theorem btn {x y:Code}(hm:fr.mode= .run)(ht:fr.todo= .code (.seq x y)::k):step P (lone fr cs w)= .next (lone {fr with todo:= .code x:: .code y::k} cs w):=step_lone_go (by simp[stepG,stepG.exec,hm,ht])
theorem bdv {c:Operand}{x y:Code}{t:Bool}(hm:fr.mode= .run)(ht:fr.todo= .code (.cond c x y)::k)(hc:fr.eval c= .bool t):step P (lone fr cs w)= .next (lone {fr with todo:= .code (if t then x else y)::k} cs w):=step_lone_go (by simp[stepG,stepG.exec,hm,ht,hc])
theorem a7Q {id:Nat}{c:Code}(hm:fr.mode= .run)(ht:fr.todo= .code (.block id c)::k):step P (lone fr cs w)= .next (lone {fr with todo:= .code c:: .inBlock id::k} cs w):=step_lone_go (by simp[stepG,stepG.exec,hm,ht])
theorem bdw {c:Code}(hm:fr.mode= .run)(ht:fr.todo= .code (.loop c)::k):step P (lone fr cs w)= .next (lone {fr with todo:= .code c:: .inLoop c::k} cs w):=step_lone_go (by simp[stepG,stepG.exec,hm,ht])
theorem a7R {c:Code}(hm:fr.mode= .run)(ht:fr.todo= .code (.scope c)::k):step P (lone fr cs w)= .next (lone {fr with todo:= .code c:: .inScope c::k} cs w):=step_lone_go (by simp[stepG,stepG.exec,hm,ht])
theorem aWC {c:Code}(hm:fr.mode= .run)(ht:fr.todo= .inScope c::k):step P (lone fr cs w)= .next (lone {fr with todo:=k} cs w):=step_lone_go (by simp[stepG,stepG.exec,hm,ht])
theorem a1z {c:Code}(hm:fr.mode= .run)(ht:fr.todo= .inLoop c::k):step P (lone fr cs w)= .next (lone {fr with todo:= .code c:: .inLoop c::k} cs w):=step_lone_go (by simp[stepG,stepG.exec,hm,ht])
theorem aWD {id:Nat}(hm:fr.mode= .run)(ht:fr.todo= .inBlock id::k):step P (lone fr cs w)= .next (lone {fr with todo:=k} cs w):=step_lone_go (by simp[stepG,stepG.exec,hm,ht])
theorem bdx {id:Nat}{k':List Item}(hm:fr.mode= .run)(ht:fr.todo= .code (.exit id)::k)(h:exitTo id k=some k'):step P (lone fr cs w)= .next (lone {fr with todo:=k'} cs w):=step_lone_go (by simp[stepG,stepG.exec,hm,ht,h])
theorem a1B {id:Nat}{ops:Array Oper}(hm:fr.mode= .run)(ht:fr.todo= .code (.region id ops false)::k):step P (lone fr cs w)= .next (lone {fr with todo:= .inRegion ops (List.range ops.size)::k} cs w):=step_lone_go (by simp[stepG,stepG.exec,hm,ht])
theorem ayj {ops:Array Oper}(hm:fr.mode= .run)(ht:fr.todo= .inRegion ops []::k):step P (lone fr cs w)= .next (lone {fr with todo:=k} cs w):=step_lone_go (by simp[stepG,stepG.exec,hm,ht])
theorem aKR {ops:Array Oper}{i:Nat}{rest:List Nat}(hm:fr.mode= .run)(ht:fr.todo= .inRegion ops (i::rest)::k)(h:((ops[i]?).map (Region.wanted · (yielded ops fr.tmps))).getD false=false):
 step P (lone fr cs w)= .next (lone (fr.finish undef) cs w):=step_lone_go (by simp[stepG,stepG.exec,hm,ht,h])
theorem btp (hm:fr.mode= .run)(ht:fr.todo= [])(hr:fr.roundOf=none):step P (lone fr cs w)= .next (lone {fr with mode:= .returning} cs w):=step_lone_go (by simp[stepG,stepG.exec,hm,ht,hr])
theorem bts (hm:fr.mode= .run)(ht:fr.todo= .code .ret::k)(hr:fr.roundOf=none):step P (lone fr cs w)= .next (lone {fr with mode:= .returning} cs w):=step_lone_go (by simp[stepG,stepG.exec,hm,ht,hr])
theorem aWK {ops:Array Oper}:ap9 (POk P ops) (aX5 P ops) (List.range ops.size):=by
 have key:∀(n i:Nat)(l:List Oper),l.length=n→(∀j,l[j]? =ops[i+j]?)→ap9 (POk P ops) (l.map fun o=>ate P ops 0 o) (List.range' i n):=by
  intro n
  induction n with
  |zero=>intro i l hl _;obtain rfl:=acU hl;exact .nil
  |succ n ih=>
   intro i l hl h
   cases l with
   |nil=>simp at hl
   |cons o l=>
    refine .cons ⟨o,(h 0).symm,rfl,rfl,rfl⟩ (ih (i+1) l (by simpa using hl) fun j=>?_)
    have:=h (j+1)
    rw[show i+(j+1)=i+1+j by omega]at this
    simpa using this
 have:=key ops.size 0 ops.toList (by simp) (fun j=>by simp)
 rw[List.range_eq_range']
 exact this
end
end Ex
namespace Ex
noncomputable section
variable {P:Program}{C:T PF}{φ:Nat→Loc}{dm:Nat→Prop}{bs:List Frame}{s s':AS}{fr:Frame}{frs cs:List Frame}{w:World}{k:List Item}
theorem aYf {ρ:T AV}{tmps:Array Value}{nt d:Nat}{v:AV}(hn:nt≤tmps.size)(hr:∀t v,ρ.get t=some v→sc dm v∧tmps.getD t undef=abe φ v)(hd:d<LIM∧d<nt)(hv:sc dm v):
 ∀t u,(T.set (some v) FUEL ρ d).get t=some u→sc dm u∧(tmps.setIfInBounds d (abe φ v)).getD t undef=abe φ u:=by
 intro t u hu
 rw[akb _ _ _ _ hd.1]at hu
 split at hu
 ·rename_i he
  injection hu with hu
  subst hu he
  have:t<tmps.size:=by omega
  exact⟨hv,by simp[this]⟩
 ·rename_i he
  obtain⟨h1,h2⟩:=hr t u hu
  refine⟨h1,?_⟩
  rw[←h2]
  simp only[acR]
  rw[abN (ahU he)]
theorem amh {af af':AF}{v:AV}(h:finish af v=some af')(R:akQ P φ dm af fr)(hv:sc dm v):akQ P φ dm af' (fr.finish (abe φ v)):=by
 obtain⟨r1,r2,rs,r3,r4,r5,r6,r7,r8,r9⟩:=R
 unfold finish at h
 split at h
 case h_2=>contradiction
 rename_i hrun
 replace r4:=r4 hrun
 rw[r9]at h
 simp only at h
 unfold ayd at h
 split at h
 ·rename_i o l k' heq
  rw[heq]at r4
  cases ht:fr.todo with
  |nil=>rw[ht]at r4;cases r4
  |cons y ys=>
   rw[ht]at r4
   cases r4 with
   |cons hy hys=>
    cases y with
    |inRegion ops idx=>
     have hy':ap9 (POk P ops) (o::l) idx:=hy
     cases hy' with
     | @cons _ i _ idx' ho hl=>
       obtain⟨op,ho1,ho2,ho3,ho4⟩:=ho
       split at h
       ·rename_i hok
        injection h with h
        subst h
        rw[ho2]at hok ⊢
        cases hd:op.dst with
        |none=>
         have hfin:fr.finish (abe φ v)={fr with todo:= .inRegion ops idx'::ys}:=by simp only[Frame.finish,ht,ho1,ags,hd]
         rw[hfin]
         exact⟨r1,r2,rs,r3,fun _=> .cons hl hys,r5,r6,r7,r8,r9⟩
        |some d=>
         have hfin:fr.finish (abe φ v)={fr with tmps:=fr.tmps.setIfInBounds d (abe φ v),todo:= .inRegion ops idx'::ys}:=by simp only[Frame.finish,ht,ho1,ags,hd]
         rw[hfin]
         rw[hd]at hok
         have hdd:d<LIM∧d<af.nt:=of_decide_eq_true hok
         exact⟨r1,r2,by simp;exact rs,aYf rs r3 hdd hv,fun _=> .cons hl hys,r5,r6,r7,r8,r9⟩
       ·contradiction
    |_=>exact by first|exact hy.elim|cases hy
 ·rename_i l k' heq
  rw[heq]at r4
  cases ht:fr.todo with
  |nil=>rw[ht]at r4;cases r4
  |cons y ys=>
   rw[ht]at r4
   cases r4 with
   |cons hy hys=>
    cases y with
    |inRangeFunc kk=>
     injection h with h
     subst h
     have hfin:fr.finish (abe φ v)={fr with todo:= .endRangeFunc kk::ys}:=by simp only[Frame.finish,ht]
     rw[hfin]
     exact⟨r1,r2,rs,r3,fun _=> .cons hy hys,r5,r6,r7,r8,r9⟩
    |_=>exact hy.elim
 ·contradiction
theorem aok:∀{l:List DO}{M:Nat},awC M l=true→∀e∈l,M.testBit e.i=false
 | [],_,_,e,he=>by cases he
 |x::l,M,h,e,he=>by
  simp only[awC,aa6,ak0]at h
  obtain⟨⟨⟨⟨h1,h2⟩,h3⟩,h4⟩,h5⟩:=h
  rcases abb.1 he with rfl|he
  ·exact h2
  ·have:=aok h5 e he
   rw[ajQ,Bool.or_eq_false_iff]at this
   exact this.1
theorem testBit_add {M i j:Nat}:(M|||2^i).testBit j=true↔M.testBit j=true∨i=j:=by
 rw[ajQ,Nat.testBit_two_pow]
 simp
theorem aOn {e:DO}{l:List DO}{M:Nat}(h:awC M (e::l)=true):∀y∈l,y.i≠e.i:=by
 intro y hy he
 simp only[awC,aa6]at h
 have:=aok h.2 y hy
 rw[he]at this
 have h2:(M|||2^e.i).testBit e.i=true:=testBit_add.2 (.inr rfl)
 rw[this]at h2
 cases h2
theorem aKW {x y:DO}(h:axT x y=true){t:Nat}(hx:x.o.dst=some t):y.o.dst≠some t:=by
 simp only[axT,aa6,afU,bne_iff_ne]at h
 intro hy
 rcases h.2 with h|h
 ·rw[hx]at h;cases h
 ·exact h (hx.trans hy.symm)
theorem atB {x y:DO}(h:axT x y=true)(hx:aNS y.rs x.o.dst=true∨aNS x.rs y.o.dst=true):y.o.after.testBit x.i=true:=by
 simp only[axT,aa6,afU,ak0,Bool.or_eq_false_iff]at h
 rcases h.1 with h|h
 ·rcases hx with hx|hx
  ·rw[h.1]at hx;cases hx
  ·rw[h.2]at hx;cases hx
 ·exact h
section
variable {hi lo nt:Nat}{d:DS}{ops:Array Oper}{idx l:List Nat}{tmps:Array Value}{F pre:List DO}{e:DO}{v:AV}
theorem ajh.bEg (h:ajh P φ dm hi lo nt d ops idx tmps F pre)(hc:d.cur=some e):∀p∈d.pend,p.i≠e.i:=by
 intro p hp he
 obtain⟨x,hx1,hx2,_⟩:=h.pin p hp
 obtain⟨M,h1,h2⟩:=h.M
 rw[hc]at h2
 have:=aok h2 e (by simp)
 rw[←he,←hx2,(h1 x.i).2 ⟨x,hx1,rfl⟩]at this
 cases this
theorem aEU {ρ:T AV}{dst:Option Nat}{t:Nat}(hok:apn nt dst=true):(reg ρ dst v).get t=if dst=some t then some v else ρ.get t:=by
 cases dst with
 |none=>simp[reg]
 |some d=>
  have hd:d<LIM∧d<nt:=of_decide_eq_true hok
  simp only[reg]
  rw[akb _ _ _ _ hd.1]
  by_cases h:t=d
  ·rw[if_pos h,if_pos (by rw[h])]
  ·rw[if_neg h,if_neg (by simpa using fun e=>h e.symm)]
def aBd (tmps:Array Value)(dst:Option Nat)(v:Value):Array Value:=match dst with
 |some d=>tmps.setIfInBounds d v
 |none=>tmps
theorem auU (dst:Option Nat)(v:Value):(aBd tmps dst v).size=tmps.size:=by cases dst<;>simp[aBd]
theorem ayk {dst:Option Nat}{t:Nat}{u:Value}(hok:apn nt dst=true)(hn:nt≤tmps.size):(aBd tmps dst u).getD t undef=if dst=some t then u else tmps.getD t undef:=by
 cases dst with
 |none=>simp[aBd]
 |some d=>
  have hd:d<LIM∧d<nt:=of_decide_eq_true hok
  simp only[aBd,acR]
  by_cases h:d=t
  ·subst h
   rw[if_pos rfl,abk (by omega)]
   rfl
  ·rw[if_neg (by simpa using h),abN h]
theorem ajh.aWL (h:ajh P φ dm hi lo nt d ops (e.i::l) tmps F pre)(hc:d.cur=some e)(hok:apn nt e.o.dst=true)(hn:nt≤tmps.size)(hv:sc dm v)(f:Pd→Bool)(hf:∀p∈d.pend,f p=false→e.o.after.testBit p.i=true):
 ajh P φ dm hi lo nt {ρ:=Ex.reg d.ρ e.o.dst v,pend:=d.pend.filter f,rest:=d.rest,cur:=none} ops l (aBd tmps e.o.dst (abe φ v)) F (pre++ [e]):=by
 have hpi:=h.bEg hc
 obtain⟨M,hM1,hM2⟩:=h.M
 have bOq:=hM2
 rw[hc]at hM2
 have hsub:∀p,p∈d.pend.filter f→p∈d.pend∧f p=true:=fun p hp=>acD.1 hp
 have heF:e∈F:=by rw[h.split,hc];simp
 have hlin:=h.lin
 have hout:∀j,e.o.after.testBit j=true→j∉e.i::l:=hlin.1 e heF rfl
 have awR:∀p∈d.pend,∃x∈pre,x.i=p.i∧x.o=p.o∧axT x e=true∧∀t v,p.g t=some v→aNS x.rs (some t)=true:=fun p hp=>by
  obtain⟨x,hx1,hx2,hx3,hx4⟩:=h.pin p hp
  exact⟨x,hx1,hx2,hx3,h.pairs x hx1 e (by rw[hc];simp),hx4⟩
 have a7S:∀p∈d.pend,∀t,p.o.dst=some t→e.o.dst≠some t:=fun p hp t ht=>by
  obtain⟨x,_,_,hx3,hx5,_⟩:=awR p hp
  exact aKW hx5 (by rw[hx3];exact ht)
 have hstill:∀p∈d.pend,p.i∈e.i::l→p∈d.pend.filter f∧p.i∈l:=fun p hp aEF=>by
  refine⟨acD.2 ⟨hp,?_⟩,(abb.1 aEF).resolve_left (hpi p hp)⟩
  cases hb:f p with
  |true=>rfl
  |false=>exact absurd aEF (hout _ (hf p hp hb))
 refine
 {ok:=h.ok
  lin:=hlin.2.2
  cover:=fun i hi'=>h.cover i (abq _ hi')
  aft:=h.aft
  inj:=h.inj
  split:=by rw[h.split,hc];simp
  M:=?_
  pairs:=?_
  todo:=?_
  done:=?_
  pin:=fun p hp=>?_
  ayg:=fun p hp=>h.ayg p (hsub p hp).1
  one:=fun p hp q hq=>h.one p (hsub p hp).1 q (hsub q hq).1
  aA7:=fun p hp q hq=>h.aA7 p (hsub p hp).1 q (hsub q hq).1
  a1:=fun p hp t ht=>?_
  a2:=fun p hp q hq=>h.a2 p (hsub p hp).1 q (hsub q hq).1
  pok:=fun p hp=>h.pok p (hsub p hp).1
  res:=fun p hp hi'=>h.res p (hsub p hp).1 (abq _ hi')
  reg:=fun t u hu hno=>?_
  rp:=fun q hq hqi t u hu hno=>?_
  ayh:=fun p hp q hq hp' hq'=>h.ayh p (hsub p hp).1 q (hsub q hq).1 (abq _ hp') (abq _ hq')}
 ·refine⟨M|||2^e.i,fun j=>?_,?_⟩
  ·rw[testBit_add,hM1]
   constructor
   ·rintro(⟨x,hx1,hx2⟩|hj)
    ·exact⟨x,by simp[hx1],hx2⟩
    ·exact⟨e,by simp,hj⟩
   ·rintro⟨x,hx1,hx2⟩
    rcases aaG.1 hx1 with hx|hx
    ·exact .inl ⟨x,hx,hx2⟩
    ·rw[aaW]at hx;subst hx;exact .inr hx2
  ·simp only[Option.toList,acJ,adt,awC,aa6]at hM2
   simpa using hM2.2
 ·intro x hx y hy
  have hy':y∈d.rest:=by simpa using hy
  rcases aaG.1 hx with hx|hx
  ·exact h.pairs x hx y (by simp[hy'])
  ·rw[aaW]at hx
   subst hx
   simp only[Option.toList,acJ,adt,awC,aa6,acg]at hM2
   exact hM2.1.2 y hy'
 ·intro y hy
  have hy':y∈d.rest:=by simpa using hy
  have h1:=h.todo y (by simp[hy'])
  exact(abb.1 h1).resolve_left (aOn (by simpa using hM2) y hy')
 ·intro x hx hxi
  rcases aaG.1 hx with hx|hx
  ·obtain⟨p,hp1,hp2⟩:=h.done x hx (abq _ hxi)
   exact⟨p,(hstill p hp1 (by rw[hp2];exact abq _ hxi)).1,hp2⟩
  ·rw[aaW]at hx
   subst hx
   exact absurd hxi hlin.2.1
 ·obtain⟨x,hx1,hx2⟩:=h.pin p (hsub p hp).1
  exact⟨x,by simp[hx1],hx2⟩
 ·show(Ex.reg d.ρ e.o.dst v).get t=_
  rw[aEU hok,if_neg (a7S p (hsub p hp).1 t ht)]
  exact h.a1 p (hsub p hp).1 t ht
 ·have hu':(Ex.reg d.ρ e.o.dst v).get t=some u:=hu
  rw[aEU hok]at hu'
  rw[ayk hok hn]
  split at hu'
  ·rename_i he
   injection hu' with hu'
   subst hu'
   exact⟨hv,by rw[if_pos he]⟩
  ·rename_i he
   rw[if_neg he]
   exact h.reg t u hu' fun p hp aEF=>hno p (hstill p hp aEF).1 (hstill p hp aEF).2
 ·obtain⟨hq1,hq2⟩:=hsub q hq
  obtain⟨x,hx1,hx2,hx3,hx5,hx6⟩:=awR q hq1
  have hne:e.o.dst≠some t:=by
   intro he
   have:=atB hx5 (.inr (by rw[he];exact hx6 t u hu))
   rw[hx2]at this
   exact hout _ this (abq _ hqi)
  rw[ayk hok hn,if_neg hne]
  exact h.rp q hq1 (abq _ hqi) t u hu fun p hp aEF=>hno p (hstill p hp aEF).1 (hstill p hp aEF).2
theorem ajh.act (h:ajh P φ dm hi lo nt d ops (e.i::l) tmps F pre)(hc:d.cur=some e)(hok:apn nt e.o.dst=true)(hn:nt≤tmps.size)(hv:sc dm v):
 ajh P φ dm hi lo nt {ρ:=Ex.reg d.ρ e.o.dst v,pend:=d.pend.filter fun p=>!e.o.after.testBit p.i,rest:=d.rest,cur:=none} ops l (aBd tmps e.o.dst (abe φ v)) F (pre++ [e]):=
 h.aWL hc hok hn hv _ fun p _ hp=>by simpa using hp
end
theorem aI6 {hi:Nat}{af af':AF}{d:DS}{v:AV}(hd:af.dr=some d)(h:aOf af d v=some af')(R:FrX P φ dm hi af fr)(hv:sc dm v):FrX P φ dm hi af' (fr.finish (abe φ v))∧af'.lo=af.lo:=by
 unfold FrX at R
 rw[hd]at R
 obtain⟨ops,idx,k,F,pre,h1,h2,h3,h4,h5⟩:=R
 unfold aOf at h
 split at h
 ·rename_i e hc
  split at h
  ·rename_i hok
   injection h with h
   subst h
   rw[hc]at h5
   obtain⟨l,rfl⟩:=h5
   obtain⟨op,ho1,ho2,_⟩:=h4.ok e (by rw[h4.split,hc];simp)
   refine⟨?_,rfl⟩
   have hfin:fr.finish (abe φ v)={fr with tmps:=aBd fr.tmps e.o.dst (abe φ v),todo:= .inRegion ops l::k}:=by
    simp only[Frame.finish,h1,ho1,ags,ho2]
    cases op.dst<;>rfl
   rw[hfin]
   refine⟨ops,l,k,F,pre++ [e],rfl,?_,h3,h4.act hc hok h2.size hv,trivial⟩
   obtain⟨r1,r2,rs,r3,r4,r5,r6,r7,r8,r9⟩:=h2
   exact⟨r1,r2,by rw[auU];exact rs,fun t u hu=>(by rw[T.akl]at hu;cases hu),r4,r5,r6,r7,r8,r9⟩
  ·contradiction
 ·contradiction
theorem FrX.aHc {hi hi':Nat}{af:AF}(h:FrX P φ dm hi af fr)(hl:hi≤hi'):FrX P φ dm hi' af fr:=by
 unfold FrX at h ⊢
 split
 ·rename_i hx;rw[hx]at h;exact h
 ·rename_i d hx
  rw[hx]at h
  obtain⟨ops,idx,k,F,pre,h1,h2,h3,h4,h5⟩:=h
  exact⟨ops,idx,k,F,pre,h1,h2,h3,{h4 with
   res:=fun p hp hi' b x hb=>⟨(h4.res p hp hi' b x hb).1,acG (h4.res p hp hi' b x hb).2.1 hl,(h4.res p hp hi' b x hb).2.2⟩},h5⟩
theorem FrX.nd {hi:Nat}{af:AF}(h:FrX P φ dm hi af fr)(hd:af.dr=none):akQ P φ dm af fr:=by
 unfold FrX at h
 rw[hd]at h
 exact h
theorem aqB {hi:Nat}{af af':AF}{v:AV}(h:finish af v=some af')(R:FrX P φ dm hi af fr)(hv:sc dm v):FrX P φ dm hi af' (fr.finish (abe φ v))∧af'.lo=af.lo:=by
 cases hd:af.dr with
 |none=>
  have R':=R.nd hd
  refine⟨(amh h R' hv).x,?_⟩
  unfold finish at h
  split at h
  case h_2=>contradiction
  rw[hd]at h
  simp only at h
  unfold ayd at h
  split at h
  ·split at h
   ·injection h with h;subst h;rfl
   ·contradiction
  ·injection h with h;subst h;rfl
  ·contradiction
 |some d=>
  unfold finish at h
  split at h
  case h_2=>contradiction
  rw[hd]at h
  exact aI6 hd h R hv
theorem aJc {m:AMd}{fm:FrameMode}(h:aI3 φ dm m fm):aI3 φ dm (aER m) (settle fm):=by
 cases m with
 |run=>have:fm= .run:=h;subst this;rfl
 |returning=>have:fm= .returning:=h;subst this;rfl
 |panicking ch=>
  obtain⟨h1,h2⟩:=h
  subst h1
  cases ch with
  |nil=>exact⟨rfl,by simp⟩
  |cons p ch=>
   obtain⟨v,r⟩:=p
   cases r with
   |false=>exact⟨rfl,h2⟩
   |true=>
    have hdrop:∀l:List (AV×Bool),(chainOf φ l).dropWhile (!·.goexit)= []:=by
     intro l
     induction l with
     |nil=>rfl
     |cons p l ih=>simp only[chainOf,acv,List.dropWhile_cons]at ih ⊢;simpa using ih
    show settle (.panicking ({v:=abe φ v,recovered:=true}::chainOf φ ch))= .returning
    simp only[settle,hdrop]
theorem aCN {H1:AH}{v:AV}{af:AF}(h:aRX {s with H:=H1,fr:=af} v=some s'){φ1:Nat→Loc}{dm1:Nat→Prop}{w1:World}(hcs:Stk P φ1 dm1 af.lo s.cs frs)(hlo:af.lo≤H1.next)(hr:Rel P φ1 dm1 H1 w1)(hv:sc dm1 v)
 (_hk:fr.kind=if af.deferred then .deferred else .normal):
 ∃c cs',frs=c::cs'∧ais P φ1 dm1 bs s' (if af.deferred then {c with mode:=settle c.mode} else c.finish (abe φ1 v)) cs' w1∧s'.H=H1:=by
 unfold aRX at h
 simp only at h
 split at h
 ·rename_i c cs heq
  rw[heq]at hcs
  cases hcs with
  | @cons _ _ cc _ ccs h1 hl h2=>
    refine⟨cc,ccs,rfl,?_⟩
    split at h
    ·rename_i hd
     split at h
     ·rename_i hdr
      injection h with h
      subst h
      rw[if_pos hd]
      obtain⟨r1,r2,rs,r3,r4,r5,r6,r7,r8,r9⟩:=h1.nd hdr
      exact⟨ajq.x ⟨⟨r1,r2,rs,r3,fun hs=>r4 (by revert hs;show aER c.mode= .run→_;unfold aER;split<;>simp),r5,aJc r6,r7,r8,r9⟩,by show c.lo≤H1.next;omega,h2,hr⟩,rfl⟩
     ·contradiction
    ·rename_i hd
     split at h
     ·rename_i c' hf
      injection h with h
      subst h
      rw[if_neg hd]
      obtain⟨f1,f2⟩:=aqB hf h1 hv
      exact⟨⟨f1.aHc hlo,by show c'.lo≤H1.next;omega,by show Stk P φ1 dm1 c'.lo cs ccs;rw[f2];exact h2,hr⟩,rfl⟩
     ·contradiction
 ·contradiction
end
end Ex
end Go.Proofs.YtfehlbepjmmkeaaGreatDoor
