/-
  DERIVED. The modifiables in values and in nodes, as lists. No condition.
-/
import Derived.Deep.DeepCutAuto
import Derived.Test.YtfehlbepjmmkeaaGreatDoorJaj
import Derived.Test.YtfehlbepjmmkeaaGreatDoorJac
namespace Go.Proofs.YtfehlbepjmmkeaaGreatDoor
set_option maxHeartbeats 20000000
set_option maxRecDepth 100000
set_option linter.unusedSimpArgs false
set_option linter.unusedVariables false
open Go.RowKit
mutual
def RV.mods:RV→List Int
 | .mk k m _ args=>(if k=2 then [m] else [])++agj args
def agj:List RV→List Int
 | []=>[]
 |t::l=>t.mods++agj l
end
theorem aML (l l':List RV):agj (l++l')=agj l++agj l':=by
 induction l with
 |nil=>simp[agj]
 |cons t l ih=>rw[acJ,agj,agj,ih,adS]
theorem an9 {l:List RV}{i:Nat}{t:RV}(h:l[i]? =some t):agj (l.take (i+1))=agj (l.take i)++t.mods:=by
 obtain⟨h1,h2⟩:=aaq.1 h
 rw[abS h1,h2,aML]
 simp[agj]
theorem aKe {l:List RV}{x:Int}:x∈agj l↔∃t∈l,x∈t.mods:=by
 induction l with
 |nil=>simp[agj]
 |cons t l ih=>rw[agj,aaG,ih];simp
mutual
theorem akz:∀t:RV,t.mods.length≤t.size
 | .mk k m s args=>by
   have:=ajX args
   rw[RV.mods,RV.size,aa1]
   split<;>simp<;>omega
theorem ajX:∀l:List RV,(agj l).length≤sizes l
 | []=>by simp[agj,sizes]
 |t::l=>by
  have:=akz t
  have:=ajX l
  rw[agj,sizes,aa1];omega
end
theorem axA (l l':List RV):sizes (l++l')=sizes l+sizes l':=by
 induction l with
 |nil=>simp[sizes]
 |cons t l ih=>rw[acJ,sizes,sizes,ih];omega
theorem apG {l:List RV}{t:RV}(h:t∈l):t.size≤sizes l:=by
 induction l with
 |nil=>simp at h
 |cons x l ih=>
  rw[sizes]
  rcases abb.1 h with rfl|h
  ·omega
  ·have:=ih h;omega
theorem aAl:∀l:List RV,l.length≤sizes l
 | []=>by simp
 |t::l=>by
  have:=aAl l
  have:=size_pos t
  rw[abJ,sizes];omega
def agV:List NP→List Int
 | []=>[]
 | .mk _ r kids::l=>(r.addr::(r.seen.mods++(r.wrote.mods++(agj r.args++agV kids))))++agV l
theorem arC:∀l l':List NP,agV (l++l')=agV l++agV l'
 | [],l'=>by simp[agV]
 | .mk m r k::l,l'=>by rw[acJ,agV,agV,arC l l',adS]
theorem awn {l:List NP}{j:Nat}{mod:Bool}{r:NR}{kids:List NP}(hj:l[j]? =some (.mk mod r kids)):agV (l.take (j+1))=agV (l.take j)++(r.addr::(r.seen.mods++(r.wrote.mods++(agj r.args++agV kids)))):=by
 obtain⟨hjl,he⟩:=aaq.1 hj
 rw[abS hjl,arC,he]
 simp[agV]
def ahq:List NP→Nat
 | []=>0
 | .mk _ r kids::l=>1+r.seen.size+r.wrote.size+sizes r.args+ahq kids+ahq l
theorem a0g {l:List NP}{j:Nat}{mod:Bool}{r:NR}{kids:List NP}(hj:l[j]? =some (.mk mod r kids)):r.seen.size≤ahq l∧r.wrote.size≤ahq l∧sizes r.args≤ahq l∧ahq kids≤ahq l:=by
 induction l generalizing j with
 |nil=>simp at hj
 |cons x l ih=>
  obtain⟨m',r',k'⟩:=x
  cases j with
  |zero=>
   simp at hj
   obtain⟨rfl,rfl,rfl⟩:=hj
   rw[ahq];omega
  |succ j=>
   simp at hj
   have:=ih hj
   rw[ahq];omega
theorem aAn:∀l:List NP,(agV l).length≤ahq l
 | []=>by simp[agV]
 | .mk _ r kids::l=>by
   have h1:=akz r.seen
   have h2:=akz r.wrote
   have h3:=ajX r.args
   have h4:=aAn kids
   have h5:=aAn l
   rw[agV,ahq]
   simp only[aa1,abJ]
   omega
theorem axB:∀l l':List NP,ahq (l++l')=ahq l+ahq l'
 | [],l'=>by simp[ahq]
 | .mk m r k::l,l'=>by rw[acJ,ahq,ahq,axB l l'];omega
theorem aUQ {l:List NP}{j:Nat}{mod:Bool}{r:NR}{kids:List NP}(hj:l[j]? =some (.mk mod r kids)):ahq (l.take j)+(1+r.seen.size+r.wrote.size+sizes r.args+ahq kids)≤ahq l:=by
 obtain⟨hjl,he⟩:=aaq.1 hj
 have h1:ahq l=ahq (l.take j)+ahq (l.drop j):=by rw[←axB,afn]
 rw[List.drop_eq_getElem_cons hjl,he,ahq]at h1
 omega
def ahr (m:Int)(l:List Int):Bool:=l.all fun a=>decide (0≤a)&&decide (a<m)
theorem a4n (m:Int):ahr m []=true:=rfl
theorem aib (m:Int)(l l':List Int):ahr m (l++l')=(ahr m l&&ahr m l'):=by unfold ahr;rw[List.all_append]
theorem a0i (m a:Int)(l:List Int):ahr m (a::l)=((decide (0≤a)&&decide (a<m))&&ahr m l):=by unfold ahr;rw[List.all_cons]
theorem aF3 (m a:Int):ahr m [a]=(decide (0≤a)&&decide (a<m)):=by unfold ahr;simp
theorem apH {m:Int}{l:List Int}:ahr m l=true↔∀a∈l,0≤a∧a<m:=by unfold ahr;simp
theorem aqT {m:Int}{l l':List Int}(h:∀x∈l,x∈l')(hb:ahr m l=false):ahr m l'=false:=by
 cases hx:ahr m l' with
 |false=>rfl
 |true=>
  rw[apH.2 (fun a ha=>apH.1 hx a (h a ha))]at hb
  cases hb
theorem aAp:∀l:List NP,l.length≤ahq l
 | []=>by simp
 | .mk _ _ _::l=>by
   have:=aAp l
   rw[abJ,ahq];omega
theorem aAs {l:List NP}{j:Nat}{mod:Bool}{r:NR}{kids:List NP}(hj:l[j]? =some (.mk mod r kids)):∀x∈r.addr::(r.seen.mods++(r.wrote.mods++(agj r.args++agV kids))),x∈agV l:=by
 intro x hx
 have h1:agV l=agV (l.take (j+1))++agV (l.drop (j+1)):=by rw[←arC,afn]
 rw[h1,awn hj]
 exact aaG.2 (.inl (aaG.2 (.inr hx)))
theorem aqU {m:Int}{l:List NP}{j:Nat}{mod:Bool}{r:NR}{kids:List NP}(hj:l[j]? =some (.mk mod r kids))
 (h:¬(0≤r.addr∧r.addr<m)∨ahr m r.seen.mods=false∨ahr m r.wrote.mods=false∨ahr m (agj r.args)=false∨ahr m (agV kids)=false):ahr m (agV l)=false:=by
 have hm:=aAs hj
 rcases h with h|h|h|h|h
 ·refine aqT (l:=[r.addr]) (fun x hx=>hm x ?_) ?_
  ·rw[aaW]at hx;subst hx;simp
  ·rw[aF3]
   by_cases h1:0≤r.addr
   ·have h2:¬r.addr<m:=fun h2=>h ⟨h1,h2⟩
    simp[h1,h2]
   ·simp[h1]
 ·exact aqT (fun x hx=>hm x (by simp[hx])) h
 ·exact aqT (fun x hx=>hm x (by simp[hx])) h
 ·exact aqT (fun x hx=>hm x (by simp[hx])) h
 ·exact aqT (fun x hx=>hm x (by simp[hx])) h
theorem aQE {m:Int}{l:List RV}{j:Nat}{t:RV}(hj:l[j]? =some t)(h:ahr m t.mods=false):ahr m (agj l)=false:=
 aqT (fun _ hx=>aKe.2 ⟨t,aaH hj,hx⟩) h
def ag3 (okv:RV→Bool)(st:List RV)(l:List NP):Bool:=st.all okv&&ahr st.length (agj st++agV l)
structure Clo (w0:World)(fn x1 x2:Nat)(I:World→List Int→Prop)(R:World→World→Prop):Prop where
 call:∀(W:World)(l:List Int)(a:Int),I W l→l.length≤20000000→Calls Tryz.prog fn #[.int .i64 a,.pointer (some ⟨x1,0,none⟩),.pointer (some ⟨x2,0,none⟩)] W fun e w'=>e= .returned (.tuple #[])∧I w' (l++ [a])∧R W w'
 keeps:∀{W W':World}{l:List Int},I W l→Keeps W W'→I W' l
 base:∀{W:World}{l:List Int},I W l→Keeps w0 W
 ofK:∀{W W':World},Keeps W W'→R W W'
 trans:∀{a b c:World},R a b→R b c→R a c
 box:∀{W W':World}{l:List Int}{b:Nat}{c:Array Value},I W l→R W W'→W.heap[b]? =some (.cells c 24 (0,0))→W'.heap[b]? =some (.cells c 24 (0,0))
theorem axD {w0:World}{fn x1 x2:Nat}{I:World→List Int→Prop}{R:World→World→Prop}(C:Clo w0 fn x1 x2 I R)(A:Nat→Prop)(hfn:fn=43∨fn=91):∀(d:Nat)(t:RV)(cs:List Value)(W:World)(l:List Int),ahG w0 A d t cs→I W l→l.length+t.size≤20000000→
 Calls Tryz.prog 44 #[.agg cs.toArray,.func (.func fn) #[] #[.pointer (some ⟨x1,0,none⟩),.pointer (some ⟨x2,0,none⟩)]] W fun e w'=>e= .returned (.tuple #[])∧I w' (l++t.mods)∧R W w':=by
 intro d
 induction d with
 |zero=>exact fun _ _ _ _ h=>h.elim
 |succ d ih=>
  intro t cs W l h hI hsz
  obtain⟨k,m,s,args⟩:=t
  obtain⟨p,c,rfl,hl,h1⟩:=h
  have IH:=aag ih
  have H1:=aag h1
  have HC:=aag C
  have HI:=aag hI
  have HSz:=aag hsz
  obtain⟨W0,hW0⟩ :∃W0,W0=W.alloc (.cells #[.int .i64 k,.int .i64 m,.string s,.slice p args.length c] 24):=⟨_,rfl⟩
  have hk0:Keeps W W0:=by rw[hW0];exact Keeps.alloc _ _
  have hb1:W0.heap[W.heap.size]? =some (.cells #[.int .i64 k,.int .i64 m,.string s,.slice p args.length c] 24 (0,0)):=by rw[hW0];exact aaL _ _
  have HK0:=aag hk0
  have HB1:=aag hb1
  have HI0:=aag (C.keeps hI hk0)
  have HCa:=aag (C.call W0 l m HI0.out (by omega))
  clear ih h1 hI hsz hk0 hb1 C
  rcases hfn with rfl|rfl
  all_goals
   go_enter Tryz.func44,Tryz.ntmps44
   go_upto_if 8 with fail
   rw[←hW0]
   clear hW0
   go_cut [] (fun wx=>I wx (l++if k=2 then [m] else [])∧R W0 wx)
   case first=>
    have a1:=cell_of_block HB1.out 1
    simp at a1
    by_cases hk2:k=2
    ·subst hk2
     go_wp2_with (first|(go_at_call 43;refine holdT ?_)|(go_at_call 91;refine holdT ?_))
     refine aag ?_
     refine HCa.out.mono ?_
     rintro _ w2 ⟨rfl,hi2,hr2⟩
     have HI2:=aag hi2
     have HR2:=aag hr2
     clear hi2 hr2
     go_wp2_with fail
     go_meet
     case rel=>exact⟨by simpa using HI2.out,HR2.out⟩
    ·go_wp2_with fail
     go_meet
     case rel=>exact⟨by simpa[hk2]using HI0.out,HC.out.ofK (Keeps.refl _)⟩
   case rest=>
    obtain⟨hi1,hr1⟩:=hcut
    obtain⟨l1,hl1⟩ :∃l1,l1=l++if k=2 then [m] else []:=⟨_,rfl⟩
    rw[←hl1]at hi1
    have HL1:=aag hl1
    have HI1:=aag hi1
    have HR1:=aag hr1
    have a3:=cell_of_block (HC.out.box HI0.out hr1 HB1.out) 3
    simp at a3
    clear hi1 hl1 hr1
    go_wp2_with fail
    go_loopw [16] (fun q W'=>∃i,i≤args.length∧q= .int .i64 i∧I W' (l1++agj (args.take i))∧R W0 W') (fun q _=>args.length - (intOf q).toNat)
    case atStart=>exact⟨0,ab6 _,rfl,by simpa[agj]using HI1.out,HR1.out⟩
    case round=>
     obtain⟨i,hi,rfl,hI,hR⟩:=hrel
     have hli:(l1++agj (args.take i)).length+sizes (args.drop i)≤20000000:=by
      have h2:=ajX (args.take i)
      have h3:sizes args=sizes (args.take i)+sizes (args.drop i):=by rw[←axA,afn]
      have h4:=HSz.out
      rw[RV.size]at h4
      rw[HL1.out]
      simp only[aa1]
      split<;>simp<;>omega
     generalize a4o:l1++agj (args.take i)=li at hI hli
     have HIi:=aag hI
     have HRi:=aag hR
     have HLi:=aag hli
     have a4t:=aag a4o
     clear hI hR hli a4o
     by_cases hil:i<args.length
     ·have k6:(i:Int)<args.length:=by omega
      have k7:(0:Int)≤i:=by omega
      obtain⟨u,hu⟩ :∃u,args[i]? =some u:=⟨_,aaw hil⟩
      obtain⟨g,o,c1,rfl,hA,hc1,ht1⟩:=H1.out i u hu
      obtain⟨k1,m1,s1,p1,n1,d1,rfl⟩:=ht1.four
      have hkw:=HC.out.base HIi.out
      have x0:=aaF hkw (hc1 0 _ rfl)
      have x1:=aaF hkw (hc1 1 _ rfl)
      have x2:=aaF hkw (hc1 2 _ rfl)
      have x3:=aaF hkw (hc1 3 _ rfl)
      have hul:li.length+u.size≤20000000:=by
       have h2:u.size≤sizes (args.drop i):=apG (aaH (i:=0) (by rw[List.getElem?_drop];exact hu))
       have:=HLi.out
       omega
      have HJ:=aag (fun W' (hW:Keeps wr W')=>IH.out u _ W' _ ht1 (HC.out.keeps HIi.out hW) hul)
      have HU:=aag hu
      clear hc1 hA ht1 hkw hu hul
      simp only[adK]at x0
      go_wp2_with (go_at_call 44;refine holdT ?_)
      refine aag ?_
      refine(HJ.out _ (Keeps.alloc _ _)).mono ?_
      rintro _ w2 ⟨rfl,hi2,hr2⟩
      have HI2:=aag hi2
      have HR2:=aag (HC.out.trans HRi.out (HC.out.trans (HC.out.ofK (Keeps.alloc _ _)) hr2))
      clear hi2 hr2 x0 x1 x2 x3
      go_wp2_with fail
      go_roundw
      case rel=>
       refine⟨i+1,by omega,by go_num,?_,HR2.out⟩
       rw[an9 HU.out,←adS,a4t.out]
       exact HI2.out
      case measure=>simp[intOf]<;>omega
     ·obtain rfl:i=args.length:=by omega
      have k6:¬(args.length:Int)<args.length:=by omega
      go_wp2_with fail
      go_end0
      refine⟨rfl,?_,HC.out.trans (HC.out.ofK HK0.out) HRi.out⟩
      have h9:=HIi.out
      rw[←a4t.out,ab1,HL1.out]at h9
      rw[RV.mods,←adS]
      exact h9
structure aqp (w0:World)(rb sb:Nat)(s:Array Value)(m:Nat)(W:World)(l:List Int):Prop where
 kept:Keeps w0 W
 nrb:w0.heap.size≤rb
 hrb:W.heap[rb]? =some (.cells #[.bool (ahr m l)] 4 (0,0))
 hsb:W.heap[sb]? =some (.cells s 34 (0,0))
theorem aXD {w0 W:World}{rb sb:Nat}{ps pl pi pr:Option Addr}{ns cs nl cl ni ci nr cr:Nat}{steps:Int}{l:List Int}(a:Int)(h:aqp w0 rb sb #[.slice ps ns cs,.slice pl nl cl,.slice pi ni ci,.slice pr nr cr,.int .i64 steps] ns W l):
 Calls Tryz.prog 91 #[.int .i64 a,.pointer (some ⟨rb,0,none⟩),.pointer (some ⟨sb,0,none⟩)] W fun e w'=>e= .returned (.tuple #[])∧aqp w0 rb sb #[.slice ps ns cs,.slice pl nl cl,.slice pi ni ci,.slice pr nr cr,.int .i64 steps] ns w' (l++ [a])∧Kept (fun b=>b=rb) W w':=by
 have H:=aag h
 have r0:=cell_of_block h.hrb 0
 have f0:=abu h.hrb 0
 have s0:=cell_of_block h.hsb 0
 simp at r0 s0
 have hne:sb≠rb:=fun e=>by
  have h1:=h.hsb
  rw[e,h.hrb]at h1
  simp at h1
 have key:∀b:Bool,b=ahr ns (l++ [a])→aqp w0 rb sb #[.slice ps ns cs,.slice pl nl cl,.slice pi ni ci,.slice pr nr cr,.int .i64 steps] ns (W.setCell ⟨rb,0,none⟩ (.bool b)) (l++ [a])∧Kept (fun b=>b=rb) W (W.setCell ⟨rb,0,none⟩ (.bool b)):=by
  intro b hb
  have hk:Kept (fun b=>b=rb) W (W.setCell ⟨rb,0,none⟩ (.bool b)):=(Kept.refl (fun b=>b=rb) W).setCell (p:=⟨rb,0,none⟩) (fun _=>rfl) _
  exact⟨⟨Kept.trans H.out.kept hk (fun g hg e=>by have:=H.out.nrb;omega),H.out.nrb,by rw[abV H.out.hrb,←hb];rfl,hk.at H.out.hsb hne⟩,hk⟩
 have aUR:=aag key
 clear h hne key
 rw[aib,aF3]at aUR
 go_enter Tryz.func91,Tryz.ntmps91
 cases hb:ahr (ns:Int) l
 ·rw[hb]at r0 aUR
  have HQ:=aUR.out false rfl
  have HQQ:=aag HQ
  clear HQ hb
  go_wp2_with fail
  go_end0
  exact⟨rfl,HQQ.out⟩
 ·rw[hb]at r0 aUR
  by_cases h0:0≤a
  ·by_cases h1:a<ns
   ·have HQ:=aUR.out true (by simp[h0,h1])
    have HQQ:=aag HQ
    clear HQ hb
    go_wp2_with fail
    go_end0
    exact⟨rfl,HQQ.out⟩
   ·have HQ:=aUR.out false (by simp[h1])
    have HQQ:=aag HQ
    clear HQ hb
    go_wp2_with fail
    go_end0
    exact⟨rfl,HQQ.out⟩
  ·have HQ:=aUR.out false (by simp[h0])
   have HQQ:=aag HQ
   clear HQ hb
   go_wp2_with fail
   go_end0
   exact⟨rfl,HQQ.out⟩
theorem aqp.keeps {w0 W W':World}{rb sb m:Nat}{s:Array Value}{l:List Int}(h:aqp w0 rb sb s m W l)(hk:Keeps W W'):aqp w0 rb sb s m W' l:=
 ⟨Keeps.trans h.kept hk,h.nrb,hk.at h.hrb (fun x=>x),hk.at h.hsb (fun x=>x)⟩
theorem aQG (w0:World)(rb sb:Nat)(ps pl pi pr:Option Addr)(ns cs nl cl ni ci nr cr:Nat)(steps:Int):
 Clo w0 91 rb sb (fun W l=>aqp w0 rb sb #[.slice ps ns cs,.slice pl nl cl,.slice pi ni ci,.slice pr nr cr,.int .i64 steps] ns W l) (fun W W'=>Kept (fun b=>b=rb) W W') where
 call:=fun W l a h _=>aXD a h
 keeps:=fun h hk=>h.keeps hk
 base:=fun h=>h.kept
 ofK:=fun hk=>hk.mono fun _ _ x=>x.elim
 trans:=fun h1 h2=>Kept.trans h1 h2 fun _ _ x=>x
 box:=fun {W W' l b c} h hr hb=>hr.at hb fun e=>by
  have h1:=h.hrb
  rw[←e,hb]at h1
  simp at h1
structure aF6 (w0 W:World)(v:Value)(l:List Int):Prop where
 kept:Keeps w0 W
 row:W.ownsRow w0.heap.size 3 1 v l.length (ints l)
def bxg (w0 W:World)(v:Value)(l':List Int)(e:Ending)(w':World):Prop:=
 ∃v',e= .returned v'∧aF6 w0 w' v' l'∧Kept (fun g=>v.ownBlock=some g) W w'∧(v'.ownBlock=v.ownBlock∨∃g,v'.ownBlock=some g∧W.heap.size≤g)
theorem aF6.keeps {w0 W W':World}{v:Value}{l:List Int}(h:aF6 w0 W v l)(hk:Keeps W W'):aF6 w0 W' v l:=
 ⟨Keeps.trans h.kept hk,ac5 h.row fun g hg=>hk.block g (h.row.lt g hg).2 (fun x=>x)⟩
theorem aF6.app {w0 W W':World}{v v':Value}{l:List Int}{z:Int}{o:Obj}(h:aF6 w0 W v l)(hg:(W.alloc o).grownBy W' v.ownBlock)(hr:W'.ownsRow w0.heap.size 3 1 v' (l.length+1) (ints l++ [.int .i64 z])):
 aF6 w0 W' v' (l++ [z])∧Kept (fun g=>v.ownBlock=some g) W W':=by
 have hk:Kept (fun b=>v.ownBlock=some b) W W':=((Kept.refl _ W).alloc o).grown hg (fun b hb _=>hb)
 refine⟨⟨Kept.trans h.kept hk (fun b hb e=>by have:=(h.row.lt b e).1;omega),?_⟩,hk⟩
 have e1:(l++ [z]).length=l.length+1:=by simp
 have e2:ints (l++ [z])=ints l++ [.int .i64 z]:=by simp[ints]
 rw[e1,e2];exact hr
theorem a0l {W X Y:World}{v vi:Value}(hkw:Kept (fun g=>v.ownBlock=some g) W X)(hat:vi.ownBlock=v.ownBlock∨∃g,vi.ownBlock=some g∧W.heap.size≤g)(hk:Kept (fun g=>vi.ownBlock=some g) X Y):Kept (fun g=>v.ownBlock=some g) W Y:=
 Kept.trans hkw hk fun g hg hx=>by
  rcases hat with e|⟨g',e,hg'⟩
  ·exact e▸hx
  ·rw[e]at hx
   injection hx with hx
   omega
theorem aUU {W X:World}{v vi v5:Value}(hs:W.heap.size≤X.heap.size)(hat:vi.ownBlock=v.ownBlock∨∃g,vi.ownBlock=some g∧W.heap.size≤g)(h5:v5.ownBlock=vi.ownBlock∨∃g,v5.ownBlock=some g∧X.heap.size≤g):v5.ownBlock=v.ownBlock∨∃g,v5.ownBlock=some g∧W.heap.size≤g:=by
 rcases h5 with e|⟨g,e,hg⟩
 ·rw[e];exact hat
 ·exact .inr ⟨g,e,aa7 hs hg⟩
theorem aXF {X:World}{O:Obj}{v5 v:Value}(h:v5.ownBlock=v.ownBlock∨v5.ownBlock=some (X.alloc O).heap.size):v5.ownBlock=v.ownBlock∨∃g,v5.ownBlock=some g∧X.heap.size≤g:=by
 rcases h with e|e
 ·exact .inl e
 ·exact .inr ⟨_,e,by rw[aaS];exact ab5 _⟩
theorem awq (w0:World)(A:Nat→Prop):∀(d:Nat)(t:RV)(cs:List Value)(W:World)(v:Value)(l:List Int),ahG w0 A d t cs→aF6 w0 W v l→l.length+t.size≤20000000→
 Calls Tryz.prog 50 #[.agg cs.toArray,v] W (bxg w0 W v (l++t.mods))
 |0,_,_,_,_,_,h,_,_=>h.elim
 |d+1,.mk k m s args,cs,W,v,l,h,hm,hsz=>by
  obtain⟨p,c,rfl,hl,h1⟩:=h
  have IH:=aag (awq w0 A d)
  have H1:=aag h1
  have HM:=aag hm
  obtain⟨qv,cv,rfl⟩:=af5 hm.row
  obtain⟨n,hn⟩ :∃n,n=l.length:=⟨_,rfl⟩
  rw[←hn]at HM ⊢
  have HN:=aag hn
  obtain⟨i3,hi3,hz3,hs3,hb3⟩:=info_parts info3
  have hn4:n≤20000000:=by omega
  have HSz:=aag hsz
  obtain⟨W0,hW0⟩ :∃W0,W0=W.alloc (.cells #[.int .i64 k,.int .i64 m,.string s,.slice p args.length c] 24):=⟨_,rfl⟩
  have hk0:Keeps W W0:=by rw[hW0];exact Keeps.alloc _ _
  have hb1:W0.heap[W.heap.size]? =some (.cells #[.int .i64 k,.int .i64 m,.string s,.slice p args.length c] 24 (0,0)):=by rw[hW0];exact aaL _ _
  have hbg:∀g,(Value.slice qv n cv).ownBlock=some g→g<W.heap.size:=fun g hg=>by
   have h9:=HM.out.row
   rw[←hn]at h9
   exact(h9.lt g hg).2
  have HK0:=aag hk0
  have HB1:=aag hb1
  have HBg:=aag hbg
  have HMa:=aag (HM.out.keeps hk0)
  clear h1 hk0 hb1 hm hn hbg hsz
  have bNC:w0.heap.size≤W.heap.size:=HM.out.kept.size
  go_enter Tryz.func50,Tryz.ntmps50
  go_upto_if 8 with fail
  rw[←hW0]
  clear hW0
  go_cut [1] (fun u wx=>aF6 w0 wx u (l++if k=2 then [m] else [])∧Kept (fun g=>(Value.slice qv n cv).ownBlock=some g) W0 wx∧(u.ownBlock=(Value.slice qv n cv).ownBlock∨∃g,u.ownBlock=some g∧W0.heap.size≤g))
  case first=>
   have a1:=cell_of_block HB1.out 1
   simp at a1
   by_cases hk2:k=2
   ·subst hk2
    go_wp2_with (at_builtin;refine holdT ?_)
    refine aag ?_
    have hrow:=HMa.out.row
    rw[←HN.out]at hrow
    refine wpList_append_own_at _ rfl (.tmp 9) (.tmp 12) 31 rfl w0.heap.size 3 i3 (.int .i64 0) 1 8 ajS hi3 hz3 hs3 hb3 rfl (by decide) (.slice qv n cv) n (ints l) rfl (hrow.alloc _) ⟨_,0,none⟩ 1 1 [.int .i64 m] rfl rfl (cell_one_new _ _ _) (by simp[Value.oneCell']) (by unfold maxLen;omega) (by omega) (by rw[aaS];have:=HMa.out.kept.size;omega) ?_
    intro v7 w7 akk ajd apM amr
    rw[HN.out]at akk
    obtain⟨q1,q2⟩:=HMa.out.app ajd akk
    have Q1:=aag q1
    have Q2:=aag q2
    have Q3:=aag (aXF amr)
    clear q1 q2 akk ajd apM amr hrow
    go_wp2_with fail
    go_meet
    case rel=>exact⟨by simpa using Q1.out,Q2.out,Q3.out⟩
   ·go_wp2_with fail
    go_meet
    case rel=>exact⟨by simpa[hk2]using HMa.out,Kept.refl _ _,.inl rfl⟩
  case rest=>
   obtain⟨hm1,bxj,bxl⟩:=hcut
   obtain⟨l1,hl1⟩ :∃l1,l1=l++if k=2 then [m] else []:=⟨_,rfl⟩
   rw[←hl1]at hm1
   have HL1:=aag hl1
   have HM1:=aag hm1
   have bHz:=aag bxj
   have bHB:=aag bxl
   clear hm1 hl1 bxj bxl
   go_wp2_with fail
   go_loopw [1,5] (fun u q W'=>∃i,i≤args.length∧q= .int .i64 i∧aF6 w0 W' u (l1++agj (args.take i))∧Kept (fun g=>(Value.slice qv n cv).ownBlock=some g) W0 W'∧(u.ownBlock=(Value.slice qv n cv).ownBlock∨∃g,u.ownBlock=some g∧W0.heap.size≤g)) (fun _ q _=>args.length - (intOf q).toNat)
   case atStart=>exact⟨0,ab6 _,rfl,by simpa[agj]using HM1.out,bHz.out,bHB.out⟩
   case round=>
    obtain⟨i,hi,rfl,hm,hkw,hat⟩:=hrel
    have a3:=cell_of_block (hkw.at HB1.out (fun e=>by have:=HBg.out _ e;omega)) 3
    simp at a3
    have hli:(l1++agj (args.take i)).length+sizes (args.drop i)≤20000000:=by
     have h2:=ajX (args.take i)
     have h3:sizes args=sizes (args.take i)+sizes (args.drop i):=by rw[←axA,afn]
     have h4:=HSz.out
     rw[RV.size]at h4
     rw[HL1.out]
     simp only[aa1]
     split<;>simp<;>omega
    generalize a4o:l1++agj (args.take i)=li at hm hli
    obtain⟨qi,ci,rfl⟩:=af5 hm.row
    obtain⟨ni,hni⟩ :∃ni,ni=li.length:=⟨_,rfl⟩
    rw[←hni]at hm hat ⊢
    have HM:=aag hm
    have HKw:=aag hkw
    have HAt:=aag hat
    have HLi:=aag hli
    have a4t:=aag a4o
    clear hm hkw hat hli a4o hni
    by_cases hil:i<args.length
    ·have k6:(i:Int)<args.length:=by omega
     have k7:(0:Int)≤i:=by omega
     obtain⟨u,hu⟩ :∃u,args[i]? =some u:=⟨_,aaw hil⟩
     obtain⟨g,o,c1,rfl,hA,hc1,ht1⟩:=H1.out i u hu
     obtain⟨k1,m1,s1,p1,n1,d1,rfl⟩:=ht1.four
     have hkw:=HM.out.kept
     have x0:=aaF hkw (hc1 0 _ rfl)
     have x1:=aaF hkw (hc1 1 _ rfl)
     have x2:=aaF hkw (hc1 2 _ rfl)
     have x3:=aaF hkw (hc1 3 _ rfl)
     have hul:li.length+u.size≤20000000:=by
      have h2:u.size≤sizes (args.drop i):=apG (aaH (i:=0) (by rw[List.getElem?_drop];exact hu))
      have:=HLi.out
      omega
     have HI:=aag (IH.out u _ _ _ _ ht1 HM.out hul)
     have HU:=aag hu
     clear hc1 hA ht1 hkw hu hul
     simp only[adK]at x0
     go_wp2_with (go_at_call 50;refine holdT ?_)
     refine aag ?_
     refine HI.out.mono ?_
     rintro _ w2 ⟨v2,rfl,hm2,hk2,bxr⟩
     have HM2:=aag hm2
     have HK2:=aag hk2
     have HA2:=aag bxr
     clear hm2 hk2 bxr
     go_wp2_with fail
     go_roundw
     case rel=>
      refine⟨i+1,by omega,by go_num,?_,a0l HKw.out HAt.out HK2.out,aUU HKw.out.size HAt.out HA2.out⟩
      rw[an9 HU.out,←adS,a4t.out]
      exact HM2.out
     case measure=>simp[intOf]<;>omega
    ·obtain rfl:i=args.length:=by omega
     have k6:¬(args.length:Int)<args.length:=by omega
     go_wp2_with fail
     go_ret
     refine⟨.slice qi ni ci,rfl,?_,Kept.trans ((Kept.refl _ _).mono fun _ _ x=>x) (Kept.trans (HK0.out.mono (T:=fun g=>(Value.slice qv n cv).ownBlock=some g) fun _ _ x=>x.elim) HKw.out fun _ _ x=>x) fun _ _ x=>x,aUU HK0.out.size (.inl rfl) HAt.out⟩
     have h9:=HM.out
     rw[←a4t.out,ab1,HL1.out]at h9
     rw[RV.mods,←adS]
     exact h9
theorem aQH {m:Int}{l:List Int}{i:Nat}{z:Int}(h:l[i]? =some z)(hb:¬(0≤z∧z<m)):ahr m l=false:=by
 cases hx:ahr m l with
 |false=>rfl
 |true=>exact absurd (apH.1 hx z (aaH h)) hb
theorem a0t {m:Int}{l:List Int}{i:Nat}{z:Int}(h:l[i]? =some z)(hz:0≤z∧z<m)(hi:ahr m (l.take i)=true):ahr m (l.take (i+1))=true:=by
 obtain⟨h1,h2⟩:=aaq.1 h
 rw[abS h1,h2,aib,hi,aF3]
 simp[hz]
theorem auG (d:Nat)(w:World)(A:Nat→Prop)(t:RV)(cs:List Value)(most:Nat)(h:ahG w A d t cs)(hs:t.size≤2000000):
 Calls Tryz.prog 49 #[.agg cs.toArray,.int .i64 most] w fun e w'=>e= .returned (.bool (ahr most t.mods))∧Keeps w w':=by
 obtain⟨k,m,s,p,n,c,rfl⟩:=h.four
 have HC:=aag (fun W (hW:Keeps w W)=>awq w A d t _ W (.slice none 0 0) [] h ⟨hW,acW _ _ _ _⟩ (by simp;omega))
 have hml:t.mods.length≤2000000:=aa7 (akz t) hs
 clear h
 go_enter Tryz.func49,Tryz.ntmps49
 go_wp2_with (go_at_call 50;refine holdT ?_)
 refine aag ?_
 refine(HC.out _ (Keeps.alloc _ _)).mono ?_
 rintro _ w2 ⟨v2,rfl,hm2,hk2,-⟩
 rw[adt]at hm2
 obtain⟨l,hl⟩ :∃l,l=t.mods:=⟨_,rfl⟩
 rw[←hl]at hm2 hml
 have HL:=aag hl
 have HR:=aag (ints_at hm2.row)
 have HK2:=aag hm2.kept
 obtain⟨q2,c2,rfl⟩:=af5 hm2.row
 obtain⟨nl,hnl⟩ :∃nl,nl=l.length:=⟨_,rfl⟩
 rw[←hnl]at HR hml ⊢
 have HNl:=aag hnl
 clear hm2 hk2 hl hnl
 go_wp2_with fail
 go_loopw [6] (fun q W=>∃i:Nat,i≤nl∧q= .int .i64 i∧W=w2∧ahr most (l.take i)=true) (fun q _=>nl - (intOf q).toNat)
 case atStart=>exact⟨0,ab6 _,rfl,rfl,by simp[a4n]⟩
 case round=>
  obtain⟨i,hi,rfl,rfl,hin⟩:=hrel
  have HIn:=aag hin
  clear hin
  by_cases hil:i<nl
  ·have k6:(i:Int)<nl:=by omega
   have k7:(0:Int)≤i:=by omega
   obtain⟨z,hz⟩ :∃z,l[i]? =some z:=⟨_,aaw (by rw[←HNl.out];exact hil)⟩
   obtain⟨px,cx,hpx,hcell⟩:=HR.out
   injection hpx with hpx _ hcx
   subst hpx hcx
   obtain⟨gz,oz,rfl,hcz⟩:=hcell i z hz
   have HZ:=aag hz
   clear hz hcell
   by_cases hz0:z<0
   ·have hbad:=aQH (m:=(most:Int)) HZ.out (by omega)
    go_wp2_with fail
    go_ret
    exact⟨by rw[←HL.out,hbad];rfl,HK2.out⟩
   ·by_cases hz1:(most:Int)≤z
    ·have hbad:=aQH (m:=(most:Int)) HZ.out (by omega)
     go_wp2_with fail
     go_ret
     exact⟨by rw[←HL.out,hbad];rfl,HK2.out⟩
    ·have hst:=a0t (m:=(most:Int)) HZ.out (by omega) HIn.out
     have HSt:=aag hst
     clear hst
     go_wp2_with fail
     go_roundw
     case rel=>exact⟨i+1,by omega,by go_num,by simp,HSt.out⟩
     case measure=>simp[intOf]<;>omega
  ·obtain rfl:i=nl:=by omega
   have k6:¬(i:Int)<i:=by omega
   have hall:=HIn.out
   rw[HNl.out,ab1]at hall
   have a4v:=aag hall
   clear hall
   go_wp2_with fail
   go_ret
   exact⟨by rw[←HL.out,a4v.out];rfl,HK2.out⟩
def nub (l:List Int):List Int:=l.foldl (fun n a=>if a∈n then n else n++ [a]) []
theorem axF (l:List Int)(a:Int):nub (l++ [a])=if a∈nub l then nub l else nub l++ [a]:=by unfold nub;rw[List.foldl_append];rfl
theorem aoD (l:List Int):(∀a,a∈nub l↔a∈l)∧(nub l).Nodup∧(nub l).length≤l.length:=by
 rw[←List.reverse_reverse l]
 generalize l.reverse=r
 induction r with
 |nil=>exact⟨fun a=>by simp[nub],by simp[nub],by simp[nub]⟩
 |cons x r ih=>
  rw[ajv]
  generalize r.reverse=l at ih ⊢
  obtain⟨h1,h2,h3⟩:=ih
  rw[axF]
  by_cases hx:x∈nub l
  ·rw[if_pos hx]
   refine⟨fun a=>?_,h2,by rw[aa1];omega⟩
   rw[h1,aaG,aaW]
   exact⟨.inl,fun h=>h.elim id fun e=>e▸(h1 x).1 hx⟩
  ·rw[if_neg hx]
   refine⟨fun a=>?_,?_,by simp only[aa1,ad5];omega⟩
   ·rw[aaG,aaG,h1]
   ·rw[afB]
    refine⟨h2,by simp,fun a ha b hb=>?_⟩
    rw[aaW]at hb
    subst hb
    exact fun e=>hx (e▸ha)
structure aIE (w0:World)(M x1 x2:Nat)(W:World)(l:List Int):Prop where
 kept:Keeps w0 W
 n1:w0.heap.size≤x1
 n2:w0.heap.size≤x2
 nM:w0.heap.size≤M
 h1:W.heap[x1]? =some (.cells #[.map (some M)] 88 (0,0))
 map:∃m,aqO W M kI m∧∀a,amF m a=if a∈l then some ((l.count a:Nat):Int) else none
 row:∃v,W.heap[x2]? =some (.cells #[v] 31 (0,0))∧W.ownsRow w0.heap.size 3 1 v (nub l).length (ints (nub l))
def bbB (W W':World):Prop:=∀(b:Nat)(c:Array Value)(t:TypeId),W.heap[b]? =some (.cells c t (0,0))→t≠31→t≠3→W'.heap[b]? =some (.cells c t (0,0))
theorem aIE.keeps {w0 W W':World}{M x1 x2:Nat}{l:List Int}(h:aIE w0 M x1 x2 W l)(hk:Keeps W W'):aIE w0 M x1 x2 W' l:=by
 obtain⟨m,hm,hm2⟩:=h.map
 obtain⟨v,hv,hr⟩:=h.row
 exact⟨Keeps.trans h.kept hk,h.n1,h.n2,h.nM,hk.at h.h1 (fun x=>x),⟨m,hm.same (hk.block _ hm.lt (fun x=>x)),hm2⟩,v,hk.at hv (fun x=>x),ac5 hr fun g hg=>hk.block g (hr.lt g hg).2 (fun x=>x)⟩
theorem aUZ (l:List Int)(a b:Int):(l++ [a]).count b=l.count b+if b=a then 1 else 0:=by
 rw[List.count_append]
 by_cases h:b=a
 ·subst h;simp
 ·simp[h,ahU h]
theorem aQL {w0 W:World}{M x1 x2:Nat}{l:List Int}(a:Int)(h:aIE w0 M x1 x2 W l)(hl:l.length≤20000000):
 Calls Tryz.prog 43 #[.int .i64 a,.pointer (some ⟨x1,0,none⟩),.pointer (some ⟨x2,0,none⟩)] W fun e w'=>e= .returned (.tuple #[])∧aIE w0 M x1 x2 w' (l++ [a])∧bbB W w':=by
 obtain⟨m,hm,hm2⟩:=h.map
 obtain⟨v,hv,hr⟩:=h.row
 obtain⟨k,hk⟩ :∃k,k=l.count a:=⟨_,rfl⟩
 have hkl:k≤20000000:=by rw[hk];exact aa7 List.count_le_length hl
 have hgd:(amF m a).getD 0=(k:Int):=by
  rw[hm2]
  by_cases ha:a∈l
  ·rw[if_pos ha,hk];rfl
  ·rw[if_neg ha,hk,List.count_eq_zero_of_not_mem ha];rfl
 have hl1:=hm.look a3u (fun _ _=>trivial) a trivial false
 obtain⟨w3,m3,hput,hk3,hs3,hm3,hg3,-⟩:=hm.put a3u (fun _ _=>trivial) a trivial ((k:Int)+1)
 have hl2:=hm3.look a3u (fun _ _=>trivial) a trivial false
 rw[hg3,if_pos rfl]at hl2
 rw[hgd]at hl1
 simp only[acf,if_false,ahc]at hl1 hl2
 have hc1:=cell_of_block h.h1 0
 simp at hc1
 have hne1:x1≠M:=fun e=>hm.akx (e▸h.h1)
 have hne2:x2≠M:=fun e=>hm.akx (e▸hv)
 have h13:=hk3.at h.h1 hne1
 have hv3:=hk3.at hv hne2
 have hc3:=cell_of_block h13 0
 simp at hc3
 have hr3:w3.ownsRow w0.heap.size 3 1 v (nub l).length (ints (nub l)):=ac5 hr fun g hg=>hk3.block g (hr.lt g hg).2 fun e=>by
  obtain⟨cur,hcur⟩:=row_block hr hg
  exact hm.akx (e▸hcur)
 have hkw:Keeps w0 w3:=Kept.trans h.kept hk3 fun g hg e=>by have:=h.nM;omega
 have hcnt:∀y,amF m3 y=if y∈l++ [a] then some (((l++ [a]).count y:Nat):Int) else none:=by
  intro y
  rw[hg3,hm2,aUZ]
  by_cases hy:y=a
  ·subst hy
   rw[if_pos rfl,if_pos (by simp),if_pos rfl,hk]
   rfl
  ·rw[if_neg hy,if_neg hy]
   simp[hy]
 have hsr:bbB W w3:=fun b c t hb _ _=>hk3.at hb fun e=>hm.akx (e▸hb)
 have H:=aag h
 have HM3:=aag hm3
 have H13:=aag h13
 have HR3:=aag hr3
 have HV3:=aag hv3
 have HKw:=aag hkw
 have HCn:=aag hcnt
 have HSr:=aag hsr
 have HK:=aag hk
 have HL:=aag hl
 clear h hm hm2 hv hr hgd hk3 hs3 hm3 hg3 hne1 hne2 h13 hr3 hv3 hkw hcnt hsr hk hl
 obtain⟨i3,hi3,hz3,hs3,hb3⟩:=info_parts info3
 go_enter Tryz.func43,Tryz.ntmps43
 by_cases hk0:k=0
 ·subst hk0
  rw[show((0:Nat):Int)+1=1 from rfl]at hput hl2
  rw[show((0:Nat):Int)=0 from rfl]at hl1
  have hna:a∉nub l:=fun hx=>by
   have h1:=((aoD l).1 a).1 hx
   have h2:=List.count_pos_iff.2 h1
   have:=HK.out
   omega
  have a4w:nub (l++ [a])=nub l++ [a]:=by rw[axF,if_neg hna]
  have bHD:=aag a4w
  have hnl:(nub l).length≤20000000:=aa7 (aoD l).2.2 HL.out
  obtain⟨qv,cv,rfl⟩:=af5 HR3.out
  have b2:=cell_of_block HV3.out 0
  have f2:=abu HV3.out 0
  have l2:=acO HV3.out
  obtain⟨n,hn⟩ :∃n,n=(nub l).length:=⟨_,rfl⟩
  rw[←hn]at b2 HR3 HV3 hnl
  have HN:=aag hn
  simp at b2
  have h0s:=HKw.out.size
  clear hna a4w hn
  go_wp2_with (at_builtin;refine holdT ?_)
  refine aag ?_
  refine wpList_append_own_at _ rfl (.tmp 12) (.tmp 14) 31 rfl w0.heap.size 3 i3 (.int .i64 0) 1 8 ajS hi3 hz3 hs3 hb3 rfl (by decide) (.slice qv n cv) n (ints (nub l)) rfl (HR3.out.alloc _) ⟨_,0,none⟩ 1 1 [.int .i64 a] rfl rfl (cell_one_new _ _ _) (by simp[Value.oneCell']) (by unfold maxLen;omega) (by omega) (by rw[aaS];omega) ?_
  intro v7 w7 akk ajd apM amr
  rw[HN.out]at akk
  have hmr:aF6 w0 w3 (.slice qv n cv) (nub l):=⟨HKw.out,by have:=HR3.out;rw[HN.out]at this ⊢;exact this⟩
  obtain⟨q1,q2⟩:=hmr.app ajd akk
  rw[←bHD.out]at q1
  obtain⟨qz,cz,rfl⟩:=af5 q1.row
  have hown2:(Value.slice qv n cv).ownBlock≠some x2:=fun e=>by
   obtain⟨cur,hcur⟩:=row_block HR3.out e
   rw[HV3.out]at hcur
   simp at hcur
  have hv7:=q2.at HV3.out hown2
  have hM7:(Value.slice qv n cv).ownBlock≠some M:=fun e=>by
   obtain⟨cur,hcur⟩:=row_block HR3.out e
   exact HM3.out.akx hcur
  have bxv:M≠x2:=fun e=>HM3.out.akx (e▸HV3.out)
  have h17:=q2.at H13.out (fun e=>by
   obtain⟨cur,hcur⟩:=row_block HR3.out e
   rw[H13.out]at hcur
   simp at hcur)
  have bxy:x1≠x2:=fun e=>by
   have h9:=H13.out
   rw[e,HV3.out]at h9
   simp at h9
  have f7:=abu hv7 0
  have Q1:=aag q1
  have hks:Kept (fun g=>g=x2) w7 (w7.setCell ⟨x2,0,none⟩ (.slice qz (nub (l++ [a])).length cz)):=(Kept.refl (fun g=>g=x2) w7).setCell (p:=⟨x2,0,none⟩) (fun _=>rfl) _
  have hfin:aIE w0 M x1 x2 (w7.setCell ⟨x2,0,none⟩ (.slice qz (nub (l++ [a])).length cz)) (l++ [a]):=by
   refine⟨Kept.trans Q1.out.kept hks (fun g hg e=>by have:=H.out.n2;omega),H.out.n1,H.out.n2,H.out.nM,hks.at h17 bxy,⟨_,(HM3.out.same (q2.block M HM3.out.lt hM7)).same (hks.block M (acG HM3.out.lt q2.size) bxv),HCn.out⟩,.slice qz (nub (l++ [a])).length cz,by rw[abV hv7];rfl,ac5 Q1.out.row fun g hg=>abw _ fun e=>?_⟩
   obtain⟨cur,hcur⟩:=row_block Q1.out.row hg
   rw[e,hv7]at hcur
   simp at hcur
  have hfr:bbB W (w7.setCell ⟨x2,0,none⟩ (.slice qz (nub (l++ [a])).length cz)):=fun b c t hb h31 h3=>by
   have hb3:=HSr.out b c t hb h31 h3
   have hb7:=q2.at hb3 fun e=>by
    obtain⟨cur,hcur⟩:=row_block HR3.out e
    rw[hb3]at hcur
    simp at hcur
    exact h3 hcur.2
   exact hks.at hb7 fun e=>by
    have h9:=hb7
    rw[e,hv7]at h9
    simp at h9
    exact h31 h9.2.symm
  have HFin:=aag hfin
  have HFr:=aag hfr
  clear q1 q2 hown2 hM7 bxv h17 bxy hks hfin hfr akk ajd apM amr hmr
  have b7:=cell_of_block hv7 0
  have l7:=acO hv7
  simp at b7
  clear hv7
  go_wp2_with fail
  go_end0
  exact⟨rfl,HFin.out,HFr.out⟩
 ·have hne:¬((k:Int)+1=1):=by omega
  have hne2:((k:Int)+1==1)=false:=by simp;omega
  have hin:a∈nub l:=((aoD l).1 a).2 (List.count_pos_iff.1 (by have:=HK.out;omega))
  have a4w:nub (l++ [a])=nub l:=by rw[axF,if_pos hin]
  have hfin:aIE w0 M x1 x2 w3 (l++ [a]):=⟨HKw.out,H.out.n1,H.out.n2,H.out.nM,H13.out,⟨_,HM3.out,HCn.out⟩,v,HV3.out,by rw[a4w];exact HR3.out⟩
  have HFin:=aag hfin
  clear hin a4w hfin
  go_wp2_with fail
  go_end0
  exact⟨rfl,HFin.out,HSr.out⟩
theorem bbC (w0:World)(M x1 x2:Nat):Clo w0 43 x1 x2 (fun W l=>aIE w0 M x1 x2 W l) bbB where
 call:=fun W l a h hl=>aQL a h hl
 keeps:=fun h hk=>h.keeps hk
 base:=fun h=>h.kept
 ofK:=fun hk b c t hb _ _=>hk.at hb (fun x=>x)
 trans:=fun h1 h2 b c t hb h31 h3=>h2 b c t (h1 b c t hb h31 h3) h31 h3
 box:=fun _ hr hb=>hr _ _ _ hb (by decide) (by decide)
structure RG (g:Int→List Int)(S R:List Int):Prop where
 first:∀z∈S,z∈R
 next:∀x∈R,∀z∈g x,z∈R
 least:∀P:Int→Prop,(∀z∈S,P z)→(∀x,P x→∀z∈g x,P z)→∀x∈R,P x
theorem RG.same {g:Int→List Int}{S S' R R':List Int}(h:RG g S R)(h':RG g S' R')(hs:∀x,x∈S↔x∈S'):∀x,x∈R↔x∈R':=fun x=>
 ⟨fun hx=>h.least (· ∈R') (fun z hz=>h'.first z ((hs z).1 hz)) (fun a ha z hz=>h'.next a ha z hz) x hx,fun hx=>h'.least (· ∈R) (fun z hz=>h.first z ((hs z).2 hz)) (fun a ha z hz=>h.next a ha z hz) x hx⟩
structure TG (g:Int→List Int)(S T R:List Int):Prop where
 inT:∀x∈T,x∈R
 done:∀x∈R,x∈T∨∀z∈g x,z∈R
 root:∀x∈S,x∈R
 least:∀P:Int→Prop,(∀z∈S,P z)→(∀x,P x→∀z∈g x,P z)→∀x∈R,P x
 rng:∀x∈R,0≤x∧x<30000
theorem TG.start {g:Int→List Int}{S T:List Int}(hs:∀x,x∈S↔x∈T)(hr:∀x∈S,0≤x∧x<30000):TG g S T S:=⟨fun x hx=>(hs x).2 hx,fun x hx=> .inl ((hs x).1 hx),fun _ hx=>hx,fun _ h _ x hx=>h x hx,hr⟩
theorem TG.fin {g:Int→List Int}{S R:List Int}(h:TG g S [] R):RG g S R:=
 ⟨h.root,fun x hx z hz=>(h.done x hx).elim (fun x=>by simp at x) (fun x=>x z hz),h.least⟩
structure DG (g:Int→List Int)(S:List Int)(a:Int)(i:Nat)(T R:List Int):Prop where
 here:a∈R
 inT:∀x∈T,x∈R
 seen:∀(j:Nat)(z:Int),j<i→(g a)[j]? =some z→z∈R
 done:∀x∈R,x=a∨x∈T∨∀z∈g x,z∈R
 root:∀x∈S,x∈R
 least:∀P:Int→Prop,(∀z∈S,P z)→(∀x,P x→∀z∈g x,P z)→∀x∈R,P x
 rng:∀x∈R,0≤x∧x<30000
section
variable {g:Int→List Int}{S T R:List Int}{a z:Int}{i:Nat}
theorem TG.take (h:TG g S (T++ [a]) R):DG g S a 0 T R:=
 ⟨h.inT a (by simp),fun x hx=>h.inT x (aaG.2 (.inl hx)),fun j z hj=>absurd hj (amn _),fun x hx=>(h.done x hx).elim (fun hm=>(aaG.1 hm).elim (fun hm=> .inr (.inl hm)) (fun hm=> .inl (by simpa using hm))) (fun hm=> .inr (.inr hm)),h.root,h.least,h.rng⟩
theorem DG.old (h:DG g S a i T R)(hz:(g a)[i]? =some z)(hm:z∈R):DG g S a (i+1) T R:=
 ⟨h.here,h.inT,fun j x hj hx=>by
  by_cases e:j=i
  ·subst e;rw[hz]at hx;injection hx with hx;subst hx;exact hm
  ·exact h.seen j x (by omega) hx,h.done,h.root,h.least,h.rng⟩
theorem DG.new (h:DG g S a i T R)(hz:(g a)[i]? =some z)(h0:0≤z∧z<30000):DG g S a (i+1) (T++ [z]) (R++ [z]):=by
 have hmem:=aaH hz
 have hl:∀{x},x∈R→x∈R++ [z]:=fun hx=>aaG.2 (.inl hx)
 refine⟨hl h.here,fun x hx=>?_,fun j x hj hx=>?_,fun x hx=>?_,fun x hx=>hl (h.root x hx),fun P h1 h2 x hx=>?_,fun x hx=>?_⟩
 ·rcases aaG.1 hx with hx|hx
  ·exact hl (h.inT x hx)
  ·exact aaG.2 (.inr hx)
 ·by_cases e:j=i
  ·subst e;rw[hz]at hx;injection hx with hx;subst hx;simp
  ·exact hl (h.seen j x (by omega) hx)
 ·rcases aaG.1 hx with hx|hx
  ·rcases h.done x hx with h3|h3|h3
   ·exact .inl h3
   ·exact .inr (.inl (aaG.2 (.inl h3)))
   ·exact .inr (.inr fun z hz=>hl (h3 z hz))
  ·exact .inr (.inl (aaG.2 (.inr hx)))
 ·rcases aaG.1 hx with hx|hx
  ·exact h.least P h1 h2 x hx
  ·rw[aaW]at hx
   subst hx
   exact h2 a (h.least P h1 h2 a h.here) _ hmem
 ·rcases aaG.1 hx with hx|hx
  ·exact h.rng x hx
  ·rw[aaW]at hx;subst hx;exact h0
theorem DG.fin (h:DG g S a (g a).length T R):TG g S T R:=
 ⟨h.inT,fun x hx=>by
  rcases h.done x hx with h3|h3|h3
  ·subst h3
   refine .inr fun z hz=>?_
   obtain⟨j,hj,e⟩:=aj2 hz
   exact h.seen j z hj (by rw[aaw hj,e])
  ·exact .inl h3
  ·exact .inr h3,h.root,h.least,h.rng⟩
end
def mq (st:List RV)(a:Int):List Int:=match st[a.toNat]? with|some t=>t.mods|none=>[]
structure BG (g:Int→List Int)(b:Int)(m:Int)(l:List Int)(i:Nat):Prop where
 first:b∈l
 rng:∀x∈l,0≤x∧x<m
 done:∀(j:Nat)(x:Int),j<i→(nub l)[j]? =some x→∀z∈g x,z∈l
 least:∀P:Int→Prop,P b→(∀x,P x→∀z∈g x,P z)→∀x∈l,P x
 len:l.length≤1+4000*i
 idx:i≤(nub l).length
theorem a4y (l r:List Int):∃q,nub (l++r)=nub l++q:=by
 rw[←List.reverse_reverse r]
 generalize r.reverse=s
 induction s with
 |nil=>exact⟨[],by simp⟩
 |cons x s ih=>
  obtain⟨q,hq⟩:=ih
  rw[ajv,←adS,axF,hq]
  split
  ·exact⟨q,rfl⟩
  ·exact⟨q++ [x],by rw[adS]⟩
theorem BG.start {g:Int→List Int}{b m:Int}(hb:0≤b∧b<m):BG g b m [b] 0:=
 ⟨by simp,fun x hx=>by rw[aaW]at hx;subst hx;exact hb,fun j x hj=>absurd hj (amn _),fun P h _ x hx=>by rw[aaW]at hx;subst hx;exact h,by simp,ab6 _⟩
theorem BG.step {g:Int→List Int}{b m x:Int}{l:List Int}{i:Nat}(h:BG g b m l i)(hx:(nub l)[i]? =some x)(hg:∀z∈g x,0≤z∧z<m)(hl:(g x).length≤4000):BG g b m (l++g x) (i+1):=by
 have hxl:x∈l:=((aoD l).1 x).1 (aaH hx)
 obtain⟨q,hq⟩:=a4y l (g x)
 have hil:=(aaq.1 hx).1
 refine⟨aaG.2 (.inl h.first),fun y hy=>?_,fun j y hj hy z hz=>?_,fun P h1 h2 y hy=>?_,?_,by rw[hq,aa1];omega⟩
 ·rcases aaG.1 hy with hy|hy
  ·exact h.rng y hy
  ·exact hg y hy
 ·rw[hq,aby (by omega)]at hy
  by_cases e:j=i
  ·subst e
   rw[hx]at hy
   injection hy with hy
   subst hy
   exact aaG.2 (.inr hz)
  ·exact aaG.2 (.inl (h.done j y (by omega) hy z hz))
 ·rcases aaG.1 hy with hy|hy
  ·exact h.least P h1 h2 y hy
  ·exact h2 x (h.least P h1 h2 x hxl) y hy
 ·have:=h.len
  rw[aa1];omega
theorem BG.fin {g:Int→List Int}{b m:Int}{l:List Int}{i:Nat}(h:BG g b m l i)(hi:(nub l).length≤i):RG g [b] (nub l):=by
 have hm:=(aoD l).1
 refine⟨fun z hz=>?_,fun x hx z hz=>?_,fun P h1 h2 x hx=>h.least P (h1 b (by simp)) h2 x ((hm x).1 hx)⟩
 ·rw[aaW]at hz
  subst hz
  exact(hm z).2 h.first
 ·obtain⟨j,hj⟩:=abM.1 hx
  have hjl:=(aaq.1 hj).1
  exact(hm z).2 (h.done j x (by omega) hj z hz)
theorem BG.few {g:Int→List Int}{b:Int}{m:Nat}{l:List Int}{i:Nat}(h:BG g b m l i):(nub l).length≤m:=by
 have:=(aoD l).2.1.length_le_of_subset (l₂:=(List.range m).map Int.ofNat) (fun z hz=>by
  obtain⟨h4,h5⟩:=h.rng z (((aoD l).1 z).1 hz)
  refine aaZ.2 ⟨z.toNat,?_,?_⟩
  ·rw[afO];omega
  ·simp;omega)
 simpa using this
theorem a4A {st:List RV}(h:ahr st.length (agj st)=true)(x:Int):∀z∈mq st x,0≤z∧z<st.length:=by
 intro z hz
 unfold mq at hz
 split at hz
 ·rename_i t ht
  exact apH.1 h z (aKe.2 ⟨t,aaH ht,hz⟩)
 ·simp at hz
section
variable {evs:List Ev}{f:St}{fr:List Int}{met:List (Int×Int)}{seen:Nat→Nat}
theorem Spr.rg (h:Spr evs f fr none none met [] seen):RG (sq evs f) fr (met.map (·.1)):=by
 have hm:∀z,z∈met.map (·.1)↔Met met z:=fun z=>by simp[Met]
 refine⟨fun z hz=>(hm z).2 (h.root z hz),fun u hu z hz=>(hm z).2 ?_,fun P h1 h2 u hu=>?_⟩
 ·rcases h.done u ((hm u).1 hu)with h1|h1|h1
  ·cases h1
  ·simp at h1
  ·exact h1 z hz
 ·obtain⟨⟨z,y⟩,hp,rfl⟩:=aaZ.1 hu
  obtain⟨i,hi⟩:=abM.1 hp
  have key:∀(n i:Nat)(z y:Int),i<n→met[i]? =some (z,y)→P z:=by
   intro n
   induction n with
   |zero=>exact fun i _ _ hi=>absurd hi (amn _)
   |succ n ih=>
    intro i z y hi hz
    rcases h.par i z y hz with⟨h3,_⟩|⟨h3,j,u,hj,hu⟩
    ·exact h1 z h3
    ·exact h2 y (ih j y u (by omega) hu) z h3
  exact key (i+1) i z y (aeQ _) hi
theorem Spr.bHF (h:Spr evs f fr none none met [] seen)(hro:aeR evs=some f)(hd:(met.map (·.1)).Nodup):met.length≤fr.length+30000:=by
 have:=hd.length_le_of_subset (l₂:=fr++(List.range 30000).map Int.ofNat) (fun z hz=>by
  obtain⟨⟨z',y⟩,hp,rfl⟩:=aaZ.1 hz
  obtain⟨i,hi⟩:=abM.1 hp
  rcases h.par i _ _ hi with⟨h3,_⟩|⟨h3,_⟩
  ·exact aaG.2 (.inl h3)
  ·obtain⟨h4,h5⟩:=aFO hro _ _ h3
   refine aaG.2 (.inr (aaZ.2 ⟨z'.toNat,?_,?_⟩))
   ·rw[afO];omega
   ·simp;omega)
 simpa using this
end
def aQO (evs:List Ev)(f:St)(st:List RV)(b:Int)(o:List Int):Prop:=
 ∃Q R G,RG (mq st) [b] Q∧RG (sq evs f) Q R∧(∀x,x∈G↔x∈R∧x∉f.sps.map (·.addr))∧o=slots G
theorem aQO.same {evs:List Ev}{f:St}{st:List RV}{b:Int}{o o':List Int}(h:aQO evs f st b o)(h':aQO evs f st b o'):o=o':=by
 obtain⟨Q,R,G,h1,h2,h3,h4⟩:=h
 obtain⟨Q',R',G',h1',h2',h3',h4'⟩:=h'
 rw[h4,h4']
 refine aBW fun x=>?_
 rw[h3,h3',h2.same h2' (h1.same h1' fun _=>Iff.rfl) x]
structure GK (q:Int→Prop)(w3 W:World)(it bm since:Nat)(es:Array MapEntry)(seen:Array Nat)(out:List Int)(v:Value):Prop where
 kept:Keeps w3 W
 hit:W.heap[it]? =some (.mapIter (some bm) since seen since)
 row:W.ownsRow w3.heap.size 3 1 v out.length (ints out)
 len:out.length+(leftOf es seen).size≤es.size
 mem:∀z,z∈out↔q z∧∃e∈es.toList,seen.contains e.born=true∧e.key= .int .i64 z
section
variable {q:Int→Prop}{w3 W W1 W2:World}{it bm since:Nat}{es:Array MapEntry}{seen:Array Nat}{out:List Int}{v v':Value}{e:MapEntry}{z:Int}
theorem a4B (es:Array MapEntry)(seen:Array Nat):(leftOf es seen).size≤es.size:=by
 unfold leftOf;exact Array.size_filter_le
theorem GK.start:GK q w3 (w3.alloc (.mapIter (some bm) since #[] since)) w3.heap.size bm since es #[] [] (.slice none 0 0):=
 ⟨Keeps.alloc _ _,aaL _ _,acW _ _ _ _,by have:=a4B es #[];simpa using this,fun z=>by simp⟩
theorem pushed (hn:(es.toList.map (·.born)).Nodup)(he:e∈(leftOf es seen).toList)(hz:e.key= .int .i64 z)(z':Int):
 (∃e'∈es.toList,(seen.push e.born).contains e'.born=true∧e'.key= .int .i64 z')↔(∃e'∈es.toList,seen.contains e'.born=true∧e'.key= .int .i64 z')∨z'=z:=by
 obtain⟨he1,he2⟩:=mem_left he
 constructor
 ·rintro⟨e',h3,h4,h5⟩
  rw[contains_push,afU]at h4
  rcases h4 with h4|h4
  ·exact .inl ⟨e',h3,h4,h5⟩
  ·right
   have h6:e'.born=e.born:=by simpa using h4
   have h7:=find_born e es.toList hn he1
   have h8:=find_born e' es.toList hn h3
   rw[h6,h7]at h8
   injection h8 with h8
   rw[←h8,hz]at h5
   simpa using h5.symm
 ·rintro(⟨e',h3,h4,h5⟩|rfl)
  ·exact⟨e',h3,by rw[contains_push,h4];rfl,h5⟩
  ·exact⟨e,he1,by rw[contains_push,beq_self_eq_true,Bool.or_true],hz⟩
theorem GK.step {o:Obj}(h:GK q w3 W it bm since es seen out v)(hit3:w3.heap.size≤it)(hn:(es.toList.map (·.born)).Nodup)(he:e∈(leftOf es seen).toList)(hz:e.key= .int .i64 z)(hq:q z)
 (h1:W1.heap[it]? =some (.mapIter (some bm) since (seen.push e.born) since)) (hk:Kept (fun b=>b=it) W W1) (hg:(W1.alloc o).grownBy W2 v.ownBlock) (hr:W2.ownsRow w3.heap.size 3 1 v' (out.length+1) (ints out++ [.int .i64 z])):
 GK q w3 W2 it bm since es (seen.push e.born) (out++ [z]) v':=by
 have hne:v.ownBlock≠some it:=by
  intro e8
  obtain⟨cur,hc⟩:=row_block h.row e8
  rw[h.hit]at hc
  simp at hc
 have hk2:Kept (fun b=>v.ownBlock=some b) W1 W2:=((Kept.refl _ W1).alloc o).grown hg (fun b hb _=>hb)
 refine⟨Kept.trans (Kept.trans h.kept hk (fun b hb e8=>by omega)) hk2 (fun b hb e8=>by have:=(h.row.lt b e8).1;omega),hk2.at h1 hne,?_,?_,fun z'=>?_⟩
 ·have e1:(out++ [z]).length=out.length+1:=by simp
  have e2:ints (out++ [z])=ints out++ [.int .i64 z]:=by simp[ints]
  rw[e1,e2];exact hr
 ·have:=left_shrinks es seen e he
  have:=h.len
  simp only[aa1,ad5]
  omega
 ·rw[aaG,aaW,h.mem,pushed hn he hz]
  constructor
  ·rintro(⟨h3,h4⟩|rfl)
   ·exact⟨h3,.inl h4⟩
   ·exact⟨hq,.inr rfl⟩
  ·rintro⟨h3,h4|h4⟩
   ·exact .inl ⟨h3,h4⟩
   ·exact .inr h4
theorem GK.skip (h:GK q w3 W it bm since es seen out v)(hit3:w3.heap.size≤it)(hn:(es.toList.map (·.born)).Nodup)(he:e∈(leftOf es seen).toList)(hz:e.key= .int .i64 z)(hq:¬q z)
 (h1:W1.heap[it]? =some (.mapIter (some bm) since (seen.push e.born) since)) (hk:Kept (fun b=>b=it) W W1):
 GK q w3 W1 it bm since es (seen.push e.born) out v:=by
 refine⟨Kept.trans h.kept hk (fun b hb e8=>by omega),h1,ac5 h.row fun g hg=>hk.block g (h.row.lt g hg).2 fun e8=>?_,?_,fun z'=>?_⟩
 ·obtain⟨cur,hc⟩:=row_block h.row hg
  rw[e8,h.hit]at hc
  simp at hc
 ·have:=left_shrinks es seen e he
  have:=h.len
  omega
 ·rw[h.mem,pushed hn he hz]
  constructor
  ·rintro⟨h3,h4⟩
   exact⟨h3,.inl h4⟩
  ·rintro⟨h3,h4|h4⟩
   ·exact⟨h3,h4⟩
   ·exact absurd (h4▸h3) hq
theorem GK.all (h:GK q w3 W it bm since es seen out v)(h0:(leftOf es seen).size=0){met:List (Int×Int)}(hm:es.toList.map (fun e=>(e.key,e.val))=met.map (fun p=>(kI p.1,Value.int .i64 p.2))):
 ∀z,z∈out↔z∈met.map (·.1)∧q z:=by
 intro z
 rw[h.mem]
 have hall:∀e∈es.toList,seen.contains e.born=true:=by
  intro e he
  cases hc:seen.contains e.born with
  |true=>rfl
  |false=>
   have:e∈leftOf es seen:=by
    unfold leftOf
    rw[Array.mem_filter]
    exact⟨Array.mem_toList_iff.1 he,by rw[hc];rfl⟩
   have h2:=Array.size_pos_of_mem this
   omega
 constructor
 ·rintro⟨hq,e,he,_,hz⟩
  have h1:(e.key,e.val)∈met.map (fun p=>(kI p.1,Value.int .i64 p.2)):=hm▸aaZ.2 ⟨e,he,rfl⟩
  obtain⟨p,hp,e1⟩:=aaZ.1 h1
  injection e1 with e1 _
  rw[hz]at e1
  exact⟨aaZ.2 ⟨p,hp,by simpa using e1⟩,hq⟩
 ·rintro⟨hz,hq⟩
  obtain⟨p,hp,rfl⟩:=aaZ.1 hz
  have h1:(kI p.1,Value.int .i64 p.2)∈es.toList.map (fun e=>(e.key,e.val)):=hm▸aaZ.2 ⟨p,hp,rfl⟩
  obtain⟨e,he,e1⟩:=aaZ.1 h1
  injection e1 with e1 _
  exact⟨hq,e,he,hall e he,e1⟩
end
theorem aU2 {m:List (Int×Nat)}{z:Int}(h:z∉m.map (·.1)):amC m z=none:=by
 unfold amC
 rw[agm.2]
 ·rfl
 ·intro p hp hk
  exact h (aaZ.2 ⟨p,hp,by simpa using hk⟩)
theorem aU5 {m:List (Int×Nat)}{z:Int}(h:z∈m.map (·.1)):∃a,amC m z=some a:=by
 unfold amC
 cases hf:m.find? (fun p=>p.1==z)with
 |some q=>exact⟨_,rfl⟩
 |none=>
  obtain⟨p,hp,he⟩:=aaZ.1 h
  exact absurd (by simp[he]) (agm.1 hf p hp)
def amy (st:List RV)(l:List NP)(y:Int)(o:List Int)(er:Int):Prop:=match aeR ((flat l).map ET.ev)with
 |none=>o= []∧er=121
 |some f=>(ag3 okR st l=false∧o= []∧er=121)∨(ag3 okR st l=true∧((¬(0≤y∧y<l.length)∧o= []∧er=3)∨(∃mod r kids,l[y.toNat]? =some (.mk mod r kids)∧0≤y∧aQO ((flat l).map ET.ev) f st r.addr o∧er=0)))
theorem amy.same {st:List RV}{l:List NP}{y:Int}{o o':List Int}{er er':Int}(h:amy st l y o er)(h':amy st l y o' er'):o=o'∧er=er':=by
 unfold amy at h h'
 cases hro:aeR ((flat l).map ET.ev)with
 |none=>
  rw[hro]at h h'
  exact⟨h.1.trans h'.1.symm,h.2.trans h'.2.symm⟩
 |some f=>
  rw[hro]at h h'
  have hlt:∀{mod:Bool}{r:NR}{kids:List NP},l[y.toNat]? =some (.mk mod r kids)→0≤y→0≤y∧y<l.length:=fun hj h0=>by
   have:=(aaq.1 hj).1
   omega
  rcases h with⟨h1,h2,h3⟩|⟨h1,h2⟩
  ·rcases h' with⟨_,k2,k3⟩|⟨k1,_⟩
   ·exact⟨h2.trans k2.symm,h3.trans k3.symm⟩
   ·rw[h1]at k1;cases k1
  ·rcases h' with⟨k1,_⟩|⟨_,k2⟩
   ·rw[h1]at k1;cases k1
   ·rcases h2 with⟨h3,h4,h5⟩|⟨mod,r,kids,h3,h4,h5,h6⟩
    ·rcases k2 with⟨_,k4,k5⟩|⟨mod',r',bxF,k3,k4,_⟩
     ·exact⟨h4.trans k4.symm,h5.trans k5.symm⟩
     ·exact absurd (hlt k3 k4) h3
    ·rcases k2 with⟨k3,_⟩|⟨mod',r',bxF,k3,k4,k5,k6⟩
     ·exact absurd (hlt h3 h4) k3
     ·rw[h3]at k3
      injection k3 with k3
      injection k3 with _ k3 _
      subst k3
      exact⟨h5.same k5,h6.trans k6.symm⟩
theorem asX {w0 W W':World}{rb sb m:Nat}{s:Array Value}{l:List Int}{b:Nat}{c:Array Value}{t:TypeId}(h:aqp w0 rb sb s m W l)(hk:Kept (fun b=>b=rb) W W')(hb:W.heap[b]? =some (.cells c t (0,0)))(ht:t≠4):W'.heap[b]? =some (.cells c t (0,0)):=
 hk.at hb fun e=>by
  have h1:=h.hrb
  rw[←e,hb]at h1
  simp at h1
  exact ht h1.2
theorem a4C (e:Nat)(w0:World)(A:Nat→Prop)(rb sb cb fb:Nat)(ps pl pi pr:Option Addr)(ns cs nl cl ni ci nr cr:Nat)(steps:Int):∀(d:Nat)(l:List NP)(v:Value)(W:World)(acc:List Int),anK w0 A e d l v→aqp w0 rb sb #[.slice ps ns cs,.slice pl nl cl,.slice pi ni ci,.slice pr nr cr,.int .i64 steps] ns W acc→
 W.heap[cb]? =some (.cells #[.func (.func 91) #[] #[.pointer (some ⟨rb,0,none⟩),.pointer (some ⟨sb,0,none⟩)]] 89 (0,0))→W.heap[fb]? =some (.cells #[.func (.func 92) #[] #[.pointer (some ⟨cb,0,none⟩),.pointer (some ⟨fb,0,none⟩)]] 183 (0,0))→acc.length+ahq l≤3000000→
 Calls Tryz.prog 92 #[v,.pointer (some ⟨cb,0,none⟩),.pointer (some ⟨fb,0,none⟩)] W fun x w'=>x= .returned (.tuple #[])∧aqp w0 rb sb #[.slice ps ns cs,.slice pl nl cl,.slice pi ni ci,.slice pr nr cr,.int .i64 steps] ns w' (acc++agV l)∧Kept (fun b=>b=rb) W w':=by
 intro d
 induction d with
 |zero=>
  intro l v W acc h hN hcb hfb hsz
  obtain⟨rfl,p,c,rfl⟩:=h
  have HN:=aag hN
  clear hN hcb hfb
  go_enter Tryz.func92,Tryz.ntmps92
  go_wp2_with fail
  go_loopw [10] (fun q W'=>q= .int .i64 0∧W'=W) (fun _ _=>0)
  case atStart=>exact⟨rfl,rfl⟩
  case round=>
   obtain⟨rfl,rfl⟩:=hrel
   go_wp2_with fail
   go_end0
   exact⟨rfl,by simpa[agV]using HN.out,Kept.refl _ _⟩
 |succ d ih=>
  intro l v W acc h hN hcb hfb hsz
  have IH:=aag ih
  have H:=aag h
  have HN0:=aag hN
  have HCb:=aag (fun(W':World)(hk:Kept (fun b=>b=rb) W W')=>asX hN hk hcb (by decide))
  have HFb:=aag (fun(W':World)(hk:Kept (fun b=>b=rb) W W')=>asX hN hk hfb (by decide))
  have HSz:=aag hsz
  have HC:=aag (aQG w0 rb sb ps pl pi pr ns cs nl cl ni ci nr cr steps)
  obtain⟨p,c,rfl⟩:=h.form
  obtain⟨n,hn⟩ :∃n,n=l.length:=⟨_,rfl⟩
  rw[←hn]
  rw[←hn]at H
  have hnn:n≤3000000:=by
   have:=aAp l
   omega
  have HNl:=aag hn
  clear ih h hN hcb hfb hsz hn
  go_enter Tryz.func92,Tryz.ntmps92
  go_wp2_with fail
  go_loopw [10] (fun q W'=>∃i:Nat,i≤n∧q= .int .i64 i∧aqp w0 rb sb #[.slice ps ns cs,.slice pl nl cl,.slice pi ni ci,.slice pr nr cr,.int .i64 steps] ns W' (acc++agV (l.take i))∧Kept (fun b=>b=rb) W W') (fun q _=>n - (intOf q).toNat)
  case atStart=>exact⟨0,ab6 _,rfl,by simpa[agV]using HN0.out,Kept.refl _ _⟩
  case round=>
   obtain⟨i,hi,rfl,hN,hkw⟩:=hrel
   have HKw:=aag hkw
   have k7:(0:Int)≤i:=by omega
   by_cases hil:i<n
   ·obtain⟨nd,hu⟩ :∃nd,l[i]? =some nd:=⟨_,aaw (by rw[←HNl.out];exact hil)⟩
    obtain⟨mod,r,kids⟩:=nd
    have k6:(i:Int)<n:=by omega
    obtain⟨d',g,o,pk,ck,hd,rfl,hg,hc,hta,hts,htw,hkids⟩:=H.out.node hu
    obtain rfl:d'=d:=by omega
    have hkn:=hN.kept
    have x0:=aaF hkn (hc 0 _ rfl)
    have x1:=aaF hkn (hc 1 _ rfl)
    have x2:=aaF hkn (hc 2 _ rfl)
    have x3:=aaF hkn (hc 3 _ rfl)
    have x4:=aaF hkn (hc 4 _ rfl)
    have x5:=aaF hkn (hc 5 _ rfl)
    have x6:=aaF hkn (hc 6 _ rfl)
    have x7:=aaF hkn (hc 7 _ rfl)
    have x8:=aaF hkn (hc 8 _ rfl)
    have x9:=aaF hkn (hc 9 _ rfl)
    have x10:=aaF hkn (hc 10 _ rfl)
    have x11:=aaF hkn (hc 11 _ rfl)
    have x12:=aaF hkn (hc 12 _ rfl)
    simp only[adK]at x0
    have hbd:(acc++agV (l.take i)).length+(1+r.seen.size+r.wrote.size+sizes r.args+ahq kids)≤3000000:=by
     have h1:=aAn (l.take i)
     have h2:=aUQ hu
     have h3:=HSz.out
     rw[aa1]
     omega
    have htk:=awn hu
    generalize hai:acc++agV (l.take i)=ai at hN hbd
    have c0:=cell_of_block (HCb.out _ hkw) 0
    simp at c0
    have lc0:=acO (HCb.out _ hkw)
    obtain⟨Wb,hWb⟩ :∃Wb,Wb=wr.alloc (.cells #[.bool mod,.int .i64 r.site,.int .i64 r.addr,.slice r.pa r.na r.ca,.int .i64 r.sk,.int .i64 r.sm,.string r.ss,.slice r.sp r.sn r.sc,.int .i64 r.wk,.int .i64 r.wm,.string r.ws,.slice r.wp r.wn r.wc,.slice pk kids.length ck] 91):=⟨_,rfl⟩
    have hkb:Keeps wr Wb:=by rw[hWb];exact Keeps.alloc _ _
    have hbx:Wb.heap[wr.heap.size]? =some (.cells #[.bool mod,.int .i64 r.site,.int .i64 r.addr,.slice r.pa r.na r.ca,.int .i64 r.sk,.int .i64 r.sm,.string r.ss,.slice r.sp r.sn r.sc,.int .i64 r.wk,.int .i64 r.wm,.string r.ws,.slice r.wp r.wn r.wc,.slice pk kids.length ck] 91 (0,0)):=by rw[hWb];exact aaL _ _
    have hNb:=hN.keeps hkb
    have bxH:=aag (aXD r.addr hNb)
    have HBx:=aag (fun(W':World)(hk:Kept (fun b=>b=rb) Wb W')=>asX hNb hk hbx (by decide))
    have a4D:=aag (fun(W':World)(hk:Kept (fun b=>b=rb) Wb W')=>HCb.out W' (Kept.trans hkw (Kept.trans (hkb.mono fun _ _ x=>x.elim) hk fun _ _ x=>x) fun _ _ x=>x))
    have bxI:=aag (fun(W':World)(hk:Kept (fun b=>b=rb) Wb W')=>HFb.out W' (Kept.trans hkw (Kept.trans (hkb.mono fun _ _ x=>x.elim) hk fun _ _ x=>x) fun _ _ x=>x))
    have HKb:=aag (Kept.trans hkw (hkb.mono (T:=fun b=>b=rb) fun _ _ x=>x.elim) fun _ _ x=>x)
    have HWb:=aag hWb
    have HU:=aag hu
    have HTs:=aag hts
    have HTw:=aag htw
    have HTa:=aag hta
    have aw5:=aag hkids
    have HBd:=aag hbd
    have HTk:=aag htk
    have HAi:=aag hai
    clear hd hg hc hta hts htw hkids hu hkn hbd htk hai hN hNb hkw hkb hbx hWb
    go_wp2_with (go_at_call 91;refine holdT ?_)
    rw[←HWb.out]
    refine aag ?_
    refine bxH.out.mono ?_
    rintro _ w2 ⟨rfl,hn2,hk2⟩
    clear x0 x1 x2 x3 x4 x5 x6 x7 x8 x9 x10 x11 x12 c0 lc0
    have hb2:=HBx.out _ hk2
    have y4:=cell_of_block hb2 4
    have y5:=cell_of_block hb2 5
    have y6:=cell_of_block hb2 6
    have y7:=cell_of_block hb2 7
    have c2:=cell_of_block (a4D.out _ hk2) 0
    simp at y4 y5 y6 y7 c2
    have HM:=aag (axD HC.out A (.inr rfl) e r.seen _ w2 _ HTs.out hn2 (by have:=HBd.out;rw[aa1];simp;omega))
    have HK2:=aag hk2
    clear hb2 hn2 hk2
    go_wp2_with (go_at_call 44;refine holdT ?_)
    refine aag ?_
    refine HM.out.mono ?_
    rintro _ w3 ⟨rfl,hn3,hk3⟩
    have HK3:=aag (Kept.trans HK2.out hk3 fun _ _ x=>x)
    clear y4 y5 y6 y7 c2 HM hk3
    have hb3:=HBx.out _ HK3.out
    have y8:=cell_of_block hb3 8
    have y9:=cell_of_block hb3 9
    have y10:=cell_of_block hb3 10
    have y11:=cell_of_block hb3 11
    have c3:=cell_of_block (a4D.out _ HK3.out) 0
    simp at y8 y9 y10 y11 c3
    have HM:=aag (axD HC.out A (.inr rfl) e r.wrote _ w3 _ HTw.out hn3 (by have:=HBd.out;have:=akz r.seen;simp only[aa1,ad5];omega))
    clear hb3 hn3
    go_wp2_with (go_at_call 44;refine holdT ?_)
    refine aag ?_
    refine HM.out.mono ?_
    rintro _ w4 ⟨rfl,hn4,hk4⟩
    have HK4:=aag (Kept.trans HK3.out hk4 fun _ _ x=>x)
    clear y8 y9 y10 y11 c3 HM hk4
    have z3:=cell_of_block (HBx.out _ HK4.out) 3
    simp at z3
    obtain⟨pa,ca,hpa,hla,h1a⟩:=HTa.out
    injection hpa with a4M a4O bm4
    have HNa:=aag a4O
    have bHM:r.na≤3000000:=by
     have:=HNa.out
     have:=HBd.out
     have:=aAl r.args
     omega
    have H1a:=aag h1a
    have HPa:=aag a4M
    have HN4:=aag hn4
    clear a4M a4O bm4 h1a hn4
    go_wp2_with fail
    go_loopw [29] (fun q W'=>∃j:Nat,j≤r.na∧q= .int .i64 j∧aqp w0 rb sb #[.slice ps ns cs,.slice pl nl cl,.slice pi ni ci,.slice pr nr cr,.int .i64 steps] ns W' (((ai++ [r.addr])++r.seen.mods)++r.wrote.mods++agj (r.args.take j))∧Kept (fun b=>b=rb) Wb W') (fun q _=>r.na - (intOf q).toNat)
    case atStart=>exact⟨0,ab6 _,rfl,by simpa[agj]using HN4.out,HK4.out⟩
    case round=>
     obtain⟨j,hj,rfl,hNj,hkj⟩:=hrel
     have j7:(0:Int)≤j:=by omega
     have HNj:=aag hNj
     have HKj:=aag hkj
     clear hNj hkj
     by_cases hjl:j<r.na
     ·have j6:(j:Int)<r.na:=by omega
      obtain⟨u,hu⟩ :∃u,r.args[j]? =some u:=⟨_,aaw (by rw[←HNa.out];exact hjl)⟩
      obtain⟨ga,oa,c1,hpe,hA,hc1,ht1⟩:=H1a.out j u hu
      have a0u:=HPa.out.trans hpe
      obtain⟨k1,m1,s1,p1,n1,d1,rfl⟩:=ht1.four
      have hkn:=HNj.out.kept
      have x0:=aaF hkn (hc1 0 _ rfl)
      have x1:=aaF hkn (hc1 1 _ rfl)
      have x2:=aaF hkn (hc1 2 _ rfl)
      have x3:=aaF hkn (hc1 3 _ rfl)
      simp only[adK]at x0
      have cj:=cell_of_block (a4D.out _ HKj.out) 0
      simp at cj
      have lcj:=acO (a4D.out _ HKj.out)
      have hus:(((ai++ [r.addr])++r.seen.mods)++r.wrote.mods++agj (r.args.take j)).length+u.size≤20000000:=by
       have h1:=apG (aaH hu)
       have h2:=HBd.out
       have h3:=akz r.seen
       have h4:=akz r.wrote
       have h5:=ajX (r.args.take j)
       have h6:=aoy r.args (j+1)
       have h7:=apR hu
       simp only[aa1,ad5]
       omega
      have HI:=aag (fun W' (hW:Keeps wr W')=>axD HC.out A (.inr rfl) e u _ W' _ ht1 (HC.out.keeps HNj.out hW) hus)
      have HUu:=aag hu
      have HPe:=aag a0u
      rw[a0u]
      clear hc1 hA ht1 hpe a0u hu hus hkn
      go_wp2_with (go_at_call 44;refine holdT ?_)
      refine aag ?_
      refine(HI.out _ (Keeps.alloc _ _)).mono ?_
      rintro _ w5 ⟨rfl,hn5,hk5⟩
      have HN5:=aag hn5
      have HK5:=aag (Kept.trans HKj.out (Kept.trans ((Keeps.alloc wr _).mono fun _ _ x=>x.elim) hk5 fun _ _ x=>x) fun _ _ x=>x)
      clear hn5 hk5 x0 x1 x2 x3 cj lcj
      go_wp2_with fail
      go_roundw
      case rel=>
       refine⟨j+1,by omega,by go_num,?_,HK5.out⟩
       rw[an9 HUu.out,←adS]
       exact HN5.out
      case measure=>simp[intOf]<;>omega
     ·obtain rfl:j=r.na:=by omega
      have j6:¬(r.na:Int)<r.na:=by omega
      have hnn:=HNj.out
      rw[HNa.out,ab1]at hnn
      have hbk:=HBx.out _ HKj.out
      have z12:=cell_of_block hbk 12
      have f3:=cell_of_block (bxI.out _ HKj.out) 0
      simp at z12 f3
      have hkl:(((ai++ [r.addr])++r.seen.mods)++r.wrote.mods++agj r.args).length+ahq kids≤3000000:=by
       have h2:=HBd.out
       have h3:=akz r.seen
       have h4:=akz r.wrote
       have h5:=ajX r.args
       simp only[aa1,ad5]
       omega
      have HI:=aag (IH.out kids _ wr _ aw5.out hnn (a4D.out _ HKj.out) (bxI.out _ HKj.out) hkl)
      clear hnn hbk hkl
      go_wp2_with (go_at_call 92;refine holdT ?_)
      refine aag ?_
      refine HI.out.mono ?_
      rintro _ w6 ⟨rfl,hn6,hk6⟩
      have HN6:=aag hn6
      have HK6:=aag (Kept.trans HKj.out hk6 fun _ _ x=>x)
      clear hn6 hk6 z12 f3
      go_wp2_with fail
      go_roundw
      case rel=>
       refine⟨i+1,by omega,by go_num,?_,Kept.trans HKb.out HK6.out fun _ _ x=>x⟩
       rw[HTk.out,←adS,HAi.out]
       have h9:=HN6.out
       simp only[adS,ai5,acJ,adt]at h9 ⊢
       exact h9
      case measure=>simp[intOf]<;>omega
   ·obtain rfl:i=n:=by omega
    have k6:¬(i:Int)<i:=by omega
    rw[HNl.out,ab1]at hN
    have HN:=aag hN
    clear hN hkw
    go_wp2_with fail
    go_end0
    exact⟨rfl,HN.out,HKw.out⟩
attribute [local go_sem] run_store_func
theorem bbD {st:List RV}{i:Nat}{u:RV}(h:st[i]? =some u)(hb:okR u=false):st.all okR=false:=by
 cases hx:st.all okR with
 |false=>rfl
 |true=>
  have:=acg.1 hx u (aaH h)
  rw[hb]at this;cases this
theorem a4Q {st:List RV}{i:Nat}{u:RV}(h:st[i]? =some u)(hb:okR u=true)(hi:(st.take i).all okR=true):(st.take (i+1)).all okR=true:=by
 obtain⟨h1,h2⟩:=aaq.1 h
 rw[abS h1,h2,List.all_append,hi]
 simp[hb]
theorem aU6 (e d:Nat)(w:World)(A:Nat→Prop)(s:SR)(st:List RV)(l:List NP)(hv:Vars w)(hst:am5 w A e (.slice s.ps s.ns s.cs) st)(hnp:anK w A e d l (.slice s.pr s.nr s.cr))(hsz:sizes st+ahq l≤2000000):
 Calls Tryz.prog 42 #[.agg s.cells] w fun x w'=>x= .returned (.bool (ag3 okR st l))∧Keeps w w':=by
 obtain⟨ps,ns,cs,pl,nl,cl,pi,ni,ci,pr,nr,cr,steps⟩:=s
 simp only[SR.cells]at*
 obtain⟨p0,c0,he,hla,h1⟩:=hst
 injection he with he1 he2 he3
 subst he1 he2 he3
 obtain⟨W0,hW0⟩ :∃W0,W0=(((w.alloc (.cells #[.slice ps st.length cs,.slice pl nl cl,.slice pi ni ci,.slice pr nr cr,.int .i64 steps] 34)).alloc (.cells #[.bool true] 4)).alloc (.cells #[.func (.func 91) #[] #[.pointer (some ⟨w.heap.size+1,0,none⟩),.pointer (some ⟨w.heap.size,0,none⟩)]] 89)):=⟨_,rfl⟩
 have g1:(w.alloc (.cells #[.slice ps st.length cs,.slice pl nl cl,.slice pi ni ci,.slice pr nr cr,.int .i64 steps] 34)).heap.size=w.heap.size+1:=aaS _ _
 have g2:((w.alloc (.cells #[.slice ps st.length cs,.slice pl nl cl,.slice pi ni ci,.slice pr nr cr,.int .i64 steps] 34)).alloc (.cells #[.bool true] 4)).heap.size=w.heap.size+1+1:=by rw[aaS,g1]
 have hk0:Keeps w W0:=by rw[hW0];exact Kept.alloc (Kept.alloc (Keeps.alloc _ _) _) _
 have hsb:W0.heap[w.heap.size]? =some (.cells #[.slice ps st.length cs,.slice pl nl cl,.slice pi ni ci,.slice pr nr cr,.int .i64 steps] 34 (0,0)):=by
  rw[hW0];exact heap_alloc_old _ (heap_alloc_old _ (aaL _ _))
 have hrb:W0.heap[w.heap.size+1]? =some (.cells #[.bool true] 4 (0,0)):=by
  have h9:=aaL (w.alloc (.cells #[.slice ps st.length cs,.slice pl nl cl,.slice pi ni ci,.slice pr nr cr,.int .i64 steps] 34)) (.cells #[.bool true] 4)
  rw[g1]at h9
  rw[hW0];exact heap_alloc_old _ h9
 have hcb:W0.heap[w.heap.size+1+1]? =some (.cells #[.func (.func 91) #[] #[.pointer (some ⟨w.heap.size+1,0,none⟩),.pointer (some ⟨w.heap.size,0,none⟩)]] 89 (0,0)):=by
  have h9:=aaL ((w.alloc (.cells #[.slice ps st.length cs,.slice pl nl cl,.slice pi ni ci,.slice pr nr cr,.int .i64 steps] 34)).alloc (.cells #[.bool true] 4)) (.cells #[.func (.func 91) #[] #[.pointer (some ⟨w.heap.size+1,0,none⟩),.pointer (some ⟨w.heap.size,0,none⟩)]] 89)
  rw[g2]at h9
  rw[hW0];exact h9
 have hN0:aqp w (w.heap.size+1) w.heap.size #[.slice ps st.length cs,.slice pl nl cl,.slice pi ni ci,.slice pr nr cr,.int .i64 steps] st.length W0 []:=⟨hk0,ab5 _,hrb,hsb⟩
 have HC:=aag (aQG w (w.heap.size+1) w.heap.size ps pl pi pr st.length cs nl cl ni ci nr cr steps)
 have HN0:=aag hN0
 have HCb:=aag hcb
 have HNp:=aag hnp
 have HSz:=aag hsz
 have H1:=aag h1
 have HV:=aag hv
 have HW0:=aag hW0
 have s0:=cell_of_block hsb 0
 simp at s0
 obtain⟨n,hn⟩ :∃n,n=st.length:=⟨_,rfl⟩
 have HNl:=aag hn
 have hn9:n≤2000000:=by
  have:=aAl st
  omega
 rw[←hn]at s0
 have HS0:=aag s0
 clear hk0 hsb hrb hcb hN0 hnp hsz h1 hv hW0 g1 g2 hla s0
 go_enter Tryz.func42,Tryz.ntmps42
 rw[←hn]
 rw[←hn]at HW0 HN0 HC
 clear hn
 go_upto_region 3 with fail
 rw[←HW0.out]
 have s0:=HS0.out
 go_wp2_with fail
 go_loopw [12] (fun q W=>∃i:Nat,i≤n∧q= .int .i64 i∧aqp w (w.heap.size+1) w.heap.size #[.slice ps n cs,.slice pl nl cl,.slice pi ni ci,.slice pr nr cr,.int .i64 steps] n W (agj (st.take i))∧Kept (fun b=>b=w.heap.size+1) W0 W∧(st.take i).all okR=true) (fun q _=>n - (intOf q).toNat)
 case atStart=>exact⟨0,ab6 _,rfl,by simpa[agj]using HN0.out,Kept.refl _ _,by simp⟩
 case round=>
  obtain⟨i,hi,rfl,hN,hkw,hok⟩:=hrel
  have HN:=aag hN
  have HKw:=aag hkw
  have HOk:=aag hok
  have k7:(0:Int)≤i:=by omega
  have bm6:=asX HN0.out hkw HCb.out (by decide)
  have c0:=cell_of_block bm6 0
  have lc0:=acO bm6
  simp at c0
  clear hN hkw hok bm6 s0
  by_cases hil:i<n
  ·have k6:(i:Int)<n:=by omega
   obtain⟨u,hu⟩ :∃u,st[i]? =some u:=⟨_,aaw (by rw[←HNl.out];exact hil)⟩
   obtain⟨g,o,c1,rfl,hA,hc1,ht1⟩:=H1.out i u hu
   obtain⟨k1,m1,s1,p1,n1,d1,rfl⟩:=ht1.four
   have hkn:=HN.out.kept
   have x0:=aaF hkn (hc1 0 _ rfl)
   have x1:=aaF hkn (hc1 1 _ rfl)
   have x2:=aaF hkn (hc1 2 _ rfl)
   have x3:=aaF hkn (hc1 3 _ rfl)
   simp only[adK]at x0
   have hus:(agj (st.take i)).length+u.size≤20000000:=by
    have h5:=ajX (st.take i)
    have h6:=aoy st (i+1)
    have h7:=apR hu
    have:=HSz.out
    omega
   have HCk:=aag (fun W' (hW:Keeps wr W')=>a4l e W' A u _ (HV.out.keep (Keeps.trans hkn hW)) (ht1.keep (agr (Keeps.trans hkn hW))))
   have HI:=aag (fun W' (hW:Keeps wr W')=>axD HC.out A (.inr rfl) e u _ W' _ ht1 (HN.out.keeps hW) hus)
   have HU:=aag hu
   have HB:=aag (aaL wr (.cells #[.int .i64 k1,.int .i64 m1,.string s1,.slice p1 n1 d1] 24))
   have HKb:=aag (Keeps.alloc wr (.cells #[.int .i64 k1,.int .i64 m1,.string s1,.slice p1 n1 d1] 24))
   clear hc1 hA ht1 hu hus hkn
   go_wp2_with (go_at_call 6;refine holdL ?_)
   refine aag ?_
   refine(HCk.out _ HKb.out).mono ?_
   rintro _ w2 ⟨rfl,hk2⟩
   have hb2:=hk2.at HB.out (fun x=>x)
   have y0:=cell_of_block hb2 0
   have y1:=cell_of_block hb2 1
   have y2:=cell_of_block hb2 2
   have y3:=cell_of_block hb2 3
   have e0:=aaF (Keeps.trans HKb.out hk2) c0
   simp at y0 y1 y2 y3
   have HK2:=aag (Keeps.trans HKb.out hk2)
   clear x0 x1 x2 x3 c0 lc0 hk2 hb2
   cases hck:okR u
   ·rw[bep hck]
    have hbad:st.all okR=false:=bbD HU.out hck
    have hso:ag3 okR st l=false:=by unfold ag3;rw[hbad];rfl
    have HSo:=aag hso
    clear hck hbad hso
    go_wp2_with fail
    go_ret
    exact⟨by first|rfl|(rw[HSo.out];rfl),Keeps.trans HN.out.kept HK2.out⟩
   ·rw[bem hck]
    have HAs:=aag (a4Q HU.out hck HOk.out)
    clear hck
    go_wp2_with (go_at_call 44;refine holdL ?_)
    refine aag ?_
    refine(HI.out _ HK2.out).mono ?_
    rintro _ w3 ⟨rfl,hn3,hk3⟩
    have HN3:=aag hn3
    have HK3:=aag (Kept.trans HKw.out (Kept.trans (HK2.out.mono fun _ _ x=>x.elim) hk3 fun _ _ x=>x) fun _ _ x=>x)
    clear hn3 hk3 y0 y1 y2 y3 e0
    go_wp2_with fail
    go_roundw
    case rel=>
     refine⟨i+1,by omega,by go_num,?_,HK3.out,HAs.out⟩
     rw[an9 HU.out]
     exact HN3.out
    case measure=>simp[intOf]<;>omega
  ·obtain rfl:i=n:=by omega
   have k6:¬(i:Int)<i:=by omega
   have hall:=HOk.out
   have hnn:=HN.out
   rw[HNl.out,ab1]at hall hnn
   rw[←HNl.out]at hnn
   have s0:=cell_of_block hnn.hsb 3
   have ls0:=acO hnn.hsb
   simp at s0
   obtain⟨W1,hW1⟩ :∃W1,W1=wr.alloc (.cells #[.func (.func 92) #[] #[.pointer (some ⟨w.heap.size+1+1,0,none⟩),.pointer (some ⟨wr.heap.size,0,none⟩)]] 183):=⟨_,rfl⟩
   have hk1:Keeps wr W1:=by rw[hW1];exact Keeps.alloc _ _
   have hfb:W1.heap[wr.heap.size]? =some (.cells #[.func (.func 92) #[] #[.pointer (some ⟨w.heap.size+1+1,0,none⟩),.pointer (some ⟨wr.heap.size,0,none⟩)]] 183 (0,0)):=by rw[hW1];exact aaL _ _
   have bxK:=hk1.at (asX HN0.out HKw.out HCb.out (by decide)) (fun x=>x)
   have HI:=aag (a4C e w A (w.heap.size+1) w.heap.size (w.heap.size+1+1) wr.heap.size ps pl pi pr _ cs nl cl ni ci nr cr steps d l _ W1 (agj st) HNp.out (hnn.keeps hk1) bxK hfb (by
    have h5:=ajX st
    have:=HSz.out
    omega))
   have a4v:=aag hall
   have HK1:=aag hk1
   have HW1:=aag hW1
   clear hall hnn hk1 hfb bxK hW1 c0 lc0
   go_upto_region 12 with fail
   rw[←HW1.out]
   have s1:=aaF HK1.out s0
   have f1:W1.cell? ⟨wr.heap.size,0,none⟩=some (.func (.func 92) #[] #[.pointer (some ⟨w.heap.size+1+1,0,none⟩),.pointer (some ⟨wr.heap.size,0,none⟩)]):=by
    rw[HW1.out]
    have h9:=cell_of_block (aaL wr (.cells #[.func (.func 92) #[] #[.pointer (some ⟨w.heap.size+1+1,0,none⟩),.pointer (some ⟨wr.heap.size,0,none⟩)]] 183)) 0
    simp
   clear s0 ls0
   go_wp2_with (go_at_call 92;refine holdL ?_)
   refine aag ?_
   refine HI.out.mono ?_
   rintro _ w6 ⟨rfl,hn6,hk6⟩
   have r0:=cell_of_block hn6.hrb 0
   simp at r0
   have HK6:=aag hn6.kept
   have hso:ag3 okR st l=ahr i (agj st++agV l):=by unfold ag3;rw[a4v.out,HNl.out];rfl
   have HSo:=aag hso
   clear hn6 hk6 hso f1 s1
   go_wp2_with fail
   go_ret
   exact⟨by first|rfl|(rw[HSo.out];rfl),HK6.out⟩
end Go.Proofs.YtfehlbepjmmkeaaGreatDoor
