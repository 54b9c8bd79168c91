/-
  DERIVED. The scanner as a whole: what it makes of a short text. Condition: the variables of the library are laid.
-/
import Derived.Test.YtfehlbepjmmkeaaGreatDoorJai
namespace Go.Proofs.YtfehlbepjmmkeaaGreatDoor
set_option maxHeartbeats 16000000
set_option maxRecDepth 100000
set_option linter.unusedSimpArgs false
set_option linter.unusedVariables false
open Go.RowKit Go.Shelf
attribute [local go_sem] ahs
def bw7 (F:Act)(W:World):Exit→Act→World→Prop
 | .normal,a,w=>a=F∧w=W
 |_,_,_=>False
theorem aUO (s:ByteArray)(w:World)(hv:Vars w)(hs:s.size≤24):
 Calls Tryz.prog 99 #[.string s] w fun e w'=>(∃(p:Value)(lv:Value)(a k:Int),e= .returned (.tuple #[p,lv,.agg #[.int .i64 a,.int .i64 k]])∧
  ((k≠0∧¬Good s)∨(k=0∧∃T,aEg s T s.size∧w'.ownsRow w.heap.size 213 4 lv T.length (amM T))))∧Keeps w w':=by
 have hmf:∀(fn:Fn)(first cap:Array Value)(w:World),(Instr.makeFunc fn first cap).run Tryz.prog w= .ok (.func fn first cap) w:=fun _ _ _ _=>rfl
 have h8:=hv.blk
 have HV:=aag hv
 obtain⟨W0,hW0⟩ :∃W0,W0=(w.alloc (.cells #[.slice none 0 0] 111)).alloc (.cells #[.int .i64 0,.int .i64 0] 193):=⟨_,rfl⟩
 have hK0:Keeps w W0:=by rw[hW0];exact Kept.alloc (Keeps.alloc _ _) _
 have hz0:W0.heap.size=w.heap.size+2:=by rw[hW0];simp
 have h3:W0.heap[w.heap.size]? =some (.cells #[.slice none 0 0] 111 (0,0)):=by rw[hW0];exact heap_alloc_old _ (aaL _ _)
 have h4:W0.heap[w.heap.size+1]? =some (.cells #[.int .i64 0,.int .i64 0] 193 (0,0)):=by
  rw[hW0]
  have:=aaL (w.alloc (.cells #[.slice none 0 0] 111)) (.cells #[.int .i64 0,.int .i64 0] 193)
  rw[aaS]at this
  exact this
 clear hv
 refine(callsIn_wide (n:=0)).1 ?_
 refine callsIn_of_wp_marks Tryz.func99 rfl trivial ?_ rfl
 simp only[Tryz.ntmps99,ajx,abJ,aeM,Nat.reduceAdd,Nat.reduceSub,ajE,ajI,akY,aj1,adt,acJ]
 refine wpIn_wide.2 ?_
 go_wp2_with (go_at_call 147;refine holdL ?_)
 refine aag ?_
 rw[←hW0]
 refine(aIw s W0).mono ?_
 rintro _ w2 ⟨sb,M,rfl,hsc,hwd,hM1,hM2,hk2⟩
 go_wp2_with (go_at_call 149;refine holdL ?_)
 refine aag ?_
 refine(a0a sb w2).mono ?_
 rintro _ w3 ⟨rfl,hw3⟩
 have hk3:Keeps w2 w3:=by rw[hw3];exact Keeps.alloc _ _
 have htb:w3.heap[w2.heap.size]? =some (.cells #[.pointer (some ⟨sb,0,none⟩)] 191 (0,0)):=by rw[hw3];exact aaL _ _
 have hz3:w3.heap.size=w2.heap.size+1:=by rw[hw3];simp
 clear hw3 hW0
 obtain⟨b,hb⟩ :∃b:SB,b=⟨W0.heap.size,w.heap.size,w.heap.size+1,sb,M,w2.heap.size⟩:=⟨_,rfl⟩
 have hJ:SJ w b s 0 0 w3:=by
  rw[hb]
  exact⟨hsc.keep hk3,hwd.keep hk3 (fun x=>x),HV.out.keep (Keeps.trans hK0 (Keeps.trans hk2 hk3)),htb,(Keeps.trans hk2 hk3).at h4 (fun x=>x),
   ⟨.slice none 0 0,[],(Keeps.trans hk2 hk3).at h3 (fun x=>x),acW _ _ _ _,aEg.nil s 0 (ab6 _) (fun _=>rfl),aai _⟩,Keeps.trans hK0 (Keeps.trans hk2 hk3)⟩
 go_wp2_with fail
 refine(wpIn_wide (n:=0)).1 ?_
 have hB:w.heap.size≤b.B:=by rw[hb];show w.heap.size≤W0.heap.size;omega
 have hMb:b.M<w3.heap.size:=by rw[hb];show M<w3.heap.size;omega
 have hwz:w.heap.size≤w3.heap.size:=hJ.keeps.size
 have hsb:b.sb=sb:=by rw[hb]
 have hMM:b.M=M:=by rw[hb]
 have bHr:b.tb=w2.heap.size:=by rw[hb]
 have hb3:b.b3=w.heap.size:=by rw[hb]
 have hb4:b.b4=w.heap.size+1:=by rw[hb]
 clear hsc hwd htb hb h3 h4 hk2 hk3
 refine aQr (ι:=Nat×Nat) (gf:=193) (lb:=#[.pointer (some ⟨w2.heap.size,0,none⟩)]) (by simp[go_sem]) (enters_of Tryz.func193 (by kernel_rfl) rfl)
  (fun x y z=>∃t n,x= #[.agg (Tk.cells t).toArray]∧aPR s y.1 t n∧y.1<s.size∧y.2=y.1+n∧z.1=y.2∧z.2=y.2)
  (fun x W=>SJ w b s x.1 x.2 W)
  (fun x y W W'=>ScK b.B W W'∧awk b.B b.sb b.M s y.2 W'∧(y.1=x.1∨(y.1=y.2∧x.2=x.1∧x.1≤y.1∧(Calm s x.1→y.1=x.1))))
  (fun x ch=>∃a k,ch= [arB a k]∧k≠0∧¬Calm s x.1) (0,0) ?hps ?hM ?hMk ?hJa ?hJp hJ (fun x=>x.1=s.size) ?hiter
  (fun x p=>{tmps:=#[.string s,undef,.pointer (some ⟨sb,0,none⟩),.pointer (some ⟨w.heap.size,0,none⟩),.pointer (some ⟨w.heap.size+1,0,none⟩),.pointer (some ⟨p,0,none⟩),.string s,.pointer (some ⟨sb,0,none⟩),
    .func (.func 148) #[] #[.pointer (some ⟨w.heap.size,0,none⟩),.pointer (some ⟨w.heap.size+1,0,none⟩)],.pointer (some ⟨sb,0,none⟩),.func (.func 193) #[] #[.pointer (some ⟨w2.heap.size,0,none⟩)],x.getD 0 undef,undef,undef,undef,undef,undef,undef,undef],defers:=[]})
  (fun x=> .cells (match x.getD 0 undef with| .agg cs=>cs|_=>#[]) 213 (0,0)) ?assign ?body ?done ?pan
 case hps=>
  rintro x i j ⟨t,n,rfl,_⟩
  rfl
 case hM=>
  rintro⟨p,i⟩ ⟨p',i'⟩ W W' hJ ⟨h1,h2,h3⟩
  exact hJ.move hB h8 h1 h2 h3
 case hMk=>
  rintro _ _ W W' _ ⟨h1,_⟩
  exact a4i h1
 case hJa=>exact fun _ W o h=>h.alloc o
 case hJp=>exact fun _ W x o o' h hx ho hc=>h.putObj o' (by omega) (by omega) ho hc h8
 case hiter=>
  intro l J' W hJJ h0' hl hW hM' hY
  have:=aUN (0 - 1) l w2.heap.size sb M 15 b.B s hs J' W 0 (fun x W' hx=>?_) (fun p i p' i' W' W'' h1 h2 h3 h4=>hM' (p,i) (p',i') W' W'' h1 ⟨h2,by rw[hsb,hMM];exact h3,h4⟩) h0'
   (fun p t n W1 h1 h2 h3=>hY _ (p,p+n) (p+n,p+n) W1 ⟨t,n,rfl,h1,h2,rfl,rfl,rfl⟩ h3)
  ·refine this.mono ?_
   rintro e W' ⟨x,hx,(⟨h1,h2⟩|⟨a,k,h1,h2,h3⟩)⟩
   ·exact⟨x,hx,.inl ⟨h1,h2⟩⟩
   ·exact⟨x,hx,.inr ⟨_,h1,a,k,rfl,h2,h3⟩⟩
  ·have h:=hJJ _ _ hx
   refine⟨?_,?_,h.vars,?_⟩
   ·have:=h.sc;rwa [hsb,hMM]at this
   ·have:=h.words;rwa [hMM]at this
   ·have:=h.tb;rwa [hsb,bHr]at this
 case assign=>
  rintro l i j x W K ⟨t,n,rfl,_⟩ hK
  simp only[Tk.cells]at hK ⊢
  gi_wp2
  exact hK
 case body=>
  rintro l ⟨p,i⟩ ⟨p',i'⟩ x q rec W ⟨t,n,rfl,ht,hp,hi,hp',hi'⟩ hq hl hrec hL hD hJ
  simp only at hi hp' hi' ht hp
  obtain rfl:p'=i:=hp'
  obtain rfl:i'=p':=hi'
  obtain⟨v,T,h1,h2,h3,h4⟩:=hJ.row
  have c3:W.cell? ⟨w.heap.size,0,none⟩=some v:=by rw[←hb3,cell_of_block h1];rfl
  have hq':W.heap[q]? =some (.cells #[.int .i64 t.kind,.int .i64 t.num,.string t.text,.int .i64 t.at_] 213 (0,0)):=hq
  have d0:=cell_of_block hq' 0
  have d1:=cell_of_block hq' 1
  have d2:=cell_of_block hq' 2
  have d3:=cell_of_block hq' 3
  simp at d0 d1 d2 d3
  obtain⟨bHu,hi3,hz3,hs3,hy3⟩:=info_parts bbk
  have bw9:=hJ.keeps.size
  have htl:=h3.le
  have HJ:=aag hJ
  have H1:=aag h1
  have H2:=aag h2
  have H3:=aag h3
  have HL:=aag hL
  have HD:=aag hD
  have ba0:=aag hrec
  have HT:=aag ht
  have HP:=aag hp
  have HI:=aag hi
  have H4:=aag h4
  have HB3:=aag hb3
  clear hJ h1 h2 h3 hL hD hrec hq hq' ht hi hp hb3
  simp only[Tk.cells]
  gi_wp2_with (gi_at_builtin;refine wpListIn_append_own _ rfl _ _ 111 rfl w.heap.size 213 bHu (.agg #[.int .i64 0,.int .i64 0,.string ⟨#[]⟩,.int .i64 0]) 4 40 a4g hi3 hz3 hs3 hy3 rfl (by decide) v T.length (amM T) rfl (H2.out.alloc _) ⟨W.heap.size,0,none⟩ 1 1 [.int .i64 t.kind,.int .i64 t.num,.string t.text,.int .i64 t.at_] rfl rfl (af2 (cs:=#[.int .i64 t.kind,.int .i64 t.num,.string t.text,.int .i64 t.at_]) (t:=213) (fr:=(0,0)) (aaL _ _)) (by simp[Value.oneCell']) (by unfold maxLen;omega) (by omega) (by simp;omega) ?_;intro v2 w9 hown2 hgrow2 hnil2;obtain⟨g2,cap2,rfl⟩:=aiI hown2;have hput:=SJ.push HJ.out h8 (Nat.le_of_eq HB3.out.symm) H1.out H2.out H3.out H4.out HT.out HP.out HI.out hown2 hgrow2;have cb:=cell_of_block hput.2.2 0;have fb:=abu hput.2.2 0;rw[HB3.out]at cb fb;simp at cb;have bHw:=aag hput;clear hput hown2 hgrow2 hnil2)
  obtain⟨p1,p2,p3⟩:=bHw.out
  rw[HB3.out]at p1 p2
  exact⟨p2.same _ _ (fun h=>h) HL.out rfl,by rw[ba0.out];exact p2.same _ _ (fun h=>h) HD.out rfl,p1⟩
 case done=>
  rintro⟨p,i⟩ D W hD hJ hp hK
  obtain⟨v,T,h1,h2,h3,h4⟩:=hJ.row
  obtain⟨pv,nv,cv,rfl⟩ :∃pv nv cv,v= .slice pv nv cv:=by
   rcases h2.2 with⟨e,_⟩|⟨g,cap,cur,e,_⟩
   ·exact⟨_,_,_,e⟩
   ·exact⟨_,_,_,e⟩
  rw[hb3]at h1
  have h5:=hJ.hb4
  rw[hb4]at h5
  have c3:=cell_of_block h1 0
  have f3:=abu h1 0
  have c4:=cell_of_block h5 0
  have c5:=cell_of_block h5 1
  have f4:=abu h5 0
  have f5:=abu h5 1
  simp at c3 c4 c5
  have hlt3:w.heap.size<D:=by omega
  have hlt4:w.heap.size+1<D:=by omega
  have a4k:w.heap.size≠w.heap.size+1:=by omega
  have HJ:=aag hJ
  have HK:=aag hK
  have H1:=aag h1
  have H5:=aag h5
  have H2:=aag h2
  have H3:=aag h3
  have HP:=aag (hp:p=s.size)
  clear hJ hK h1 h2 h3 h4 h5 hp hb3 hb4
  go_wp2_with fail
  refine Code.wp_mono (Q:=bw7 {tmps:=#[.string s,undef,.pointer (some ⟨sb,0,none⟩),.pointer (some ⟨w.heap.size,0,none⟩),.pointer (some ⟨w.heap.size+1,0,none⟩),undef,.string s,.pointer (some ⟨sb,0,none⟩),
   .func (.func 148) #[] #[.pointer (some ⟨w.heap.size,0,none⟩),.pointer (some ⟨w.heap.size+1,0,none⟩)],.pointer (some ⟨sb,0,none⟩),.func (.func 193) #[] #[.pointer (some ⟨w2.heap.size,0,none⟩)],undef,undef,undef,undef,undef,.pointer (some ⟨sb,0,none⟩),.slice pv nv cv,.agg #[.int .i64 0,.int .i64 0]],defers:=[{target:= .collected D,args:=#[]},{target:= .fn (.func 148) #[.pointer (some ⟨w.heap.size,0,none⟩),.pointer (some ⟨w.heap.size+1,0,none⟩)],args:=#[]}]} (((W.setCell ⟨w.heap.size,0,none⟩ (.slice pv nv cv)).setCell ⟨w.heap.size+1,0,none⟩ (.int .i64 0)).setCell ⟨w.heap.size+1,1,none⟩ (.int .i64 0)).drew) ?_ ?_
  ·rintro e a' w' he
   cases e with
   |normal=>
    obtain⟨rfl,rfl⟩:=he
    have g1:(((W.setCell ⟨w.heap.size,0,none⟩ (.slice pv nv cv)).setCell ⟨w.heap.size+1,0,none⟩ (.int .i64 0)).setCell ⟨w.heap.size+1,1,none⟩ (.int .i64 0)).heap[w.heap.size]? =some (.cells #[.slice pv nv cv] 111 (0,0)):=by
     rw[abw _ a4k,abw _ a4k,abV H1.out];rfl
    have g2:(((W.setCell ⟨w.heap.size,0,none⟩ (.slice pv nv cv)).setCell ⟨w.heap.size+1,0,none⟩ (.int .i64 0)).setCell ⟨w.heap.size+1,1,none⟩ (.int .i64 0)).heap[w.heap.size+1]? =some (.cells #[.int .i64 0,.int .i64 0] 193 (0,0)):=by
     rw[abV (abV ((abw _ (ahU a4k)).trans H5.out) _) _];rfl
    have g3:(((W.setCell ⟨w.heap.size,0,none⟩ (.slice pv nv cv)).setCell ⟨w.heap.size+1,0,none⟩ (.int .i64 0)).setCell ⟨w.heap.size+1,1,none⟩ (.int .i64 0)).heap[D]? =some (.deferred (some [])):=by
     rw[abw _ (by omega),abw _ (by omega),abw _ (by omega)];exact HK.out
    have g4:Keeps w (((W.setCell ⟨w.heap.size,0,none⟩ (.slice pv nv cv)).setCell ⟨w.heap.size+1,0,none⟩ (.int .i64 0)).setCell ⟨w.heap.size+1,1,none⟩ (.int .i64 0)):=
     aaB (aaB (aaB HJ.out.keeps (aai _) 0 _) (ab5 _) 0 _) (ab5 _) 1 _
    have g5:(((W.setCell ⟨w.heap.size,0,none⟩ (.slice pv nv cv)).setCell ⟨w.heap.size+1,0,none⟩ (.int .i64 0)).setCell ⟨w.heap.size+1,1,none⟩ (.int .i64 0)).ownsRow w.heap.size 213 4 (.slice pv nv cv) T.length (amM T):=ac5 H2.out (fun g hg=>by
     obtain⟨cur,hc⟩:=auF H2.out hg
     have n1:g≠w.heap.size:=fun e=>by rw[e,H1.out]at hc;simp at hc
     have n2:g≠w.heap.size+1:=fun e=>by rw[e,H5.out]at hc;simp at hc
     rw[abw _ n2,abw _ n2,abw _ n1])
    obtain⟨W8,hW8⟩ :∃W8,W8=(((W.setCell ⟨w.heap.size,0,none⟩ (.slice pv nv cv)).setCell ⟨w.heap.size+1,0,none⟩ (.int .i64 0)).setCell ⟨w.heap.size+1,1,none⟩ (.int .i64 0)):=⟨_,rfl⟩
    rw[←hW8]at g1 g2 g3 g4 g5
    rw[←hW8]
    clear hW8
    have G1:=aag g1
    have G2:=aag g2
    have G3:=aag g3
    have G4:=aag g4
    have G5:=aag g5
    clear g1 g2 g3 g4 g5 c3 c4 c5 f3 f4 f5
    go_wp2_with fail
    refine⟨by simp,.inl ⟨D,_,rfl,run_takeDeferred (w:=W8.drew) G3.out,?_⟩⟩
    refine⟨by simp,.inr ⟨fun h=>by simp[Fence.wide]at h,.func 148,_,148,#[.pointer (some ⟨w.heap.size,0,none⟩),.pointer (some ⟨w.heap.size+1,0,none⟩)],rfl,by simp[go_sem],fun _ _=>trivial,?_⟩⟩
    refine(catch_idle _ _ _ _).mono ?_
    rintro _ u' W9 ⟨⟨rv,rfl⟩,rfl,hk9⟩
    have hcc:∀{y:Nat}{c:Array Value}{t:TypeId}{fr:Nat×Nat},W8.heap[y]? =some (.cells c t fr)→W9.heap[y]? =some (.cells c t fr):=fun {y c t fr} hy=>by
     refine hk9.at ?_ (fun x=>x)
     rw[abB (fun e=>by have:=G3.out;rw[←e,hy]at this;cases this)]
     exact hy
    refine⟨_,avx rfl _ _ _ _ _ _ _ _ rfl rfl rfl (hcc G1.out) (hcc G2.out),⟨_,_,_,_,rfl,.inr ⟨rfl,T,?_,?_⟩⟩,?_⟩
    ·have:=H3.out;rw[HP.out]at this;exact this
    ·exact ac5 G5.out (fun g hg=>by
      obtain⟨cur,hc⟩:=auF G5.out hg
      rw[hc];exact hcc hc)
    ·have hkp:Keeps w (W8.drew.putObj D (.deferred none)):=⟨G4.out.os,G4.out.tape,G4.out.output,by rw[ail];exact G4.out.size,fun k hk _=>(abB (by omega)).trans (G4.out.block k hk (fun x=>x))⟩
     exact Keeps.trans hkp hk9
   |ret=>exact he.elim
   |exit id=>exact he.elim
   |goto t=>exact he.elim
   |panic chain=>exact he.elim
   |outgrown=>exact he.elim
  ·go_region_law
   all_goals go_wp2_with fail
   all_goals exact⟨rfl,rfl⟩
 case pan=>
  rintro⟨p,i⟩ D W ch hD hJ ⟨a,k,rfl,hk0,hnc⟩ hK
  obtain⟨v,T,h1,h2,h3,h4⟩:=hJ.row
  rw[hb3]at h1
  have h5:=hJ.hb4
  rw[hb4]at h5
  have hcc:∀{y:Nat}{c:Array Value}{t:TypeId}{fr:Nat×Nat},W.heap[y]? =some (.cells c t fr)→(W.putObj D (.deferred none)).heap[y]? =some (.cells c t fr):=fun {y c t fr} hy=>by
   rw[abB (fun e=>by rw[←e,hy]at hK;cases hK)]
   exact hy
  refine⟨by simp,.inl ⟨D,_,rfl,run_takeDeferred hK,?_⟩⟩
  refine⟨by simp,.inr ⟨fun h=>by simp[Fence.wide]at h,.func 148,_,148,#[.pointer (some ⟨w.heap.size,0,none⟩),.pointer (some ⟨w.heap.size+1,0,none⟩)],rfl,by simp[go_sem],fun _ _=>trivial,?_⟩⟩
  refine(aQy _ _ _ v a k 0 0 _ (hcc h1) (hcc h5)).mono ?_
  rintro _ u' W9 ⟨⟨rv,rfl⟩,rfl,g1,g2,hk9⟩
  have hkp:Keeps w (W.putObj D (.deferred none)):=⟨hJ.keeps.os,hJ.keeps.tape,hJ.keeps.output,by rw[ail];exact hJ.keeps.size,fun k hk _=>(abB (by omega)).trans (hJ.keeps.block k hk (fun x=>x))⟩
  refine⟨_,avx rfl _ _ _ _ _ _ _ _ rfl rfl rfl g1 g2,⟨_,_,_,_,rfl,.inl ⟨hk0,fun hg=>?_⟩⟩,Kept.trans hkp hk9 (fun x hx e=>by omega)⟩
  rcases h3.full hg with⟨_,rfl⟩|⟨_,_,_,_,rfl⟩
  ·exact hnc (.inr hg.1)
  ·exact hnc (.inl rfl)
theorem bbl (s:ByteArray)(w:World)(hv:Vars w):Calls Tryz.prog 124 #[.string s] w fun e w'=>(∃k:Int,e= .returned (.int .i64 k)∧(k=3↔anw s=true))∧Keeps w w':=by
 by_cases hs:s.size≤24
 ·have hs':¬(24:Int)<s.size:=by omega
  have hcg:anw s=true↔Good s:=by rw[ak8];exact⟨fun h=>h.2,fun h=>⟨hs,h⟩⟩
  go_enter Tryz.func124,Tryz.ntmps124
  go_wp2_with (go_at_call 99;refine holdL ?_)
  refine aag ?_
  refine(aUO s w hv hs).mono ?_
  rintro _ w2 ⟨⟨p,lv,a,k,rfl,hcase⟩,hk2⟩
  rcases hcase with⟨hk0,hg⟩|⟨rfl,T,hT,hrow⟩
  ·have hkb:(k !=0)=true:=by simp[hk0]
   have hcf:¬anw s=true:=fun h=>hg (hcg.1 h)
   go_wp2_with fail
   go_ret
   exact⟨⟨0,rfl,fun h=>absurd h (by decide),fun h=>absurd h hcf⟩,Kept.alloc hk2 _⟩
  ·match T,hT,hrow with
   | [],hT,hrow=>
     have hcf:¬anw s=true:=fun h=>by
      rcases hT.full (hcg.1 h)with⟨_,h0⟩|⟨_,h0,_⟩
      ·have:=aFW (hcg.1 h).1;omega
      ·cases h0
     obtain⟨pv,cv,rfl⟩ :∃pv cv,lv= .slice pv 0 cv:=by
      rcases hrow.2 with⟨e,_⟩|⟨g,cap,cur,e,_⟩
      ·exact⟨_,_,e⟩
      ·exact⟨_,_,e⟩
     go_wp2_with fail
     go_ret
     exact⟨⟨0,rfl,fun h=>absurd h (by decide),fun h=>absurd h hcf⟩,Kept.alloc hk2 _⟩
   | [t],hT,hrow=>
     obtain⟨g,cap,rfl⟩:=aiI (k:=0) hrow
     have d0:=hrow.cellAt 0 (by decide)
     have d2:=hrow.cellAt 2 (by decide)
     simp[amM,Tk.cells]at d0 d2
     have hgl:=(hrow.lt g rfl).2
     have e0:(w2.alloc (.cells #[.int .i64 a,.int .i64 0] 193)).cell? ⟨g,0,none⟩=some (.int .i64 t.kind):=aaF (Keeps.alloc _ _) d0
     have e2:(w2.alloc (.cells #[.int .i64 a,.int .i64 0] 193)).cell? ⟨g,2,none⟩=some (.string t.text):=aaF (Keeps.alloc _ _) d2
     have hr:t.kind=3∧t.text=s↔anw s=true:=by
      rw[hcg]
      refine⟨fun h=>hT.sound t (by simp) h.1 h.2,fun h=>?_⟩
      rcases hT.full h with⟨h0,_⟩|⟨u,h0,h1,h2,_⟩
      ·cases h0
      ·injection h0 with h0 _
       subst h0
       exact⟨h1,h2⟩
     by_cases ht:t.text=s
     ·have htb:(t.text.toList !=s.toList)=false:=by simp[ht]
      go_wp2_with fail
      all_goals
       go_ret
       exact⟨⟨t.kind,rfl,fun h=>hr.1 ⟨h,ht⟩,fun h=>(hr.2 h).1⟩,Kept.alloc hk2 _⟩
     ·have htb:(t.text.toList !=s.toList)=true:=by
       simp only[bne_iff_ne,ne_eq]
       exact fun h=>ht (toList_eq h)
      have bNx:(t.text.toList==s.toList)=false:=by simpa using htb
      have hcf:¬anw s=true:=fun h=>ht (hr.2 h).2
      go_wp2_with fail
      all_goals go_ret
      all_goals first
       |exact⟨⟨0,rfl,fun h=>absurd h (by decide),fun h=>absurd h hcf⟩,Kept.alloc hk2 _⟩
       |(exfalso;simp_all)
   |t::u::T,hT,hrow=>
    have hcf:¬anw s=true:=fun h=>by
     rcases hT.full (hcg.1 h)with⟨h0,_⟩|⟨_,h0,_⟩<;>cases h0
    obtain⟨g,cap,rfl⟩:=aiI (k:=T.length+1) hrow
    have hl1:(((T.length+1+1:Nat):Int) !=1)=true:=by simp;omega
    go_wp2_with fail
    go_ret
    exact⟨⟨0,rfl,fun h=>absurd h (by decide),fun h=>absurd h hcf⟩,Kept.alloc hk2 _⟩
 ·have hs':(24:Int)<s.size:=by omega
  go_enter Tryz.func124,Tryz.ntmps124
  go_wp2_with fail
  go_ret
  refine⟨⟨0,rfl,?_⟩,Keeps.refl _⟩
  rw[ak8]
  exact⟨fun h=>absurd h (by decide),fun h=>absurd h.1 hs⟩
theorem aQA (s:ByteArray)(w:World)(hv:Vars w):Calls Tryz.prog 77 #[.string s] w fun e w'=>e= .returned (.bool (anw s))∧Keeps w w':=by
 go_enter Tryz.func77,Tryz.ntmps77
 go_wp2_with (go_at_call 124;refine holdL ?_)
 refine aag ?_
 refine(bbl s w hv).mono ?_
 rintro _ w2 ⟨⟨k,rfl,hk⟩,hk2⟩
 have hkb:(k==3)=anw s:=by
  rw[ace]
  simpa using hk
 go_wp2_with fail
 go_ret
 exact⟨rfl,hk2⟩
theorem bbr {w:World}{b:Nat}{v u:Value}{t:TypeId}(h:w.heap[b]? =some (.cells #[v] t (0,0))):(w.setCell ⟨b,0,none⟩ u).heap[b]? =some (.cells #[u] t (0,0)):=by rw[abV h];rfl
theorem cell_kept {S:Nat→Prop}{w w':World}(hk:Kept S w w'){a:Addr}{v:Value}(h:w.cell? a=some v)(hS:¬S a.block):w'.cell? a=some v:=by
 rw[afI (w':=w') (w:=w) (hk.block a.block (afA w _ h) hS)]
 exact h
theorem bbs {S:Nat→Prop}{w w':World}(hk:Kept S w w'):∀(g:Nat)(o:Obj),w.heap[g]? =some o→¬S g→w'.heap[g]? =some o∧¬S g:=fun _ _ h hA=>⟨hk.at h hA,hA⟩
theorem size_nil {k m:Int}{s:ByteArray}{args:List RV}(h:args.length=0):(RV.mk k m s args).size=1:=by
 obtain rfl:=aki.1 h
 rfl
theorem bbt {k m:Int}{s:ByteArray}{args:List RV}(hk:k=0):(RV.mk k m s args).formed=true↔s.size=0∧args.length=0:=by
 subst hk
 rw[RV.formed,if_pos rfl]
 simp only[aa6,decide_eq_true_eq]
 refine⟨fun h=>h.2,fun h=>⟨?_,h⟩⟩
 obtain rfl:=aki.1 h.2
 rfl
theorem bbw {k m:Int}{s:ByteArray}{args:List RV}(hk:k=2):(RV.mk k m s args).formed=true↔(s.size=0∧args.length=0)∧0≤m:=by
 subst hk
 rw[RV.formed,if_neg (by decide),if_pos rfl]
 simp only[aa6,decide_eq_true_eq]
 refine⟨fun h=>h.2,fun h=>⟨?_,h⟩⟩
 obtain rfl:=aki.1 h.1.2
 rfl
theorem bby {k m:Int}{s:ByteArray}{args:List RV}(h0:k≠0)(h2:k≠2):(RV.mk k m s args).formed=true↔alH args=true∧((k=1∧m=0)∧args.length≤16)∧anw s=true:=by
 rw[RV.formed,if_neg h0,if_neg h2]
 simp only[aa6,decide_eq_true_eq]
def aMJ (c:Nat)(t:RV)(cb:Nat)(w:World)(e:Ending)(w':World):Prop:=∃(r:Bool)(c':Nat),e= .returned (.bool r)∧w'.heap[cb]? =some (.cells #[.int .i64 c'] 3 (0,0))∧Kept (fun b=>b=cb) w w'∧
 (r=true↔t.formed=true∧c+t.size≤4000)∧(r=true→c'=c+t.size)
theorem aQB:∀(d:Nat)(w:World)(cb:Nat)(t:RV)(cs:List Value)(g o:Nat)(c:Nat),Vars w→ahG w (fun b=>b=cb) d t cs→g≠cb→8≤cb→
 (∀(i:Nat)(v:Value),cs[i]? =some v→w.cell? ⟨g,o+i,none⟩=some v)→w.heap[cb]? =some (.cells #[.int .i64 c] 3 (0,0))→c≤4000→
 Calls Tryz.prog 27 #[.pointer (some ⟨g,o,none⟩),.pointer (some ⟨cb,0,none⟩)] w fun e w'=>aMJ c t cb w e w'
 |0,_,_,_,_,_,_,_,_,h,_,_,_,_,_=>h.elim
 |d+1,w,cb,.mk k m s args,cs,g,o,c,hv,h,hg,hcb,hc,hb,hc4=>by
  obtain⟨p,cp,rfl,hl,h1⟩:=h
  have IH:=aag (aQB d)
  have H1:=aag h1
  have HV:=aag hv
  have hcell:=cell_of_block hb 0
  have hfree:=abu hb 0
  simp at hcell
  obtain⟨W1,hW1⟩ :∃W1,W1=w.setCell ⟨cb,0,none⟩ (.int .i64 ((c:Int)+1)):=⟨_,rfl⟩
  have hk1:Kept (fun b=>b=cb) w W1:=by rw[hW1];exact Kept.setCell (S:=fun b=>b=cb) (Kept.refl _ _) (p:=⟨cb,0,none⟩) (fun _=>rfl) _
  have hb1:W1.heap[cb]? =some (.cells #[.int .i64 ((c+1:Nat):Int)] 3 (0,0)):=by
   rw[hW1,show((c+1:Nat):Int)=(c:Int)+1 by omega];exact bbr hb
  have y0:=cell_kept hk1 (hc 0 _ rfl) hg
  have y1:=cell_kept hk1 (hc 1 _ rfl) hg
  have y2:=cell_kept hk1 (hc 2 _ rfl) hg
  have y3:=cell_kept hk1 (hc 3 _ rfl) hg
  simp only[adK]at y0
  have HY:=aag (And.intro y0 (And.intro y1 (And.intro y2 y3)))
  rw[hW1]at y0 y1 y2 y3
  have HX:=aag (hc 3 _ rfl)
  have HK1:=aag hk1
  have HB1:=aag hb1
  have HG:=aag hg
  have HW1:=aag hW1
  have bNy:(c:Int)≤4000:=by omega
  have hc0:(0:Int)≤c:=by omega
  clear h1 hv hc hb hk1 hb1 hW1 hg
  by_cases h4:c+1≤4000
  ·have h4':¬(4000:Int)<(c:Int)+1:=by omega
   by_cases hk0:k=0
   ·have hkb:(k==0)=true:=by simp[hk0]
    have hsz:(RV.mk k m s args).formed=true↔s.size=0∧args.length=0:=bbt hk0
    have HS:=aag hsz
    have hres:∀r:Bool,(r=true↔s.size=0∧args.length=0)→aMJ c (.mk k m s args) cb w (.returned (.bool r)) W1:=fun r hr=>
     ⟨r,c+1,rfl,HB1.out,HK1.out,by rw[hr,HS.out];exact⟨fun h=>⟨h,by rw[size_nil h.2];omega⟩,fun h=>h.1⟩,fun h=>by rw[size_nil (hr.1 h).2]⟩
    have HR:=aag hres
    clear hsz hres hk0
    go_enter Tryz.func27,Tryz.ntmps27
    go_wp2_with fail
    all_goals
     go_ret
     rw[←HW1.out]
     refine HR.out _ ?_
     clear IH H1 HV HY HK1 HB1 HG HW1 HS HR y0 y1 y2 y3
     first
      |(simp_all[toList_nil];done)
      |(simp_all[toList_nil];omega)
   ·by_cases hk2:k=2
    ·have hkb:(k==0)=false:=by simp[hk0]
     have hkb2:(k==2)=true:=by simp[hk2]
     have HS:=aag (bbw (m:=m) (s:=s) (args:=args) hk2)
     have hres:∀r:Bool,(r=true↔(s.size=0∧args.length=0)∧0≤m)→aMJ c (.mk k m s args) cb w (.returned (.bool r)) W1:=fun r hr=>
      ⟨r,c+1,rfl,HB1.out,HK1.out,by rw[hr,HS.out];exact⟨fun h=>⟨h,by rw[size_nil h.1.2];omega⟩,fun h=>h.1⟩,fun h=>by rw[size_nil (hr.1 h).1.2]⟩
     have HR:=aag hres
     clear hres hk0 hk2
     go_enter Tryz.func27,Tryz.ntmps27
     go_wp2_with fail
     all_goals
      go_ret
      rw[←HW1.out]
      first
       |refine HR.out _ ?_
       |(rename_i hnil;subst hnil;refine HR.out _ ?_)
      clear IH H1 HV HY HK1 HB1 HG HW1 HS HR y0 y1 y2 y3
      first
       |(simp_all[toList_nil];done)
       |(simp_all[toList_nil];omega)
    ·have hkb:(k==0)=false:=by simp[hk0]
     have hkb2:(k==2)=false:=by simp[hk2]
     have HS:=aag (bby (m:=m) (s:=s) (args:=args) hk0 hk2)
     have hres:∀W,Keeps W1 W→¬(((k=1∧m=0)∧args.length≤16)∧anw s=true)→aMJ c (.mk k m s args) cb w (.returned (.bool false)) W:=fun W hW hr=>
      ⟨false,c+1,rfl,hW.at HB1.out (fun x=>x),Kept.trans HK1.out hW (fun _ _ x=>x.elim),by rw[HS.out];exact⟨fun h=>absurd h (by decide),fun h=>absurd h.1.2 hr⟩,fun h=>absurd h (by decide)⟩
     have HR:=aag hres
     clear hres hk0 hk2
     by_cases hk1:k=1
     ·by_cases hm0:m=0
      ·by_cases bbA:args.length≤16
       ·subst hk1 hm0
        have bxa:¬(16:Int)<args.length:=by omega
        have bHy:=aag bbA
        clear bbA hkb hkb2
        go_enter Tryz.func27,Tryz.ntmps27
        go_wp2_with (go_at_call 77;refine holdL ?_)
        refine aag ?_
        rw[←HW1.out]
        refine(aQA s W1 (HV.out.kept HK1.out (fun x hx e=>by omega))).mono ?_
        rintro _ w2 ⟨rfl,hk2⟩
        obtain⟨x0,x1,x2,x3⟩:=HY.out
        replace x0:=aaF hk2 x0
        replace x1:=aaF hk2 x1
        replace x2:=aaF hk2 x2
        replace x3:=aaF hk2 x3
        have HK2:=aag hk2
        clear hk2 y0 y1 y2 y3
        cases hcb2:anw s with
        |false=>
         have HCB:=aag hcb2
         clear hcb2
         go_wp2_with fail
         go_ret
         exact HR.out _ HK2.out (fun h=>by rw[HCB.out]at h;exact absurd h.2 (by decide))
        |true=>
         have HCB:=aag hcb2
         clear hcb2
         have hkw:=Kept.trans HK1.out HK2.out (fun _ _ x=>x.elim)
         have HKW:=aag hkw
         have HB2:=aag (HK2.out.at HB1.out (fun x=>x))
         clear hkw
         go_wp2_with fail
         go_loopw [95] (fun q W=>∃i:Nat,i≤args.length∧alH (args.take i)=true∧c+1+sizes (args.take i)≤4000∧q= .int .i64 i∧W.heap[cb]? =some (.cells #[.int .i64 ((c+1+sizes (args.take i):Nat):Int)] 3 (0,0))∧Kept (fun b=>b=cb) w W) (fun q _=>args.length - (intOf q).toNat)
         case atStart=>exact⟨0,ab6 _,rfl,by simp[sizes];omega,rfl,by simpa[sizes]using HB2.out,HKW.out⟩
         case round=>
          obtain⟨i,hi,hf,hs4,rfl,hbx,hkx⟩:=hrel
          have e3:=cell_kept hkx HX.out HG.out
          have HBX:=aag hbx
          have HKX:=aag hkx
          have HF:=aag hf
          have HS4:=aag hs4
          by_cases hil:i<args.length
          ·have k6:(i:Int)<args.length:=by omega
           have k7:(0:Int)≤i:=by omega
           obtain⟨u,hu⟩ :∃u,args[i]? =some u:=⟨_,aaw hil⟩
           obtain⟨g',o',c1,rfl,hA,hc1,ht1⟩:=H1.out i u hu
           have hcall:=IH.out wr cb u c1 g' (o'+i*4) (c+1+sizes (args.take i)) (HV.out.kept hkx (fun x hx e=>by omega)) (ht1.keep (bbs hkx)) hA hcb (fun i v hi=>cell_kept hkx (hc1 i v hi) hA) hbx hs4
           have HI:=aag hcall
           have HU:=aag hu
           clear hcall hc1 ht1 hA hu hbx hkx hf hs4 x0 x1 x2 x3
           go_wp2_with (go_at_call 27;refine holdL ?_)
           refine aag ?_
           refine HI.out.mono ?_
           rintro _ w3 ⟨r,c',rfl,hb3,hk3,hr1,hr2⟩
           have HK3:=aag (Kept.trans HKX.out hk3 (fun _ _ x=>x))
           have HB3:=aag hb3
           have HR1:=aag hr1
           have HR2:=aag hr2
           clear hb3 hk3 hr1 hr2
           cases r with
           |true=>
            have hst:=apR HU.out
            have h8:=HR1.out.1 rfl
            have h9:=HR2.out rfl
            have HE:Hid (c'=c+1+sizes (args.take (i+1))):=aag (by omega)
            have HL:Hid (c+1+sizes (args.take (i+1))≤4000):=aag (by omega)
            have HFF:Hid (alH (args.take (i+1))=true):=aag (by rw[axk HU.out,HF.out,h8.1];rfl)
            clear hst h8 h9
            go_wp2_with fail
            go_roundw
            case rel=>exact⟨i+1,by omega,HFF.out,HL.out,by go_num,by rw[←HE.out];exact HB3.out,HK3.out⟩
            case measure=>simp[intOf]<;>omega
           |false=>
            have hno:¬((RV.mk 1 0 s args).formed=true∧c+(RV.mk 1 0 s args).size≤4000):=fun h=>by
             have h5:u.formed=true:=aB1 HU.out (HS.out.1 h.1).1
             have h6:=apR HU.out
             have h7:=aoy args (i+1)
             have h8:=h.2
             rw[RV.size]at h8
             have:=HR1.out.2 ⟨h5,by omega⟩
             cases this
            have HN:=aag hno
            clear hno
            go_wp2_with fail
            go_ret
            exact⟨false,c',rfl,HB3.out,HK3.out,⟨fun h=>absurd h (by decide),fun h=>absurd h HN.out⟩,fun h=>absurd h (by decide)⟩
          ·obtain rfl:i=args.length:=by omega
           have k6:¬(args.length:Int)<args.length:=by omega
           have h1:=HF.out
           have h2:=HS4.out
           have h3:=HBX.out
           rw[ab1]at h1 h2 h3
           have hyes:(RV.mk 1 0 s args).formed=true:=HS.out.2 ⟨h1,⟨⟨by trivial,by trivial⟩,bHy.out⟩,HCB.out⟩
           have hsz:c+(RV.mk 1 0 s args).size=c+1+sizes args:=by rw[RV.size];omega
           have HY1:=aag hyes
           have HY2:=aag hsz
           have H1':=aag h1
           have H2':=aag h2
           have H3':=aag h3
           clear h1 h2 h3 hyes hsz hbx hkx hf hs4
           go_wp2_with fail
           go_ret
           exact⟨true,c+1+sizes args,rfl,H3'.out,HKX.out,⟨fun _=>⟨HY1.out,by rw[HY2.out];exact H2'.out⟩,fun _=>rfl⟩,fun _=>HY2.out.symm⟩
       ·have bxa:(16:Int)<args.length:=by omega
        have bxe:(k !=1)=false:=by simp[hk1]
        have hmb:(m !=0)=false:=by simp[hm0]
        have HN:=aag (show ¬(((k=1∧m=0)∧args.length≤16)∧anw s=true) from fun h=>bbA h.1.2)
        clear hk1 hm0 bbA
        go_enter Tryz.func27,Tryz.ntmps27
        go_wp2_with fail
        go_ret
        rw[←HW1.out]
        exact HR.out _ (Keeps.refl _) HN.out
      ·have bxe:(k !=1)=false:=by simp[hk1]
       have hmb:(m !=0)=true:=by simpa using hm0
       have HN:=aag (show ¬(((k=1∧m=0)∧args.length≤16)∧anw s=true) from fun h=>hm0 h.1.1.2)
       clear hk1 hm0
       go_enter Tryz.func27,Tryz.ntmps27
       go_wp2_with fail
       go_ret
       rw[←HW1.out]
       exact HR.out _ (Keeps.refl _) HN.out
     ·have bxe:(k !=1)=true:=by simpa using hk1
      have HN:=aag (show ¬(((k=1∧m=0)∧args.length≤16)∧anw s=true) from fun h=>hk1 h.1.1.1)
      clear hk1
      go_enter Tryz.func27,Tryz.ntmps27
      go_wp2_with fail
      go_ret
      rw[←HW1.out]
      exact HR.out _ (Keeps.refl _) HN.out
  ·have h4':(4000:Int)<(c:Int)+1:=by omega
   go_enter Tryz.func27,Tryz.ntmps27
   go_wp2_with fail
   go_ret
   rw[←HW1.out]
   exact⟨false,c+1,rfl,HB1.out,HK1.out,⟨fun h=>absurd h (by decide),fun h=>by have h9:=h.2;rw[RV.size]at h9;omega⟩,fun h=>absurd h (by decide)⟩
theorem aQD (d:Nat)(w:World)(A:Nat→Prop)(t:RV)(k m:Int)(s:ByteArray)(p:Option Addr)(n c:Nat)(hv:Vars w)(h:ahG w A d t [.int .i64 k,.int .i64 m,.string s,.slice p n c]):
 Calls Tryz.prog 27 #[.pointer (some ⟨w.heap.size,0,none⟩),.pointer (some ⟨w.heap.size+1,0,none⟩)] ((w.alloc (.cells #[.int .i64 k,.int .i64 m,.string s,.slice p n c] 24)).alloc (.cells #[.int .i64 0] 3)) fun e w'=>
  e= .returned (.bool (okR t))∧(okR t=true→w'.cell? ⟨w.heap.size+1,0,none⟩=some (.int .i64 t.size))∧Keeps w w':=by
 obtain⟨W0,hW0⟩ :∃W0,W0=(w.alloc (.cells #[.int .i64 k,.int .i64 m,.string s,.slice p n c] 24)).alloc (.cells #[.int .i64 0] 3):=⟨_,rfl⟩
 have hk0:Keeps w W0:=by rw[hW0];exact Kept.alloc (Keeps.alloc _ _) _
 have hb1:W0.heap[w.heap.size]? =some (.cells #[.int .i64 k,.int .i64 m,.string s,.slice p n c] 24 (0,0)):=by rw[hW0];exact heap_alloc_old _ (aaL _ _)
 have hb2:W0.heap[w.heap.size+1]? =some (.cells #[.int .i64 ((0:Nat):Int)] 3 (0,0)):=by
  rw[hW0]
  have h9:=aaL (w.alloc (.cells #[.int .i64 k,.int .i64 m,.string s,.slice p n c] 24)) (.cells #[.int .i64 0] 3)
  rw[aaS]at h9
  exact h9
 rw[←hW0]
 have hbig:=hv.blk
 have ht:ahG W0 (fun b=>b=w.heap.size+1) d t [.int .i64 k,.int .i64 m,.string s,.slice p n c]:=h.keep fun g o hg hA=>⟨hk0.at hg (fun x=>x),by have:=acO hg;omega⟩
 refine(aQB d W0 (w.heap.size+1) t _ w.heap.size 0 0 (hv.keep hk0) ht (by omega) (by omega) (fun i v hi=>?_) hb2 (by omega)).mono ?_
 ·rw[adI,cell_of_block hb1]
  rw[adY]
  exact hi
 ·rintro e w' ⟨r,c',rfl,hc,hk,hr,hr2⟩
  have hro:r=okR t:=by
   rw[ace,hr]
   simp only[okR,aa6,decide_eq_true_eq]
   constructor
   ·intro h1;exact⟨by omega,h1.1⟩
   ·intro h1;exact⟨h1.2,by omega⟩
  refine⟨by rw[hro],fun h1=>?_,?_⟩
  ·have h2:=hr2 (hro.trans h1)
   rw[cell_of_block hc,h2,adI]
   rfl
  ·exact Kept.trans hk0 hk (fun x hx e=>by omega)
theorem a4l (d:Nat)(w:World)(A:Nat→Prop)(t:RV)(cs:List Value)(hv:Vars w)(h:ahG w A d t cs):
 Calls Tryz.prog 6 #[.agg cs.toArray] w fun e w'=>e= .returned (.int .i64 (ckR t))∧Keeps w w':=by
 obtain⟨k,m,s,p,n,c,rfl⟩:=h.four
 have HI:=aag (aQD d w A t k m s p n c hv h)
 clear hv h
 go_enter Tryz.func6,Tryz.ntmps6
 go_wp2_with (go_at_call 27;refine holdL ?_)
 refine aag ?_
 refine HI.out.mono ?_
 rintro _ w2 ⟨rfl,_,hk2⟩
 have HK:=aag hk2
 clear hk2
 cases hok:okR t
 ·have hck:=bep hok
  go_wp2_with fail
  go_ret
  exact⟨by first|rfl|(rw[hck];rfl),HK.out⟩
 ·have hck:=bem hok
  go_wp2_with fail
  go_ret
  exact⟨by first|rfl|(rw[hck];rfl),HK.out⟩
end Go.Proofs.YtfehlbepjmmkeaaGreatDoor
