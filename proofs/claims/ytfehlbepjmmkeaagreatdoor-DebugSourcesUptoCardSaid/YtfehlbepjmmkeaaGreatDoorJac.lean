/-
  DERIVED. The reference's CountNodes. Condition: the nodes lie in memory.
-/
import Derived.Test.YtfehlbepjmmkeaaGreatDoorJab
import Derived.Deep.AppendLies
namespace Go.Proofs.YtfehlbepjmmkeaaGreatDoor
set_option maxHeartbeats 8000000
set_option maxRecDepth 100000
set_option linter.unusedSimpArgs false
set_option linter.unusedVariables false
open Go.RowKit
def aZw (w:World)(tb k:Nat)(l:List NP)(x:Ending)(w':World):Prop:=
 ∃(b:Bool)(k':Nat),x= .returned (.bool b)∧Kept (fun g=>g=tb) w w'∧w'.heap[tb]? =some (.cells #[.int .i64 k'] 3 (0,0))∧(b=true→k'=k+cnt l∧k'≤30000)
theorem aXe {w w':World}{A:Nat→Prop}{tb:Nat}(hk:Kept (fun g=>g=tb) w w')(hA:A tb):∀(g:Nat)(o:Obj),w.heap[g]? =some o→¬A g→w'.heap[g]? =some o∧¬A g:=fun _ _ hg hx=>⟨hk.at hg fun e=>hx (e▸hA),hx⟩
theorem aIi (e:Nat):∀(d:Nat)(l:List NP)(v:Value)(w:World)(A:Nat→Prop)(tb k deep:Nat),anK w A e d l v→A tb→w.heap[tb]? =some (.cells #[.int .i64 k] 3 (0,0))→k≤30000→
 Calls Tryz.prog 39 #[v,.int .i64 deep,.pointer (some ⟨tb,0,none⟩)] w (aZw w tb k l):=by
 intro d
 induction d with
 |zero=>
  intro l v w A tb k deep h hA htb hk
  obtain⟨rfl,p,c,rfl⟩:=h
  have HTb:=aag htb
  clear htb hA
  go_enter Tryz.func39,Tryz.ntmps39
  go_wp2_with fail
  go_loopw [7] (fun q W=>q= .int .i64 0∧W=w) (fun _ _=>0)
  case atStart=>exact⟨rfl,rfl⟩
  case round=>
   obtain⟨rfl,rfl⟩:=hrel
   go_wp2_with fail
   go_ret
   exact⟨true,k,rfl,Kept.refl _ _,HTb.out,fun _=>⟨by simp[cnt],hk⟩⟩
 |succ d ih=>
  intro l v w A tb k deep h hA htb hk
  have HI:=aag ih
  have H:=aag h
  have HA:=aag hA
  have HTb:=aag htb
  obtain⟨p,c,rfl⟩:=h.form
  obtain⟨n,hn⟩ :∃n,n=l.length:=⟨_,rfl⟩
  rw[←hn]
  rw[←hn]at H
  have HN:=aag hn
  clear ih h hA htb hn
  go_enter Tryz.func39,Tryz.ntmps39
  go_wp2_with fail
  go_loopw [7] (fun q W=>∃(i k':Nat),i≤n∧q= .int .i64 i∧Kept (fun g=>g=tb) w W∧W.heap[tb]? =some (.cells #[.int .i64 k'] 3 (0,0))∧k'=k+cnt (l.take i)∧k'≤30000) (fun q _=>n - (intOf q).toNat)
  case atStart=>exact⟨0,k,ab6 _,rfl,Kept.refl _ _,HTb.out,by simp[cnt],hk⟩
  case round=>
   obtain⟨i,k',hi,rfl,hkw,htb,hk',hk3⟩:=hrel
   have bNe:i≤30000:=by
    have h1:=atZ (l.take i)
    rw[ahW,←HN.out]at h1
    omega
   have HKw:=aag hkw
   have HT:=aag htb
   have HK':=aag hk'
   have k7:(0:Int)≤i:=by omega
   have t0:=cell_of_block htb 0
   have t1:=abu htb 0
   simp at t0
   clear hkw htb hk'
   by_cases hil:i<n
   ·obtain⟨nd,hu⟩ :∃nd,l[i]? =some nd:=⟨_,aaw (by rw[←HN.out];exact hil)⟩
    obtain⟨mod,r,kids⟩:=nd
    have k6:(i:Int)<n:=by omega
    obtain⟨d',g,o,pk,ck,hd,rfl,hg,hc,_,_,_,hkids⟩:=(H.out.keep (aXe HKw.out HA.out)).node hu
    obtain rfl:d'=d:=by omega
    have x12:=hc 12 _ rfl
    have z1:tb≠g:=fun e=>hg (e▸HA.out)
    have z2:g≠tb:=fun e=>z1 e.symm
    have HU:=aag hu
    have hks:Kept (fun g=>g=tb) wr (wr.setCell ⟨tb,0,none⟩ (.int .i64 ((k':Int)+1))):=(Kept.refl (fun g=>g=tb) wr).setCell (p:=⟨tb,0,none⟩) (fun _=>rfl) _
    have hts:(wr.setCell ⟨tb,0,none⟩ (.int .i64 ((k':Int)+1))).heap[tb]? =some (.cells #[.int .i64 ((k'+1:Nat):Int)] 3 (0,0)):=by
     rw[abV HT.out];simp
    have HKs:=aag hks
    have HTs:=aag hts
    have aw5:=aag hkids
    clear hc hg hu hkids hks hts hd
    by_cases h1:k'+1≤30000
    ·have j1:decide ((30000:Int)<(k':Int)+1)=false:=by simp;omega
     by_cases h2:deep≤20000
     ·have j2:decide ((20000:Int)<(deep:Int))=false:=by simp;omega
      have HC:=aag (HI.out kids (.slice pk kids.length ck) _ A tb (k'+1) (deep+1) (aw5.out.keep (aXe HKs.out HA.out)) HA.out HTs.out h1)
      rw[show((deep+1:Nat):Int)=(deep:Int)+1 by omega]at HC
      go_wp2_with (go_at_call 39;refine HC.out.mono ?_;rintro _ w2 ⟨b2,k2,rfl,hk2,ht2,hb2⟩)
      ·cases b2 with
       |true=>simp_all
       |false=>
        go_ret
        exact⟨false,k2,rfl,Kept.trans HKw.out (Kept.trans HKs.out hk2 (fun _ _ x=>x)) (fun _ _ x=>x),ht2,fun h=>by cases h⟩
      ·cases b2 with
       |false=>simp_all
       |true=>
        obtain⟨q1,q2⟩:=hb2 rfl
        have HQ:=aag (show k2=k+cnt (l.take (i+1)) by rw[aE8 HU.out,q1,HK'.out];omega)
        have H2:=aag hk2
        have HT2:=aag ht2
        clear hb2 q1 hk2 ht2
        go_roundw
        case rel=>exact⟨i+1,k2,by omega,by go_num,Kept.trans HKw.out (Kept.trans HKs.out H2.out (fun _ _ x=>x)) (fun _ _ x=>x),HT2.out,HQ.out,q2⟩
        case measure=>simp[intOf]<;>omega
     ·have j2:decide ((20000:Int)<(deep:Int))=true:=by simp;omega
      go_wp2_with fail
      go_ret
      exact⟨false,k'+1,rfl,Kept.trans HKw.out HKs.out (fun _ _ x=>x),HTs.out,fun h=>by cases h⟩
    ·have j1:decide ((30000:Int)<(k':Int)+1)=true:=by simp;omega
     go_wp2_with fail
     go_ret
     exact⟨false,k'+1,rfl,Kept.trans HKw.out HKs.out (fun _ _ x=>x),HTs.out,fun h=>by cases h⟩
   ·obtain rfl:i=n:=by omega
    have hq:k'=k+cnt l:=by rw[HK'.out,HN.out,ab1]
    have HQ:=aag hq
    clear hq
    have k6:¬(i:Int)<i:=by omega
    go_wp2_with fail
    go_ret
    exact⟨true,k',rfl,HKw.out,HT.out,fun _=>⟨HQ.out,hk3⟩⟩
structure SR where
 ps:Option Addr
 ns:Nat
 cs:Nat
 pl:Option Addr
 nl:Nat
 cl:Nat
 pi:Option Addr
 ni:Nat
 ci:Nat
 pr:Option Addr
 nr:Nat
 cr:Nat
 steps:Int
def SR.cells (s:SR):Array Value:=#[.slice s.ps s.ns s.cs,.slice s.pl s.nl s.cl,.slice s.pi s.ni s.ci,.slice s.pr s.nr s.cr,.int .i64 s.steps]
def aTv (w:World)(ns:Nat)(l:List NP)(x:Ending)(w':World):Prop:=∃b:Bool,x= .returned (.bool b)∧Keeps w w'∧(b=true→ns≤2000∧cnt l≤600)
theorem aZB (e d:Nat)(w:World)(A:Nat→Prop)(s:SR)(l:List NP)(h:anK w A e d l (.slice s.pr s.nr s.cr)):
 Calls Tryz.prog 13 #[.agg s.cells] w (aTv w s.ns l):=by
 obtain⟨ps,ns,cs,pl,nl,cl,pi,ni,ci,pr,nr,cr,steps⟩:=s
 simp only[SR.cells]at*
 have hk0:Keeps w ((w.alloc (.cells #[.slice ps ns cs,.slice pl nl cl,.slice pi ni ci,.slice pr nr cr,.int .i64 steps] 34)).alloc (.cells #[.int .i64 0] 3)):=Kept.alloc (Keeps.alloc _ _) _
 have hsz:(w.alloc (.cells #[.slice ps ns cs,.slice pl nl cl,.slice pi ni ci,.slice pr nr cr,.int .i64 steps] 34)).heap.size=w.heap.size+1:=aaS _ _
 have htb:((w.alloc (.cells #[.slice ps ns cs,.slice pl nl cl,.slice pi ni ci,.slice pr nr cr,.int .i64 steps] 34)).alloc (.cells #[.int .i64 0] 3)).heap[w.heap.size+1]? =some (.cells #[.int .i64 ((0:Nat):Int)] 3 (0,0)):=by
  have h9:=aaL (w.alloc (.cells #[.slice ps ns cs,.slice pl nl cl,.slice pi ni ci,.slice pr nr cr,.int .i64 steps] 34)) (.cells #[.int .i64 0] 3)
  rw[hsz]at h9
  exact h9
 have HC:=aag (aIi e d l (.slice pr nr cr) _ (fun g=>g=w.heap.size+1) (w.heap.size+1) 0 1 (h.keep fun g o hg _=>⟨hk0.at hg (fun x=>x),fun e=>by have:=acO hg;omega⟩) rfl htb (by omega))
 have HK0:=aag hk0
 clear h hk0 hsz htb
 by_cases h1:ns≤2000
 ·have j1:(ns:Int)≤2000:=by omega
  go_enter Tryz.func13,Tryz.ntmps13
  go_wp2_with (go_at_call 39;refine HC.out.mono ?_;rintro _ w2 ⟨b2,k2,rfl,hk2,ht2,hb2⟩;have t0:=cell_of_block ht2 0;simp at t0)
  all_goals go_ret
  all_goals have hkw:Keeps w w2:=Kept.trans HK0.out hk2 fun g hg hx=>by omega
  ·exact⟨_,rfl,hkw,fun h=>⟨h1,by have:=(hb2 (by assumption)).1;simp at h;omega⟩⟩
  ·exact⟨_,rfl,hkw,fun h=>by cases h⟩
 ·have j1:¬(ns:Int)≤2000:=by omega
  go_enter Tryz.func13,Tryz.ntmps13
  go_wp2_with fail
  go_ret
  exact⟨false,rfl,HK0.out,fun h=>by cases h⟩
theorem aXf:(Tryz.prog.info? 109).map (fun i=>(i.zero,i.size,i.bytes))=some (some (.agg #[.int .i64 0,.int .i64 0,.int .i64 0,.slice none 0 0,.int .i64 0,.int .i64 0,.string ⟨#[]⟩,.slice none 0 0]),8,104):=by kernel_rfl
theorem aum:Tryz.prog.underlying 71=some (.slice 109):=by kernel_rfl
def ahO (evs:List ET):List Value:=evs.flatMap fun t=>t.ev.cells
theorem aFp (evs:List ET)(t:ET):ahO (evs++ [t])=ahO evs++t.ev.cells:=by simp[ahO]
structure ag2 (w W:World)(bn bo:Nat)(v:Value)(evs:List ET)(k:Nat):Prop where
 kept:Keeps w W
 nbn:w.heap.size≤bn
 nbo:w.heap.size≤bo
 hbn:W.heap[bn]? =some (.cells #[.int .i64 k] 3 (0,0))
 hbo:W.heap[bo]? =some (.cells #[v] 71 (0,0))
 row:W.ownsRow w.heap.size 109 8 v evs.length (ahO evs)
section
variable {w W W':World}{bn bo k:Nat}{v:Value}{evs:List ET}
theorem ag2.keeps (h:ag2 w W bn bo v evs k)(hk:Keeps W W'):ag2 w W' bn bo v evs k:=
 ⟨Keeps.trans h.kept hk,h.nbn,h.nbo,hk.at h.hbn (fun x=>x),hk.at h.hbo (fun x=>x),ac5 h.row fun g hg=>hk.block g (h.row.lt g hg).2 (fun x=>x)⟩
theorem ag2.ne (h:ag2 w W bn bo v evs k):bn≠bo∧v.ownBlock≠some bn∧v.ownBlock≠some bo:=by
 refine⟨fun e=>?_,fun e=>?_,fun e=>?_⟩
 ·have h1:=h.hbn
  rw[e,h.hbo]at h1
  simp at h1
 ·obtain⟨cur,hc⟩:=row_block h.row e
  rw[h.hbn]at hc
  simp at hc
 ·obtain⟨cur,hc⟩:=row_block h.row e
  rw[h.hbo]at hc
  simp at hc
theorem ag2.count (h:ag2 w W bn bo v evs k):ag2 w (W.setCell ⟨bn,0,none⟩ (.int .i64 ((k:Int)+1))) bn bo v evs (k+1)∧Kept (fun g=>g=bn) W (W.setCell ⟨bn,0,none⟩ (.int .i64 ((k:Int)+1))):=by
 obtain⟨n1,n2,n3⟩:=h.ne
 refine⟨⟨Kept.aD5 h.kept h.nbn _ _,h.nbn,h.nbo,by rw[abV h.hbn];simp,by rw[abw _ (ahU n1)];exact h.hbo,ac5 h.row fun g hg=>abw _ fun e=>n2 (e▸hg)⟩,?_⟩
 exact(Kept.refl (fun g=>g=bn) W).setCell (p:=⟨bn,0,none⟩) (fun _=>rfl) _
theorem ag2.push {w5:World}{O:Obj}{v5:Value}{t:ET}(h:ag2 w W bn bo v evs k)(hg:(W.alloc O).grownBy w5 v.ownBlock)(hr:w5.ownsRow w.heap.size 109 8 v5 (evs.length+1) (ahO evs++t.ev.cells)):
 w5.heap[bo]? =some (.cells #[v] 71 (0,0))∧ag2 w (w5.setCell ⟨bo,0,none⟩ v5) bn bo v5 (evs++ [t]) k∧Kept (fun g=>g=bo∨v.ownBlock=some g) W (w5.setCell ⟨bo,0,none⟩ v5):=by
 obtain⟨n1,n2,n3⟩:=h.ne
 have hk5:Kept (fun g=>v.ownBlock=some g) W w5:=((Kept.refl _ W).alloc O).grown hg (fun b hb _=>hb)
 have hbo:=hk5.at h.hbo n3
 have hk6:Kept (fun g=>g=bo∨v.ownBlock=some g) W (w5.setCell ⟨bo,0,none⟩ v5):=(hk5.mono fun _ _ x=> .inr x).setCell (p:=⟨bo,0,none⟩) (fun _=> .inl rfl) _
 refine⟨hbo,⟨Kept.trans h.kept hk6 fun g hgl hx=>?_,h.nbn,h.nbo,hk6.at h.hbn fun hx=>?_,by rw[abV hbo];rfl,?_⟩,hk6⟩
 ·rcases hx with rfl|hx
  ·exact absurd hgl (Nat.not_lt.2 h.nbo)
  ·have:=(h.row.lt g hx).1;omega
 ·rcases hx with hx|hx
  ·exact n1 hx
  ·exact n2 hx
 ·rw[aFp,aa1]
  refine ac5 hr fun g hg'=>abw _ fun e=>?_
  obtain⟨cur,hc⟩:=row_block hr hg'
  rw[e,hbo]at hc
  simp at hc
end
def a2R (w W:World)(bn bo:Nat)(v:Value)(evs:List ET)(k:Nat)(l:List NP)(x:Ending)(W':World):Prop:=
 ∃v',x= .returned (.tuple #[])∧ag2 w W' bn bo v' (evs++flat l) (k+cnt l)∧Kept (fun g=>g=bn∨g=bo∨v.ownBlock=some g) W W'∧(v'.ownBlock=v.ownBlock∨∃g,v'.ownBlock=some g∧W.heap.size≤g)
structure aw7 (W:World)(bn bf bo ba:Nat):Prop where
 hbf:W.heap[bf]? =some (.cells #[.bool true] 4 (0,0))
 hba:W.heap[ba]? =some (.cells #[.func (.func 89) #[] #[.pointer (some ⟨bn,0,none⟩),.pointer (some ⟨bf,0,none⟩),.pointer (some ⟨bo,0,none⟩),.pointer (some ⟨ba,0,none⟩)]] 157 (0,0))
theorem ag2.far {w W W':World}{bn bo k:Nat}{v:Value}{evs:List ET}(h:ag2 w W bn bo v evs k)(hk:Kept (fun g=>g=bn∨g=bo∨v.ownBlock=some g) W W'){b:Nat}{c:Array Value}{t:TypeId}(hb:W.heap[b]? =some (.cells c t (0,0)))(h1:t≠3)(h2:t≠71)(h3:t≠109):W'.heap[b]? =some (.cells c t (0,0)):=by
 refine hk.at hb ?_
 rintro(rfl|rfl|e)
 ·rw[h.hbn]at hb
  simp at hb
  exact h1 hb.2.symm
 ·rw[h.hbo]at hb
  simp at hb
  exact h2 hb.2.symm
 ·obtain⟨cur,hc⟩:=row_block h.row e
  rw[hc]at hb
  simp at hb
  exact h3 hb.2.symm
theorem aw7.far {w W W':World}{bn bf bo ba k:Nat}{v:Value}{evs:List ET}(hB:aw7 W bn bf bo ba)(h:ag2 w W bn bo v evs k)(hk:Kept (fun g=>g=bn∨g=bo∨v.ownBlock=some g) W W'):aw7 W' bn bf bo ba:=
 ⟨h.far hk hB.hbf (by decide) (by decide) (by decide),h.far hk hB.hba (by decide) (by decide) (by decide)⟩
theorem ag2.form {w W:World}{bn bo k:Nat}{v:Value}{evs:List ET}(h:ag2 w W bn bo v evs k):∃q c,v= .slice q evs.length c:=by
 rcases h.row.2 with⟨hv,h0⟩|⟨g,cap,cur,hv,_⟩
 ·exact⟨none,0,by rw[hv,h0]⟩
 ·exact⟨_,cap,hv⟩
theorem ahQ {W X Y:World}{bn bo:Nat}{vo vi:Value}(hkw:Kept (fun g=>g=bn∨g=bo∨vo.ownBlock=some g) W X)(hat:vi.ownBlock=vo.ownBlock∨∃g,vi.ownBlock=some g∧W.heap.size≤g)(hk:Kept (fun g=>g=bn∨g=bo∨vi.ownBlock=some g) X Y):Kept (fun g=>g=bn∨g=bo∨vo.ownBlock=some g) W Y:=
 Kept.trans hkw hk fun g hg hx=>by
  rcases hx with hx|hx|hx
  ·exact .inl hx
  ·exact .inr (.inl hx)
  ·rcases hat with e|⟨g',e,hg'⟩
   ·exact .inr (.inr (e▸hx))
   ·rw[e]at hx
    injection hx with hx
    omega
theorem amE {W X:World}{vo vi v5:Value}(hs:W.heap.size≤X.heap.size)(hat:vi.ownBlock=vo.ownBlock∨∃g,vi.ownBlock=some g∧W.heap.size≤g)(h5:v5.ownBlock=vi.ownBlock∨∃g,v5.ownBlock=some g∧X.heap.size≤g):v5.ownBlock=vo.ownBlock∨∃g,v5.ownBlock=some g∧W.heap.size≤g:=by
 rcases h5 with e|⟨g,e,hg⟩
 ·rw[e];exact hat
 ·exact .inr ⟨g,e,aa7 hs hg⟩
theorem at_new {X:World}{O:Obj}{v5 v:Value}(h:v5.ownBlock=v.ownBlock∨v5.ownBlock=some (X.alloc O).heap.size):v5.ownBlock=v.ownBlock∨∃g,v5.ownBlock=some g∧X.heap.size≤g:=by
 rcases h with e|e
 ·exact .inl e
 ·exact .inr ⟨_,e,by rw[aaS];exact ab5 _⟩
theorem a2Y (e:Nat)(w:World)(A0:Nat→Prop)(bn bf bo ba:Nat):∀(d:Nat)(l:List NP)(v:Value)(W:World)(vo:Value)(evs:List ET)(k deep:Nat),anK w A0 e d l v→ag2 w W bn bo vo evs k→aw7 W bn bf bo ba→k+cnt l≤30000→deep+cnt l≤30000→evs.length≤2*k→
 Calls Tryz.prog 89 #[v,.int .i64 deep,.pointer (some ⟨bn,0,none⟩),.pointer (some ⟨bf,0,none⟩),.pointer (some ⟨bo,0,none⟩),.pointer (some ⟨ba,0,none⟩)] W (a2R w W bn bo vo evs k l):=by
 intro d
 induction d with
 |zero=>
  intro l v W vo evs k deep h hM hB hk hdp hev
  obtain⟨rfl,p,c,rfl⟩:=h
  have HM:=aag hM
  clear hM hB
  go_enter Tryz.func89,Tryz.ntmps89
  go_wp2_with fail
  go_loopw [12] (fun q W'=>q= .int .i64 0∧W'=W) (fun _ _=>0)
  case atStart=>exact⟨rfl,rfl⟩
  case round=>
   obtain⟨rfl,rfl⟩:=hrel
   go_wp2_with fail
   refine bodyPost_ret (results_none rfl _ _ _) rfl ?_
   exact⟨vo,rfl,by simpa[flat,cnt]using HM.out,Kept.refl _ _,.inl rfl⟩
 |succ d ih=>
  intro l v W vo evs k deep h hM hB hk hdp hev
  have HI:=aag ih
  have H:=aag h
  have HM:=aag hM
  have HB:=aag hB
  obtain⟨p,c,rfl⟩:=h.form
  have hln:=atZ l
  obtain⟨i98,aTw,aTz,aTC,aTE⟩:=info_parts aXf
  obtain⟨n,hn⟩ :∃n,n=l.length:=⟨_,rfl⟩
  rw[←hn]
  rw[←hn]at H hln
  have HN:=aag hn
  clear ih h hM hB hn
  go_enter Tryz.func89,Tryz.ntmps89
  go_wp2_with fail
  go_loopw [12] (fun q W'=>∃(i:Nat)(vi:Value),i≤n∧q= .int .i64 i∧ag2 w W' bn bo vi (evs++flat (l.take i)) (k+cnt (l.take i))∧aw7 W' bn bf bo ba∧Kept (fun g=>g=bn∨g=bo∨vo.ownBlock=some g) W W'∧(vi.ownBlock=vo.ownBlock∨∃g,vi.ownBlock=some g∧W.heap.size≤g)) (fun q _=>n - (intOf q).toNat)
  case atStart=>exact⟨0,vo,ab6 _,rfl,by simpa[flat,cnt]using HM.out,HB.out,Kept.refl _ _,.inl rfl⟩
  case round=>
   obtain⟨i,vi,hi,rfl,hM,hB,hkw,hat⟩:=hrel
   have HKw:=aag hkw
   have k7:(0:Int)≤i:=by omega
   by_cases hil:i<n
   ·obtain⟨nd,hu⟩ :∃nd,l[i]? =some nd:=⟨_,aaw (by rw[←HN.out];exact hil)⟩
    obtain⟨mod,r,kids⟩:=nd
    have k6:(i:Int)<n:=by omega
    obtain⟨d',g,o,pk,ck,hd,rfl,hg,hc,hta,hts,htw,hkids⟩:=H.out.node hu
    obtain rfl:d'=d:=by omega
    have hpart:=aPm hu
    have hsplit:=aE8 hu
    have x0:=aaF hM.kept (hc 0 _ rfl)
    have x1:=aaF hM.kept (hc 1 _ rfl)
    have x2:=aaF hM.kept (hc 2 _ rfl)
    have x3:=aaF hM.kept (hc 3 _ rfl)
    have x4:=aaF hM.kept (hc 4 _ rfl)
    have x5:=aaF hM.kept (hc 5 _ rfl)
    have x6:=aaF hM.kept (hc 6 _ rfl)
    have x7:=aaF hM.kept (hc 7 _ rfl)
    have x8:=aaF hM.kept (hc 8 _ rfl)
    have x9:=aaF hM.kept (hc 9 _ rfl)
    have x10:=aaF hM.kept (hc 10 _ rfl)
    have x11:=aaF hM.kept (hc 11 _ rfl)
    have x12:=aaF hM.kept (hc 12 _ rfl)
    simp only[adK]at x0
    generalize hkk:k+cnt (l.take i)=kk at hM
    generalize hee:evs++flat (l.take i)=ee at hM
    have hel:ee.length≤2*kk:=by
     have:=amD (l.take i)
     rw[←hee,aa1]
     omega
    have hkb:kk+1+cnt kids≤30000:=by omega
    have hdb:deep+1+cnt kids≤30000:=by omega
    obtain⟨qv,cv,rfl⟩:=hM.form
    obtain⟨nE,hnE⟩ :∃nE,nE=ee.length:=⟨_,rfl⟩
    rw[←hnE]at hM hat hel
    have HNE:=aag hnE
    obtain⟨n1,_,n3⟩:=hM.ne
    have n1':bo≠bn:=fun e=>n1 e.symm
    have b0:wr.cell? ⟨bo,0,none⟩=some (.slice qv nE cv):=by rw[cell_of_block hM.hbo];rfl
    have b1:=abu hM.hbo 0
    have hlo:=acO hM.hbo
    have t0:wr.cell? ⟨bn,0,none⟩=some (.int .i64 kk):=by rw[cell_of_block hM.hbn];rfl
    have t1:=abu hM.hbn 0
    have j1:decide ((30000:Int)<(kk:Int)+1)=false:=by simp;omega
    have j2:decide ((30000:Int)<(deep:Int))=false:=by simp;omega
    have HU:=aag hu
    have aw5:=aag hkids
    have HEe:=aag hee
    have HKk:=aag hkk
    have HSp:=aag hsplit
    have HMi:=aag hM
    have HAt:=aag hat
    have HBi:=aag hB
    have hlb:=acO hM.hbn
    clear hc hg hta hts htw hu hkids hd hee hkk hsplit hM hB hkw hat hpart hnE n3
    cases mod with
    |true=>
     go_wp2_with (at_builtin;refine holdT ?_)
     refine aag ?_
     obtain⟨Wc,hWc⟩ :∃Wc,Wc=(wr.setCell ⟨bn,0,none⟩ (.int .i64 ((kk:Int)+1))).alloc (.cells #[.bool true,.int .i64 r.site,.int .i64 r.addr,.slice r.pa r.na r.ca,.int .i64 r.sk,.int .i64 r.sm,.string r.ss,.slice r.sp r.sn r.sc,.int .i64 r.wk,.int .i64 r.wm,.string r.ws,.slice r.wp r.wn r.wc,.slice pk kids.length ck] 91):=⟨_,rfl⟩
     rw[←hWc]
     have hMc:ag2 w Wc bn bo (.slice qv nE cv) ee (kk+1):=by rw[hWc];exact HMi.out.count.1.keeps (Keeps.alloc _ _)
     have hkc:Kept (fun g=>g=bn) wr Wc:=by rw[hWc];exact HMi.out.count.2.alloc _
     have hsz:(wr.setCell ⟨bn,0,none⟩ (.int .i64 ((kk:Int)+1))).heap.size=wr.heap.size:=by simp[World.setCell]
     have hNc:Wc.heap[wr.heap.size]? =some (.cells #[.bool true,.int .i64 r.site,.int .i64 r.addr,.slice r.pa r.na r.ca,.int .i64 r.sk,.int .i64 r.sm,.string r.ss,.slice r.sp r.sn r.sc,.int .i64 r.wk,.int .i64 r.wm,.string r.ws,.slice r.wp r.wn r.wc,.slice pk kids.length ck] 91 (0,0)):=by
      rw[hWc]
      have h9:=aaL (wr.setCell ⟨bn,0,none⟩ (.int .i64 ((kk:Int)+1))) (.cells #[.bool true,.int .i64 r.site,.int .i64 r.addr,.slice r.pa r.na r.ca,.int .i64 r.sk,.int .i64 r.sm,.string r.ss,.slice r.sp r.sn r.sc,.int .i64 r.wk,.int .i64 r.wm,.string r.ws,.slice r.wp r.wn r.wc,.slice pk kids.length ck] 91)
      rw[hsz]at h9
      exact h9
     have hWl:Wc.heap.size=wr.heap.size+1:=by rw[hWc,aaS,hsz]
     have HMc:=aag hMc
     have HKc:=aag hkc
     have HNc:=aag hNc
     have HWl:=aag hWl
     have HRc:=aag (show Wc.ownsRow w.heap.size 109 8 (.slice qv nE cv) nE (ahO ee) by have h9:=hMc.row;rw[←HNE.out]at h9;exact h9)
     have HSc:=aag hMc.kept.size
     have HBc:=aag (HBi.out.far HMi.out (hkc.mono fun _ _ x=> .inl x))
     clear hWc hMc hkc hsz hNc hWl x0 x1 x2 x3 x4 x5 x6 x7 x8 x9 x10 x11 x12 t0 t1 b0 b1
     refine wpList_append_own_at _ rfl (.tmp 43) (.tmp 51) 71 rfl w.heap.size 109 i98 (.agg #[.int .i64 0,.int .i64 0,.int .i64 0,.slice none 0 0,.int .i64 0,.int .i64 0,.string ⟨#[]⟩,.slice none 0 0]) 8 104 aum aTw aTz aTC aTE rfl (by decide) (.slice qv nE cv) nE (ahO ee) rfl (HRc.out.alloc _) ⟨wr.heap.size+1,0,none⟩ 1 1 [.int .i64 1,.int .i64 r.site,.int .i64 r.addr,.slice r.pa r.na r.ca,.int .i64 0,.int .i64 0,.string ⟨#[]⟩,.slice none 0 0] rfl rfl
      (af2 (cs:=#[.int .i64 1,.int .i64 r.site,.int .i64 r.addr,.slice r.pa r.na r.ca,.int .i64 0,.int .i64 0,.string ⟨#[]⟩,.slice none 0 0]) (t:=109) (fr:=(0,0)) (by have h9:=aaL Wc (.cells #[.int .i64 1,.int .i64 r.site,.int .i64 r.addr,.slice r.pa r.na r.ca,.int .i64 0,.int .i64 0,.string ⟨#[]⟩,.slice none 0 0] 109);rw[HWl.out]at h9;exact h9)) (by simp[Value.oneCell']) (by unfold maxLen;omega) (by omega) (by have:=HSc.out;rw[aaS];omega) ?_
     intro v5 w5 hown hgrow hnil aoX
     obtain⟨g5,cap5,rfl⟩:=aiI hown
     rw[HNE.out]at hown
     obtain⟨aqG,hM5,hk5⟩:=HMc.out.push (t:=r.aw4) hgrow hown
     rw[←HNE.out]at hM5 hk5
     have b0:=cell_of_block aqG 0
     have b1:=abu aqG 0
     simp at b0
     have HM5:=aag hM5
     have HK5:=aag (hk5.mono (T:=fun g=>g=bn∨g=bo∨(Value.slice qv nE cv).ownBlock=some g) fun _ _ x=> .inr x)
     have HN5:=aag (HMc.out.far HK5.out HNc.out (by decide) (by decide) (by decide))
     have HB5:=aag (HBc.out.far HMc.out HK5.out)
     have HA5:=aag (at_new aoX)
     have a0:=cell_of_block HB5.out.hba 0
     have y12:=cell_of_block HN5.out 12
     simp at a0 y12
     clear hown hgrow hnil aoX aqG hM5 hk5
     have HC:=aag (HI.out kids (.slice pk kids.length ck) _ _ (ee++ [r.aw4]) (kk+1) (deep+1) aw5.out HM5.out HB5.out hkb hdb (by rw[aa1,←HNE.out];simp;omega))
     rw[show((deep+1:Nat):Int)=(deep:Int)+1 by omega]at HC
     go_wp2_with (go_at_call 89;refine holdT ?_)
     refine aag ?_
     refine HC.out.mono ?_
     rintro _ W7 ⟨v7,rfl,hM7,hk7,amr⟩
     have HM7:=aag hM7
     have HB7:=aag (HB5.out.far HM5.out hk7)
     have hszW:W.heap.size≤Wc.heap.size:=aa7 HKw.out.size HKc.out.size
     have aTF:=aag (ahQ HKw.out HAt.out (HKc.out.mono fun _ _ x=> .inl x))
     have aTI:=aag (ahQ aTF.out HAt.out HK5.out)
     have aFq:=aag (amE hszW HAt.out HA5.out)
     have aMf:=aag (ahQ aTI.out aFq.out hk7)
     have aFr:=aag (amE (aa7 hszW HK5.out.size) aFq.out amr)
     have HN7:=aag (HM5.out.far hk7 HN5.out (by decide) (by decide) (by decide))
     obtain⟨q7,c7,rfl⟩:=hM7.form
     obtain⟨nF,hnF⟩ :∃nF,nF=(ee++ [r.aw4]++flat kids).length:=⟨_,rfl⟩
     have bGd:nF≤60000:=by
      have h9:=amD kids
      rw[hnF,aa1,aa1,←HNE.out]
      simp
      omega
     rw[←hnF]at HM7 aFr hM7
     have HNF:=aag hnF
     have b0':=cell_of_block hM7.hbo 0
     have b1':=abu hM7.hbo 0
     have bNi:=acO hM7.hbo
     have y2:=cell_of_block HN7.out 2
     have y8:=cell_of_block HN7.out 8
     have y9:=cell_of_block HN7.out 9
     have y10:=cell_of_block HN7.out 10
     have y11:=cell_of_block HN7.out 11
     simp at b0' y2 y8 y9 y10 y11
     have HR7:=aag (show W7.ownsRow w.heap.size 109 8 (.slice q7 nF c7) nF (ahO (ee++ [r.aw4]++flat kids)) by have h9:=hM7.row;rw[←hnF]at h9;exact h9)
     have HS7:=aag hM7.kept.size
     have HL:=aag (show((ee++ [r.aw4])++flat kids)++ [r.aZt]=evs++flat (l.take (i+1)) by rw[at7 HU.out,←HEe.out];simp)
     have HKt:=aag (show kk+1+cnt kids=k+cnt (l.take (i+1)) by rw[HSp.out,←HKk.out];omega)
     clear hM7 hk7 amr a0 y12 b0 b1 hnF
     go_wp2_with (at_builtin;refine holdT ?_)
     refine aag ?_
     refine wpList_append_own_at _ rfl (.tmp 59) (.tmp 65) 71 rfl w.heap.size 109 i98 (.agg #[.int .i64 0,.int .i64 0,.int .i64 0,.slice none 0 0,.int .i64 0,.int .i64 0,.string ⟨#[]⟩,.slice none 0 0]) 8 104 aum aTw aTz aTC aTE rfl (by decide) (.slice q7 nF c7) nF (ahO (ee++ [r.aw4]++flat kids)) rfl (HR7.out.alloc _) ⟨W7.heap.size,0,none⟩ 1 1 [.int .i64 3,.int .i64 0,.int .i64 r.addr,.slice none 0 0,.int .i64 r.wk,.int .i64 r.wm,.string r.ws,.slice r.wp r.wn r.wc] rfl rfl
      (af2 (cs:=#[.int .i64 3,.int .i64 0,.int .i64 r.addr,.slice none 0 0,.int .i64 r.wk,.int .i64 r.wm,.string r.ws,.slice r.wp r.wn r.wc]) (t:=109) (fr:=(0,0)) (aaL W7 (.cells #[.int .i64 3,.int .i64 0,.int .i64 r.addr,.slice none 0 0,.int .i64 r.wk,.int .i64 r.wm,.string r.ws,.slice r.wp r.wn r.wc] 109))) (by simp[Value.oneCell']) (by unfold maxLen;omega) (by omega) (by have:=HS7.out;rw[aaS];omega) ?_
     intro v9 w9 hown hgrow hnil aZD
     obtain⟨g9,blV,rfl⟩:=aiI hown
     rw[HNF.out]at hown
     obtain⟨blY,hM9,hk9⟩:=HM7.out.push (t:=r.aZt) hgrow hown
     rw[←HNF.out]at hM9 hk9
     have b0:=cell_of_block blY 0
     have b1:=abu blY 0
     simp at b0
     have HM9:=aag hM9
     have HK9:=aag (hk9.mono (T:=fun g=>g=bn∨g=bo∨(Value.slice q7 nF c7).ownBlock=some g) fun _ _ x=> .inr x)
     have HB9:=aag (HB7.out.far HM7.out HK9.out)
     have blZ:=aag (ahQ aMf.out aFr.out HK9.out)
     have bl0:=aag (amE aMf.out.size aFr.out (at_new aZD))
     clear hown hgrow hnil aZD blY hM9 hk9 b0' b1' y2 y8 y9 y10 y11
     go_wp2_with fail
     go_roundw
     case rel=>exact⟨i+1,_,by omega,by go_num,by rw[←HL.out,←HKt.out];exact HM9.out,HB9.out,blZ.out,bl0.out⟩
     case measure=>simp[intOf]<;>omega
    |false=>
     go_wp2_with (at_builtin;refine holdT ?_)
     refine aag ?_
     obtain⟨Wc,hWc⟩ :∃Wc,Wc=(wr.setCell ⟨bn,0,none⟩ (.int .i64 ((kk:Int)+1))).alloc (.cells #[.bool false,.int .i64 r.site,.int .i64 r.addr,.slice r.pa r.na r.ca,.int .i64 r.sk,.int .i64 r.sm,.string r.ss,.slice r.sp r.sn r.sc,.int .i64 r.wk,.int .i64 r.wm,.string r.ws,.slice r.wp r.wn r.wc,.slice pk kids.length ck] 91):=⟨_,rfl⟩
     rw[←hWc]
     have hMc:ag2 w Wc bn bo (.slice qv nE cv) ee (kk+1):=by rw[hWc];exact HMi.out.count.1.keeps (Keeps.alloc _ _)
     have hkc:Kept (fun g=>g=bn) wr Wc:=by rw[hWc];exact HMi.out.count.2.alloc _
     have hsz:(wr.setCell ⟨bn,0,none⟩ (.int .i64 ((kk:Int)+1))).heap.size=wr.heap.size:=by simp[World.setCell]
     have hNc:Wc.heap[wr.heap.size]? =some (.cells #[.bool false,.int .i64 r.site,.int .i64 r.addr,.slice r.pa r.na r.ca,.int .i64 r.sk,.int .i64 r.sm,.string r.ss,.slice r.sp r.sn r.sc,.int .i64 r.wk,.int .i64 r.wm,.string r.ws,.slice r.wp r.wn r.wc,.slice pk kids.length ck] 91 (0,0)):=by
      rw[hWc]
      have h9:=aaL (wr.setCell ⟨bn,0,none⟩ (.int .i64 ((kk:Int)+1))) (.cells #[.bool false,.int .i64 r.site,.int .i64 r.addr,.slice r.pa r.na r.ca,.int .i64 r.sk,.int .i64 r.sm,.string r.ss,.slice r.sp r.sn r.sc,.int .i64 r.wk,.int .i64 r.wm,.string r.ws,.slice r.wp r.wn r.wc,.slice pk kids.length ck] 91)
      rw[hsz]at h9
      exact h9
     have hWl:Wc.heap.size=wr.heap.size+1:=by rw[hWc,aaS,hsz]
     have HMc:=aag hMc
     have HKc:=aag hkc
     have HNc:=aag hNc
     have HWl:=aag hWl
     have HRc:=aag (show Wc.ownsRow w.heap.size 109 8 (.slice qv nE cv) nE (ahO ee) by have h9:=hMc.row;rw[←HNE.out]at h9;exact h9)
     have HSc:=aag hMc.kept.size
     have HBc:=aag (HBi.out.far HMi.out (hkc.mono fun _ _ x=> .inl x))
     clear hWc hMc hkc hsz hNc hWl x0 x1 x2 x3 x4 x5 x6 x7 x8 x9 x10 x11 x12 t0 t1 b0 b1
     refine wpList_append_own_at _ rfl (.tmp 27) (.tmp 35) 71 rfl w.heap.size 109 i98 (.agg #[.int .i64 0,.int .i64 0,.int .i64 0,.slice none 0 0,.int .i64 0,.int .i64 0,.string ⟨#[]⟩,.slice none 0 0]) 8 104 aum aTw aTz aTC aTE rfl (by decide) (.slice qv nE cv) nE (ahO ee) rfl (HRc.out.alloc _) ⟨wr.heap.size+1,0,none⟩ 1 1 [.int .i64 2,.int .i64 r.site,.int .i64 r.addr,.slice none 0 0,.int .i64 r.sk,.int .i64 r.sm,.string r.ss,.slice r.sp r.sn r.sc] rfl rfl
      (af2 (cs:=#[.int .i64 2,.int .i64 r.site,.int .i64 r.addr,.slice none 0 0,.int .i64 r.sk,.int .i64 r.sm,.string r.ss,.slice r.sp r.sn r.sc]) (t:=109) (fr:=(0,0)) (by have h9:=aaL Wc (.cells #[.int .i64 2,.int .i64 r.site,.int .i64 r.addr,.slice none 0 0,.int .i64 r.sk,.int .i64 r.sm,.string r.ss,.slice r.sp r.sn r.sc] 109);rw[HWl.out]at h9;exact h9)) (by simp[Value.oneCell']) (by unfold maxLen;omega) (by omega) (by have:=HSc.out;rw[aaS];omega) ?_
     intro v5 w5 hown hgrow hnil aoX
     obtain⟨g5,cap5,rfl⟩:=aiI hown
     rw[HNE.out]at hown
     obtain⟨aqG,hM5,hk5⟩:=HMc.out.push (t:=r.aPj) hgrow hown
     rw[←HNE.out]at hM5 hk5
     have b0:=cell_of_block aqG 0
     have b1:=abu aqG 0
     simp at b0
     have HM5:=aag hM5
     have HK5:=aag (hk5.mono (T:=fun g=>g=bn∨g=bo∨(Value.slice qv nE cv).ownBlock=some g) fun _ _ x=> .inr x)
     have HN5:=aag (HMc.out.far HK5.out HNc.out (by decide) (by decide) (by decide))
     have HB5:=aag (HBc.out.far HMc.out HK5.out)
     have HA5:=aag (at_new aoX)
     have a0:=cell_of_block HB5.out.hba 0
     have y12:=cell_of_block HN5.out 12
     simp at a0 y12
     clear hown hgrow hnil aoX aqG hM5 hk5
     have HC:=aag (HI.out kids (.slice pk kids.length ck) _ _ (ee++ [r.aPj]) (kk+1) (deep+1) aw5.out HM5.out HB5.out hkb hdb (by rw[aa1,←HNE.out];simp;omega))
     rw[show((deep+1:Nat):Int)=(deep:Int)+1 by omega]at HC
     go_wp2_with (go_at_call 89;refine holdT ?_)
     refine aag ?_
     refine HC.out.mono ?_
     rintro _ W7 ⟨v7,rfl,hM7,hk7,amr⟩
     have HM7:=aag hM7
     have HB7:=aag (HB5.out.far HM5.out hk7)
     have hszW:W.heap.size≤Wc.heap.size:=aa7 HKw.out.size HKc.out.size
     have aTF:=aag (ahQ HKw.out HAt.out (HKc.out.mono fun _ _ x=> .inl x))
     have aTI:=aag (ahQ aTF.out HAt.out HK5.out)
     have aFq:=aag (amE hszW HAt.out HA5.out)
     have aMf:=aag (ahQ aTI.out aFq.out hk7)
     have aFr:=aag (amE (aa7 hszW HK5.out.size) aFq.out amr)
     have HL:=aag (show(ee++ [r.aPj])++flat kids=evs++flat (l.take (i+1)) by rw[at7 HU.out,←HEe.out];simp)
     have HKt:=aag (show kk+1+cnt kids=k+cnt (l.take (i+1)) by rw[HSp.out,←HKk.out];omega)
     clear hM7 hk7 amr a0 y12 b0 b1
     go_wp2_with fail
     go_roundw
     case rel=>exact⟨i+1,v7,by omega,by go_num,by rw[←HL.out,←HKt.out];exact HM7.out,HB7.out,aMf.out,aFr.out⟩
     case measure=>simp[intOf]<;>omega
   ·obtain rfl:i=n:=by omega
    have hM':=hM
    rw[HN.out,ab1]at hM'
    have HMe:=aag hM'
    have HAt:=aag hat
    have k6:¬(i:Int)<i:=by omega
    clear hM hM' hB hkw hat
    go_wp2_with fail
    refine bodyPost_ret (results_none rfl _ _ _) rfl ?_
    exact⟨vi,rfl,HMe.out,HKw.out,HAt.out⟩
theorem run_store_func {P:Program}{w:World}{a:Addr}{m:Mode}(f:Fn)(x y:Array Value):(store a (.func f x y) m).run P w=stored P w a (.func f x y) m:=run_store P w a _ m rfl
attribute [local go_sem] run_store_func
def aPn (w:World)(l:List NP)(x:Ending)(w':World):Prop:=∃vo,x= .returned (.tuple #[vo,.bool true])∧w'.ownsRow w.heap.size 109 8 vo (flat l).length (ahO (flat l))∧Keeps w w'
theorem aTK (e d:Nat)(w:World)(A:Nat→Prop)(l:List NP)(v:Value)(h:anK w A e d l v)(hc:cnt l≤600):Calls Tryz.prog 40 #[v] w (aPn w l):=by
 have H:=aag h
 obtain⟨p,c,rfl⟩:=h.form
 obtain⟨n,hn⟩ :∃n,n=l.length:=⟨_,rfl⟩
 rw[←hn]at H ⊢
 obtain⟨W0,hW0⟩ :∃W0,W0=((((w.alloc (.cells #[.slice none 0 0] 71)).alloc (.cells #[.int .i64 0] 3)).alloc (.cells #[.bool true] 4)).alloc (.cells #[.func (.func 89) #[] #[.pointer (some ⟨w.heap.size+1,0,none⟩),.pointer (some ⟨w.heap.size+1+1,0,none⟩),.pointer (some ⟨w.heap.size,0,none⟩),.pointer (some ⟨w.heap.size+1+1+1,0,none⟩)]] 157)):=⟨_,rfl⟩
 have h1:(w.alloc (.cells #[.slice none 0 0] 71)).heap.size=w.heap.size+1:=aaS _ _
 have h2:((w.alloc (.cells #[.slice none 0 0] 71)).alloc (.cells #[.int .i64 0] 3)).heap.size=w.heap.size+1+1:=by rw[aaS,h1]
 have h3:(((w.alloc (.cells #[.slice none 0 0] 71)).alloc (.cells #[.int .i64 0] 3)).alloc (.cells #[.bool true] 4)).heap.size=w.heap.size+1+1+1:=by rw[aaS,h2]
 have hk0:Keeps w W0:=by rw[hW0];exact(((Kept.refl _ w).alloc _).alloc _).alloc _ |>.alloc _
 have hbo:W0.heap[w.heap.size]? =some (.cells #[.slice none 0 0] 71 (0,0)):=by
  rw[hW0];exact heap_alloc_old _ (heap_alloc_old _ (heap_alloc_old _ (aaL _ _)))
 have hbn:W0.heap[w.heap.size+1]? =some (.cells #[.int .i64 ((0:Nat):Int)] 3 (0,0)):=by
  have h9:=aaL (w.alloc (.cells #[.slice none 0 0] 71)) (.cells #[.int .i64 0] 3)
  rw[h1]at h9
  rw[hW0];exact heap_alloc_old _ (heap_alloc_old _ h9)
 have hbf:W0.heap[w.heap.size+1+1]? =some (.cells #[.bool true] 4 (0,0)):=by
  have h9:=aaL ((w.alloc (.cells #[.slice none 0 0] 71)).alloc (.cells #[.int .i64 0] 3)) (.cells #[.bool true] 4)
  rw[h2]at h9
  rw[hW0];exact heap_alloc_old _ h9
 have hba:W0.heap[w.heap.size+1+1+1]? =some (.cells #[.func (.func 89) #[] #[.pointer (some ⟨w.heap.size+1,0,none⟩),.pointer (some ⟨w.heap.size+1+1,0,none⟩),.pointer (some ⟨w.heap.size,0,none⟩),.pointer (some ⟨w.heap.size+1+1+1,0,none⟩)]] 157 (0,0)):=by
  have h9:=aaL (((w.alloc (.cells #[.slice none 0 0] 71)).alloc (.cells #[.int .i64 0] 3)).alloc (.cells #[.bool true] 4)) (.cells #[.func (.func 89) #[] #[.pointer (some ⟨w.heap.size+1,0,none⟩),.pointer (some ⟨w.heap.size+1+1,0,none⟩),.pointer (some ⟨w.heap.size,0,none⟩),.pointer (some ⟨w.heap.size+1+1+1,0,none⟩)]] 157)
  rw[h3]at h9
  rw[hW0];exact h9
 have hM:ag2 w W0 (w.heap.size+1) w.heap.size (.slice none 0 0) [] 0:=⟨hk0,ab5 _,aai _,hbn,hbo,acW _ _ _ _⟩
 have HC:=aag (a2Y e w A (w.heap.size+1) (w.heap.size+1+1) w.heap.size (w.heap.size+1+1+1) d l (.slice p n c) W0 (.slice none 0 0) [] 0 1 H.out hM ⟨hbf,hba⟩ (by omega) (by omega) (ab6 _))
 have HM0:=aag hM
 have HBf:=aag hbf
 have HW0:=aag hW0
 clear hW0 h1 h2 h3 hk0 hbo hbn hbf hba hM
 clear h hn
 go_enter Tryz.func40,Tryz.ntmps40
 go_wp2_with (go_at_call 89;refine holdT ?_)
 refine aag ?_
 rw[←HW0.out]
 refine HC.out.mono ?_
 rintro _ W7 ⟨v7,rfl,hM7,hk7,_⟩
 have b0:=cell_of_block hM7.hbo 0
 have b1:=cell_of_block (HM0.out.far hk7 HBf.out (by decide) (by decide) (by decide)) 0
 simp at b0 b1
 have HK7:=aag hM7.kept
 have HR7:=aag hM7.row
 clear hM7 hk7
 go_wp2_with fail
 go_quiet (fail)
 go_wp2_with fail
 go_ret2
 exact⟨v7,rfl,by simpa using ac5 (w':=World.drewN _ _) HR7.out fun g hg=>rfl,Kept.drewN HK7.out _⟩
def bay (w W:World)(bn bo:Nat)(v:Value)(evs:List ET)(k:Nat)(l:List NP)(x:Ending)(W':World):Prop:=
 ∃v',x= .returned (.bool true)∧ag2 w W' bn bo v' (evs++flat l) (k+cnt l)∧Kept (fun g=>g=bn∨g=bo∨v.ownBlock=some g) W W'∧(v'.ownBlock=v.ownBlock∨∃g,v'.ownBlock=some g∧W.heap.size≤g)
theorem aZE (e:Nat)(w:World)(A0:Nat→Prop)(bn bo:Nat):∀(d:Nat)(l:List NP)(v:Value)(W:World)(vo:Value)(evs:List ET)(k deep:Nat),anK w A0 e d l v→ag2 w W bn bo vo evs k→k+cnt l≤30000→deep+cnt l≤30000→evs.length≤2*k→
 Calls Tryz.prog 97 #[v,.int .i64 deep,.pointer (some ⟨bn,0,none⟩),.pointer (some ⟨bo,0,none⟩)] W (bay w W bn bo vo evs k l):=by
 intro d
 induction d with
 |zero=>
  intro l v W vo evs k deep h hM hk hdp hev
  obtain⟨rfl,p,c,rfl⟩:=h
  have HM:=aag hM
  clear hM
  go_enter Tryz.func97,Tryz.ntmps97
  go_wp2_with fail
  go_loopw [9] (fun q W'=>q= .int .i64 0∧W'=W) (fun _ _=>0)
  case atStart=>exact⟨rfl,rfl⟩
  case round=>
   obtain⟨rfl,rfl⟩:=hrel
   go_wp2_with fail
   go_ret
   exact⟨vo,rfl,by simpa[flat,cnt]using HM.out,Kept.refl _ _,.inl rfl⟩
 |succ d ih=>
  intro l v W vo evs k deep h hM hk hdp hev
  have HI:=aag ih
  have H:=aag h
  have HM:=aag hM
  obtain⟨p,c,rfl⟩:=h.form
  have hln:=atZ l
  obtain⟨i98,aTw,aTz,aTC,aTE⟩:=info_parts aXf
  obtain⟨n,hn⟩ :∃n,n=l.length:=⟨_,rfl⟩
  rw[←hn]
  rw[←hn]at H hln
  have HN:=aag hn
  clear ih h hM hn
  go_enter Tryz.func97,Tryz.ntmps97
  go_wp2_with fail
  go_loopw [9] (fun q W'=>∃(i:Nat)(vi:Value),i≤n∧q= .int .i64 i∧ag2 w W' bn bo vi (evs++flat (l.take i)) (k+cnt (l.take i))∧Kept (fun g=>g=bn∨g=bo∨vo.ownBlock=some g) W W'∧(vi.ownBlock=vo.ownBlock∨∃g,vi.ownBlock=some g∧W.heap.size≤g)) (fun q _=>n - (intOf q).toNat)
  case atStart=>exact⟨0,vo,ab6 _,rfl,by simpa[flat,cnt]using HM.out,Kept.refl _ _,.inl rfl⟩
  case round=>
   obtain⟨i,vi,hi,rfl,hM,hkw,hat⟩:=hrel
   have HKw:=aag hkw
   have k7:(0:Int)≤i:=by omega
   by_cases hil:i<n
   ·obtain⟨nd,hu⟩ :∃nd,l[i]? =some nd:=⟨_,aaw (by rw[←HN.out];exact hil)⟩
    obtain⟨mod,r,kids⟩:=nd
    have k6:(i:Int)<n:=by omega
    obtain⟨d',g,o,pk,ck,hd,rfl,hg,hc,hta,hts,htw,hkids⟩:=H.out.node hu
    obtain rfl:d'=d:=by omega
    have hpart:=aPm hu
    have hsplit:=aE8 hu
    have HX:=aag (fun(W':World)(hW:Keeps w W')=>show W'.cell? ⟨g,o+i*13,none⟩=some (.bool mod)∧W'.cell? ⟨g,o+i*13+1,none⟩=some (.int .i64 r.site)∧W'.cell? ⟨g,o+i*13+2,none⟩=some (.int .i64 r.addr)∧W'.cell? ⟨g,o+i*13+3,none⟩=some (.slice r.pa r.na r.ca)∧
     W'.cell? ⟨g,o+i*13+4,none⟩=some (.int .i64 r.sk)∧W'.cell? ⟨g,o+i*13+5,none⟩=some (.int .i64 r.sm)∧W'.cell? ⟨g,o+i*13+6,none⟩=some (.string r.ss)∧W'.cell? ⟨g,o+i*13+7,none⟩=some (.slice r.sp r.sn r.sc)∧
     W'.cell? ⟨g,o+i*13+8,none⟩=some (.int .i64 r.wk)∧W'.cell? ⟨g,o+i*13+9,none⟩=some (.int .i64 r.wm)∧W'.cell? ⟨g,o+i*13+10,none⟩=some (.string r.ws)∧W'.cell? ⟨g,o+i*13+11,none⟩=some (.slice r.wp r.wn r.wc)∧W'.cell? ⟨g,o+i*13+12,none⟩=some (.slice pk kids.length ck) from
     ⟨aaF hW (hc 0 _ rfl),aaF hW (hc 1 _ rfl),aaF hW (hc 2 _ rfl),aaF hW (hc 3 _ rfl),aaF hW (hc 4 _ rfl),aaF hW (hc 5 _ rfl),aaF hW (hc 6 _ rfl),aaF hW (hc 7 _ rfl),aaF hW (hc 8 _ rfl),aaF hW (hc 9 _ rfl),aaF hW (hc 10 _ rfl),aaF hW (hc 11 _ rfl),aaF hW (hc 12 _ rfl)⟩)
    generalize hkk:k+cnt (l.take i)=kk at hM
    generalize hee:evs++flat (l.take i)=ee at hM
    have hel:ee.length≤2*kk:=by
     have:=amD (l.take i)
     rw[←hee,aa1]
     omega
    have hkb:kk+1+cnt kids≤30000:=by omega
    have hdb:deep+1+cnt kids≤30000:=by omega
    obtain⟨qv,cv,rfl⟩:=hM.form
    obtain⟨nE,hnE⟩ :∃nE,nE=ee.length:=⟨_,rfl⟩
    rw[←hnE]at hM hat hel
    have HNE:=aag hnE
    have t0:wr.cell? ⟨bn,0,none⟩=some (.int .i64 kk):=by rw[cell_of_block hM.hbn];rfl
    have t1:=abu hM.hbn 0
    have j1:decide ((30000:Int)<(kk:Int)+1)=false:=by simp;omega
    have j2:decide ((30000:Int)<(deep:Int))=false:=by simp;omega
    have hMc:=hM.count
    obtain⟨Wc,hWc⟩ :∃Wc,Wc=wr.setCell ⟨bn,0,none⟩ (.int .i64 ((kk:Int)+1)):=⟨_,rfl⟩
    rw[←hWc]at hMc
    obtain⟨x0,x1,x2,x3,x4,x5,x6,x7,x8,x9,x10,x11,x12⟩:=HX.out _ hMc.1.kept
    have b0:Wc.cell? ⟨bo,0,none⟩=some (.slice qv nE cv):=by rw[cell_of_block hMc.1.hbo];rfl
    have b1:=abu hMc.1.hbo 0
    rw[hWc]at x0
    have HWc:=aag hWc
    have HU:=aag hu
    have aw5:=aag hkids
    have HEe:=aag hee
    have HKk:=aag hkk
    have HSp:=aag hsplit
    have HAt:=aag hat
    have HMc:=aag hMc.1
    have HKc:=aag hMc.2
    have hlb:=acO hM.hbn
    clear hc hg hta hts htw hu hkids hd hee hkk hsplit hM hkw hat hpart hnE hMc hWc
    cases mod with
    |true=>
     go_wp2_with fail
     rw[←HWc.out]
     clear x4 x5 x6 x7 x8 x9 x10 x11 x12 x0 t0 t1
     refine aop 20 (fun W'=>W'.cell? ⟨bo,0,none⟩=some (.slice qv nE cv)∧W'.cell? ⟨g,o+i*13+1,none⟩=some (.int .i64 r.site)∧W'.cell? ⟨g,o+i*13+2,none⟩=some (.int .i64 r.addr)∧W'.cell? ⟨g,o+i*13+3,none⟩=some (.slice r.pa r.na r.ca)) (by kernel_rfl) (by kernel_rfl) (by rintro c ⟨_,_⟩ ⟨_,_⟩ w rfl h;exact h) ⟨b0,x1,x2,x3⟩ ?_
     simp only[ac6,agN,afY,aiH]
     refine⟨?_,Or.inl ⟨by rfl,?_⟩,?_⟩
     rotate_left
     ·intro W2 hW2
      obtain⟨s0,s1,s2,s3⟩:=hW2
      go_simp
      try with_reducible rfl
     simp only[Act.put,aan,aas,aau]
     refine⟨?_,Or.inl ⟨by rfl,?_⟩,?_⟩
     rotate_left
     ·intro W2 hW2
      obtain⟨s0,s1,s2,s3⟩:=hW2
      go_simp
      try with_reducible rfl
     simp only[Act.put,aan,aas,aau]
     refine⟨?_,Or.inl ⟨by rfl,?_⟩,?_⟩
     rotate_left
     ·intro W2 hW2
      obtain⟨s0,s1,s2,s3⟩:=hW2
      go_simp
      try with_reducible rfl
     simp only[Act.put,aan,aas,aau]
     refine⟨?_,Or.inl ⟨by rfl,?_⟩,?_⟩
     rotate_left
     ·intro W2 hW2
      obtain⟨s0,s1,s2,s3⟩:=hW2
      go_simp
      try with_reducible rfl
     simp only[Act.put,aan,aas,aau]
     refine⟨?_,Or.inl ⟨by rfl,?_⟩,?_⟩
     rotate_left
     ·intro W2 hW2
      obtain⟨s0,s1,s2,s3⟩:=hW2
      go_simp
      try with_reducible rfl
     simp only[Act.put,aan,aas,aau]
     refine⟨?_,Or.inl ⟨by rfl,?_⟩,?_⟩
     rotate_left
     ·intro W2 hW2
      obtain⟨s0,s1,s2,s3⟩:=hW2
      go_simp
      try with_reducible rfl
     simp only[Act.put,aan,aas,aau]
     refine⟨?_,Or.inl ⟨by rfl,?_⟩,?_⟩
     rotate_left
     ·intro W2 hW2
      obtain⟨s0,s1,s2,s3⟩:=hW2
      go_simp
      try with_reducible rfl
     simp only[Act.put,aan,aas,aau]
     refine⟨?_,Or.inl ⟨by rfl,?_⟩,?_⟩
     rotate_left
     ·intro W2 hW2
      obtain⟨s0,s1,s2,s3⟩:=hW2
      go_simp
      try with_reducible rfl
     simp only[Act.put,aan,aas,aau]
     refine⟨?_,Or.inl ⟨by rfl,?_⟩,?_⟩
     rotate_left
     ·intro W2 hW2
      obtain⟨s0,s1,s2,s3⟩:=hW2
      go_simp
      try with_reducible rfl
     simp only[Act.put,aan,aas,aau]
     refine⟨?_,Or.inl ⟨by rfl,?_⟩,?_⟩
     rotate_left
     ·intro W2 hW2
      obtain⟨s0,s1,s2,s3⟩:=hW2
      go_simp
      try with_reducible rfl
     simp only[Act.put,aan,aas,aau]
     refine⟨?_,Or.inl ⟨by rfl,?_⟩,?_⟩
     rotate_left
     ·intro W2 hW2
      obtain⟨s0,s1,s2,s3⟩:=hW2
      go_simp
      try with_reducible rfl
     simp only[Act.put,aan,aas,aau]
     refine⟨?_,Or.inl ⟨by rfl,?_⟩,?_⟩
     rotate_left
     ·intro W2 hW2
      obtain⟨s0,s1,s2,s3⟩:=hW2
      go_simp
      try with_reducible rfl
     simp only[Act.put,aan,aas,aau]
     refine⟨?_,Or.inl ⟨by rfl,?_⟩,?_⟩
     rotate_left
     ·intro W2 hW2
      obtain⟨s0,s1,s2,s3⟩:=hW2
      go_simp
      try with_reducible rfl
     simp only[Act.put,aan,aas,aau]
     refine⟨?_,Or.inl ⟨by rfl,?_⟩,?_⟩
     rotate_left
     ·intro W2 hW2
      obtain⟨s0,s1,s2,s3⟩:=hW2
      go_simp
      try with_reducible rfl
     simp only[Act.put,aan,aas,aau]
     refine⟨?_,Or.inl ⟨by rfl,?_⟩,?_⟩
     rotate_left
     ·intro W2 hW2
      obtain⟨s0,s1,s2,s3⟩:=hW2
      go_simp
      try with_reducible rfl
     simp only[Act.put,aan,aas,aau]
     refine⟨?_,Or.inl ⟨by rfl,?_⟩,?_⟩
     rotate_left
     ·intro W2 hW2
      obtain⟨s0,s1,s2,s3⟩:=hW2
      go_simp
      try with_reducible rfl
     simp only[Act.put,aan,aas,aau]
     refine⟨?_,Or.inl ⟨by rfl,?_⟩,?_⟩
     rotate_left
     ·intro W2 hW2
      obtain⟨s0,s1,s2,s3⟩:=hW2
      go_simp
      try with_reducible rfl
     simp only[Act.put,aan,aas,aau]
     refine⟨?_,Or.inl ⟨by rfl,?_⟩,?_⟩
     rotate_left
     ·intro W2 hW2
      obtain⟨s0,s1,s2,s3⟩:=hW2
      go_simp
      try with_reducible rfl
     simp only[Act.put,aan,aas,aau]
     refine⟨?_,Or.inl ⟨by rfl,?_⟩,?_⟩
     rotate_left
     ·intro W2 hW2
      obtain⟨s0,s1,s2,s3⟩:=hW2
      go_simp
      try with_reducible rfl
     simp only[Act.put,aan,aas,aau]
     refine⟨?_,Or.inl ⟨by rfl,?_⟩,?_⟩
     rotate_left
     ·intro W2 hW2
      obtain⟨s0,s1,s2,s3⟩:=hW2
      go_simp
      try with_reducible rfl
     simp only[Act.put,aan,aas,aau]
     unfold alK
     refine atW rfl rfl ?_
     go_simp
     have hka:Keeps Wc (Wc.alloc (.cells #[.int .i64 1,.int .i64 r.site,.int .i64 r.addr,.slice r.pa r.na r.ca,.int .i64 0,.int .i64 0,.string ⟨#[]⟩,.slice none 0 0] 109)).drew:=Kept.drew (Keeps.alloc _ _)
     refine⟨⟨aaF hka b0,aaF hka x1,aaF hka x2,aaF hka x3⟩,atW rfl rfl ?_⟩
     refine wp_append_lies _ (.tmp 38) (.tmp 55) 71 (by rfl) w.heap.size 109 i98 (.agg #[.int .i64 0,.int .i64 0,.int .i64 0,.slice none 0 0,.int .i64 0,.int .i64 0,.string ⟨#[]⟩,.slice none 0 0]) 8 104 aum aTw aTz aTC aTE rfl (by decide) (.slice qv nE cv) nE (ahO ee) (by rfl) ((show Wc.ownsRow w.heap.size 109 8 (.slice qv nE cv) nE (ahO ee) by have h9:=HMc.out.row;rw[←HNE.out]at h9;exact h9).alloc _ |>.drew) ⟨Wc.heap.size,0,none⟩ 1 1 [.int .i64 1,.int .i64 r.site,.int .i64 r.addr,.slice r.pa r.na r.ca,.int .i64 0,.int .i64 0,.string ⟨#[]⟩,.slice none 0 0] (by rfl) (by rfl)
      (af2 (cs:=#[.int .i64 1,.int .i64 r.site,.int .i64 r.addr,.slice r.pa r.na r.ca,.int .i64 0,.int .i64 0,.string ⟨#[]⟩,.slice none 0 0]) (t:=109) (fr:=(0,0)) (aaL Wc (.cells #[.int .i64 1,.int .i64 r.site,.int .i64 r.addr,.slice r.pa r.na r.ca,.int .i64 0,.int .i64 0,.string ⟨#[]⟩,.slice none 0 0] 109))) (by simp[Value.oneCell']) (by omega) (by unfold maxLen;omega) (by omega) (by have:=HMc.out.kept.size;show w.heap.size≤(Wc.alloc _).heap.size;rw[aaS];omega) _ rfl ?_
     intro g5 cap5 w5 hown hgrow aoX bl5
     rw[HNE.out]at hown
     obtain⟨aqG,hM5,hk5⟩:=HMc.out.push (t:=r.aw4) (O:= .cells #[.int .i64 1,.int .i64 r.site,.int .i64 r.addr,.slice r.pa r.na r.ca,.int .i64 0,.int .i64 0,.string ⟨#[]⟩,.slice none 0 0] 109) ⟨hgrow.os,hgrow.tape,hgrow.output,hgrow.size,hgrow.block⟩ hown
     rw[←HNE.out]at hM5 hk5
     have bl6:Keeps w w5:=Kept.trans HMc.out.kept (((Kept.refl (fun g=>(Value.slice qv nE cv).ownBlock=some g) Wc).alloc (.cells #[.int .i64 1,.int .i64 r.site,.int .i64 r.addr,.slice r.pa r.na r.ca,.int .i64 0,.int .i64 0,.string ⟨#[]⟩,.slice none 0 0] 109)).drew.grown hgrow (fun g hg _=>hg)) (fun g hg hx=>by have h9:=(HMc.out.row.lt g hx).1;omega)
     obtain⟨z0,z1,z2,z3,z4,z5,z6,z7,z8,z9,z10,z11,z12⟩:=HX.out _ bl6
     have c0:=cell_of_block aqG 0
     have c1:=abu aqG 0
     have hlo5:=acO aqG
     simp at c0
     have HM5:=aag hM5
     have HK5:=aag (hk5.mono (T:=fun g=>g=bn∨g=bo∨(Value.slice qv nE cv).ownBlock=some g) fun _ _ x=> .inr x)
     have HA5:=aag (show(Value.slice (some ⟨g5,0,none⟩) (nE+1) cap5).ownBlock=(Value.slice qv nE cv).ownBlock∨∃g,(Value.slice (some ⟨g5,0,none⟩) (nE+1) cap5).ownBlock=some g∧Wc.heap.size≤g from by
      rcases aoX with h|h
      ·exact .inl h.symm
      ·refine .inr ⟨_,rfl,?_⟩
       rw[h]
       show Wc.heap.size≤(Wc.alloc _).heap.size
       rw[aaS]
       exact ab5 _)
     refine⟨⟨c0,z1,z2,z3⟩,?_⟩
     clear hown hgrow aoX hM5 hk5 z0 z1 z2 z3 z4 z5 z6 z7 z8 z9 z10 z11 b0 x1 x2 x3 hka
     have hszW:W.heap.size≤Wc.heap.size:=aa7 HKw.out.size HKc.out.size
     have HC:=aag (HI.out kids (.slice pk kids.length ck) _ _ (ee++ [r.aw4]) (kk+1) (deep+1) aw5.out HM5.out hkb hdb (by rw[aa1,←HNE.out];simp;omega))
     rw[show((deep+1:Nat):Int)=(deep:Int)+1 by omega]at HC
     have bl8:=(HX.out _ HM5.out.kept).2.2.2.2.2.2.2.2.2.2.2.2
     have aTF:=aag (ahQ HKw.out HAt.out (HKc.out.mono fun _ _ x=> .inl x))
     have aTI:=aag (ahQ aTF.out HAt.out HK5.out)
     have aFq:=aag (amE hszW HAt.out HA5.out)
     clear z12
     go_wp2_with (go_at_call 97;refine holdT ?_)
     refine aag ?_
     refine HC.out.mono ?_
     rintro _ W7 ⟨v7,rfl,hM7,hk7,amr⟩
     have aMf:=aag (ahQ aTI.out aFq.out hk7)
     have aFr:=aag (amE (aa7 hszW HK5.out.size) aFq.out amr)
     obtain⟨x0,x1,x2,x3,x4,x5,x6,x7,x8,x9,x10,x11,x12⟩:=HX.out _ hM7.kept
     clear c0 c1 bl8 hk7 amr aqG hlo5
     obtain⟨q7,c7,rfl⟩:=hM7.form
     obtain⟨nF,hnF⟩ :∃nF,nF=(ee++ [r.aw4]++flat kids).length:=⟨_,rfl⟩
     have bGd:nF≤60000:=by
      have h9:=amD kids
      rw[hnF,aa1,aa1,←HNE.out]
      simp
      omega
     rw[←hnF]at aFr hM7
     have HNF:=aag hnF
     have HM7:=aag hM7
     have b0:=cell_of_block hM7.hbo 0
     simp at b0
     have HL:=aag (show((ee++ [r.aw4])++flat kids)++ [r.aZt]=evs++flat (l.take (i+1)) by rw[at7 HU.out,←HEe.out];simp)
     have HKt:=aag (show kk+1+cnt kids=k+cnt (l.take (i+1)) by rw[HSp.out,←HKk.out];omega)
     clear hM7 hnF
     go_wp2_with fail
     clear x0 x1 x3 x4 x5 x6 x7 x12
     refine aop 15 (fun W'=>W'.cell? ⟨bo,0,none⟩=some (.slice q7 nF c7)∧W'.cell? ⟨g,o+i*13+2,none⟩=some (.int .i64 r.addr)∧W'.cell? ⟨g,o+i*13+8,none⟩=some (.int .i64 r.wk)∧W'.cell? ⟨g,o+i*13+9,none⟩=some (.int .i64 r.wm)∧W'.cell? ⟨g,o+i*13+10,none⟩=some (.string r.ws)∧W'.cell? ⟨g,o+i*13+11,none⟩=some (.slice r.wp r.wn r.wc)) (by kernel_rfl) (by kernel_rfl) (by rintro c ⟨_,_⟩ ⟨_,_⟩ w rfl h;exact h) ⟨b0,x2,x8,x9,x10,x11⟩ ?_
     simp only[ac6,agN,afY,aiH]
     refine⟨?_,Or.inl ⟨by rfl,?_⟩,?_⟩
     rotate_left
     ·intro W2 hW2
      obtain⟨s0,s1,s2,s3,s4,s5⟩:=hW2
      go_simp
      try with_reducible rfl
     simp only[Act.put,aan,aas,aau]
     refine⟨?_,Or.inl ⟨by rfl,?_⟩,?_⟩
     rotate_left
     ·intro W2 hW2
      obtain⟨s0,s1,s2,s3,s4,s5⟩:=hW2
      go_simp
      try with_reducible rfl
     simp only[Act.put,aan,aas,aau]
     refine⟨?_,Or.inl ⟨by rfl,?_⟩,?_⟩
     rotate_left
     ·intro W2 hW2
      obtain⟨s0,s1,s2,s3,s4,s5⟩:=hW2
      go_simp
      try with_reducible rfl
     simp only[Act.put,aan,aas,aau]
     refine⟨?_,Or.inl ⟨by rfl,?_⟩,?_⟩
     rotate_left
     ·intro W2 hW2
      obtain⟨s0,s1,s2,s3,s4,s5⟩:=hW2
      go_simp
      try with_reducible rfl
     simp only[Act.put,aan,aas,aau]
     refine⟨?_,Or.inl ⟨by rfl,?_⟩,?_⟩
     rotate_left
     ·intro W2 hW2
      obtain⟨s0,s1,s2,s3,s4,s5⟩:=hW2
      go_simp
      try with_reducible rfl
     simp only[Act.put,aan,aas,aau]
     refine⟨?_,Or.inl ⟨by rfl,?_⟩,?_⟩
     rotate_left
     ·intro W2 hW2
      obtain⟨s0,s1,s2,s3,s4,s5⟩:=hW2
      go_simp
      try with_reducible rfl
     simp only[Act.put,aan,aas,aau]
     refine⟨?_,Or.inl ⟨by rfl,?_⟩,?_⟩
     rotate_left
     ·intro W2 hW2
      obtain⟨s0,s1,s2,s3,s4,s5⟩:=hW2
      go_simp
      try with_reducible rfl
     simp only[Act.put,aan,aas,aau]
     refine⟨?_,Or.inl ⟨by rfl,?_⟩,?_⟩
     rotate_left
     ·intro W2 hW2
      obtain⟨s0,s1,s2,s3,s4,s5⟩:=hW2
      go_simp
      try with_reducible rfl
     simp only[Act.put,aan,aas,aau]
     refine⟨?_,Or.inl ⟨by rfl,?_⟩,?_⟩
     rotate_left
     ·intro W2 hW2
      obtain⟨s0,s1,s2,s3,s4,s5⟩:=hW2
      go_simp
      try with_reducible rfl
     simp only[Act.put,aan,aas,aau]
     refine⟨?_,Or.inl ⟨by rfl,?_⟩,?_⟩
     rotate_left
     ·intro W2 hW2
      obtain⟨s0,s1,s2,s3,s4,s5⟩:=hW2
      go_simp
      try with_reducible rfl
     simp only[Act.put,aan,aas,aau]
     refine⟨?_,Or.inl ⟨by rfl,?_⟩,?_⟩
     rotate_left
     ·intro W2 hW2
      obtain⟨s0,s1,s2,s3,s4,s5⟩:=hW2
      go_simp
      try with_reducible rfl
     simp only[Act.put,aan,aas,aau]
     refine⟨?_,Or.inl ⟨by rfl,?_⟩,?_⟩
     rotate_left
     ·intro W2 hW2
      obtain⟨s0,s1,s2,s3,s4,s5⟩:=hW2
      go_simp
      try with_reducible rfl
     simp only[Act.put,aan,aas,aau]
     refine⟨?_,Or.inl ⟨by rfl,?_⟩,?_⟩
     rotate_left
     ·intro W2 hW2
      obtain⟨s0,s1,s2,s3,s4,s5⟩:=hW2
      go_simp
      try with_reducible rfl
     simp only[Act.put,aan,aas,aau]
     refine⟨?_,Or.inl ⟨by rfl,?_⟩,?_⟩
     rotate_left
     ·intro W2 hW2
      obtain⟨s0,s1,s2,s3,s4,s5⟩:=hW2
      go_simp
      try with_reducible rfl
     simp only[Act.put,aan,aas,aau]
     refine⟨?_,Or.inl ⟨by rfl,?_⟩,?_⟩
     rotate_left
     ·intro W2 hW2
      obtain⟨s0,s1,s2,s3,s4,s5⟩:=hW2
      go_simp
      try with_reducible rfl
     simp only[Act.put,aan,aas,aau]
     unfold alK
     refine atW rfl rfl ?_
     go_simp
     have hka:Keeps W7 (W7.alloc (.cells #[.int .i64 3,.int .i64 0,.int .i64 r.addr,.slice none 0 0,.int .i64 r.wk,.int .i64 r.wm,.string r.ws,.slice r.wp r.wn r.wc] 109)).drew:=Kept.drew (Keeps.alloc _ _)
     refine⟨⟨aaF hka b0,aaF hka x2,aaF hka x8,aaF hka x9,aaF hka x10,aaF hka x11⟩,atW rfl rfl ?_⟩
     refine wp_append_lies _ (.tmp 100) (.tmp 112) 71 (by rfl) w.heap.size 109 i98 (.agg #[.int .i64 0,.int .i64 0,.int .i64 0,.slice none 0 0,.int .i64 0,.int .i64 0,.string ⟨#[]⟩,.slice none 0 0]) 8 104 aum aTw aTz aTC aTE rfl (by decide) (.slice q7 nF c7) nF (ahO (ee++ [r.aw4]++flat kids)) (by rfl) ((show W7.ownsRow w.heap.size 109 8 (.slice q7 nF c7) nF (ahO (ee++ [r.aw4]++flat kids)) by have h9:=HM7.out.row;rw[←HNF.out]at h9;exact h9).alloc _ |>.drew) ⟨W7.heap.size,0,none⟩ 1 1 [.int .i64 3,.int .i64 0,.int .i64 r.addr,.slice none 0 0,.int .i64 r.wk,.int .i64 r.wm,.string r.ws,.slice r.wp r.wn r.wc] (by rfl) (by rfl)
      (af2 (cs:=#[.int .i64 3,.int .i64 0,.int .i64 r.addr,.slice none 0 0,.int .i64 r.wk,.int .i64 r.wm,.string r.ws,.slice r.wp r.wn r.wc]) (t:=109) (fr:=(0,0)) (aaL W7 (.cells #[.int .i64 3,.int .i64 0,.int .i64 r.addr,.slice none 0 0,.int .i64 r.wk,.int .i64 r.wm,.string r.ws,.slice r.wp r.wn r.wc] 109))) (by simp[Value.oneCell']) (by omega) (by unfold maxLen;omega) (by omega) (by have:=HM7.out.kept.size;show w.heap.size≤(W7.alloc _).heap.size;rw[aaS];omega) _ rfl ?_
     intro g9 blV w9 hown hgrow aoX bl5
     rw[HNF.out]at hown
     obtain⟨aqG,hM5,hk5⟩:=HM7.out.push (t:=r.aZt) (O:= .cells #[.int .i64 3,.int .i64 0,.int .i64 r.addr,.slice none 0 0,.int .i64 r.wk,.int .i64 r.wm,.string r.ws,.slice r.wp r.wn r.wc] 109) ⟨hgrow.os,hgrow.tape,hgrow.output,hgrow.size,hgrow.block⟩ hown
     rw[←HNF.out]at hM5 hk5
     have bGe:Keeps w w9:=Kept.trans HM7.out.kept (((Kept.refl (fun g=>(Value.slice q7 nF c7).ownBlock=some g) W7).alloc (.cells #[.int .i64 3,.int .i64 0,.int .i64 r.addr,.slice none 0 0,.int .i64 r.wk,.int .i64 r.wm,.string r.ws,.slice r.wp r.wn r.wc] 109)).drew.grown hgrow (fun g hg _=>hg)) (fun g hg hx=>by have h9:=(HM7.out.row.lt g hx).1;omega)
     obtain⟨z0,z1,z2,z3,z4,z5,z6,z7,z8,z9,z10,z11,z12⟩:=HX.out _ bGe
     have c0:=cell_of_block aqG 0
     have c1:=abu aqG 0
     have hlo5:=acO aqG
     simp at c0
     have HM9:=aag hM5
     have HK9:=aag (hk5.mono (T:=fun g=>g=bn∨g=bo∨(Value.slice q7 nF c7).ownBlock=some g) fun _ _ x=> .inr x)
     have HA9:=aag (show(Value.slice (some ⟨g9,0,none⟩) (nF+1) blV).ownBlock=(Value.slice q7 nF c7).ownBlock∨∃g,(Value.slice (some ⟨g9,0,none⟩) (nF+1) blV).ownBlock=some g∧W7.heap.size≤g from by
      rcases aoX with h|h
      ·exact .inl h.symm
      ·refine .inr ⟨_,rfl,?_⟩
       rw[h]
       show W7.heap.size≤(W7.alloc _).heap.size
       rw[aaS]
       exact ab5 _)
     refine⟨⟨c0,z2,z8,z9,z10,z11⟩,?_⟩
     clear hown hgrow aoX hM5 hk5 z0 z1 z2 z3 z4 z5 z6 z7 z8 z9 z10 z11 b0 x2 x8 x9 x10 x11 hka
     have blZ:=aag (ahQ aMf.out aFr.out HK9.out)
     have bl0:=aag (amE aMf.out.size aFr.out HA9.out)
     clear z12
     go_wp2_with fail
     go_roundw
     case rel=>exact⟨i+1,_,by omega,by go_num,by rw[←HL.out,←HKt.out];exact HM9.out,blZ.out,bl0.out⟩
     case measure=>simp[intOf]<;>omega
    |false=>
     go_wp2_with fail
     rw[←HWc.out]
     clear x3 x8 x9 x10 x11 x12 x0 t0 t1
     refine aop 20 (fun W'=>W'.cell? ⟨bo,0,none⟩=some (.slice qv nE cv)∧W'.cell? ⟨g,o+i*13+1,none⟩=some (.int .i64 r.site)∧W'.cell? ⟨g,o+i*13+2,none⟩=some (.int .i64 r.addr)∧W'.cell? ⟨g,o+i*13+4,none⟩=some (.int .i64 r.sk)∧W'.cell? ⟨g,o+i*13+5,none⟩=some (.int .i64 r.sm)∧W'.cell? ⟨g,o+i*13+6,none⟩=some (.string r.ss)∧W'.cell? ⟨g,o+i*13+7,none⟩=some (.slice r.sp r.sn r.sc)) (by kernel_rfl) (by kernel_rfl) (by rintro c ⟨_,_⟩ ⟨_,_⟩ w rfl h;exact h) ⟨b0,x1,x2,x4,x5,x6,x7⟩ ?_
     simp only[ac6,agN,afY,aiH]
     refine⟨?_,Or.inl ⟨by rfl,?_⟩,?_⟩
     rotate_left
     ·intro W2 hW2
      obtain⟨s0,s1,s2,s3,s4,s5,s6⟩:=hW2
      go_simp
      try with_reducible rfl
     simp only[Act.put,aan,aas,aau]
     refine⟨?_,Or.inl ⟨by rfl,?_⟩,?_⟩
     rotate_left
     ·intro W2 hW2
      obtain⟨s0,s1,s2,s3,s4,s5,s6⟩:=hW2
      go_simp
      try with_reducible rfl
     simp only[Act.put,aan,aas,aau]
     refine⟨?_,Or.inl ⟨by rfl,?_⟩,?_⟩
     rotate_left
     ·intro W2 hW2
      obtain⟨s0,s1,s2,s3,s4,s5,s6⟩:=hW2
      go_simp
      try with_reducible rfl
     simp only[Act.put,aan,aas,aau]
     refine⟨?_,Or.inl ⟨by rfl,?_⟩,?_⟩
     rotate_left
     ·intro W2 hW2
      obtain⟨s0,s1,s2,s3,s4,s5,s6⟩:=hW2
      go_simp
      try with_reducible rfl
     simp only[Act.put,aan,aas,aau]
     refine⟨?_,Or.inl ⟨by rfl,?_⟩,?_⟩
     rotate_left
     ·intro W2 hW2
      obtain⟨s0,s1,s2,s3,s4,s5,s6⟩:=hW2
      go_simp
      try with_reducible rfl
     simp only[Act.put,aan,aas,aau]
     refine⟨?_,Or.inl ⟨by rfl,?_⟩,?_⟩
     rotate_left
     ·intro W2 hW2
      obtain⟨s0,s1,s2,s3,s4,s5,s6⟩:=hW2
      go_simp
      try with_reducible rfl
     simp only[Act.put,aan,aas,aau]
     refine⟨?_,Or.inl ⟨by rfl,?_⟩,?_⟩
     rotate_left
     ·intro W2 hW2
      obtain⟨s0,s1,s2,s3,s4,s5,s6⟩:=hW2
      go_simp
      try with_reducible rfl
     simp only[Act.put,aan,aas,aau]
     refine⟨?_,Or.inl ⟨by rfl,?_⟩,?_⟩
     rotate_left
     ·intro W2 hW2
      obtain⟨s0,s1,s2,s3,s4,s5,s6⟩:=hW2
      go_simp
      try with_reducible rfl
     simp only[Act.put,aan,aas,aau]
     refine⟨?_,Or.inl ⟨by rfl,?_⟩,?_⟩
     rotate_left
     ·intro W2 hW2
      obtain⟨s0,s1,s2,s3,s4,s5,s6⟩:=hW2
      go_simp
      try with_reducible rfl
     simp only[Act.put,aan,aas,aau]
     refine⟨?_,Or.inl ⟨by rfl,?_⟩,?_⟩
     rotate_left
     ·intro W2 hW2
      obtain⟨s0,s1,s2,s3,s4,s5,s6⟩:=hW2
      go_simp
      try with_reducible rfl
     simp only[Act.put,aan,aas,aau]
     refine⟨?_,Or.inl ⟨by rfl,?_⟩,?_⟩
     rotate_left
     ·intro W2 hW2
      obtain⟨s0,s1,s2,s3,s4,s5,s6⟩:=hW2
      go_simp
      try with_reducible rfl
     simp only[Act.put,aan,aas,aau]
     refine⟨?_,Or.inl ⟨by rfl,?_⟩,?_⟩
     rotate_left
     ·intro W2 hW2
      obtain⟨s0,s1,s2,s3,s4,s5,s6⟩:=hW2
      go_simp
      try with_reducible rfl
     simp only[Act.put,aan,aas,aau]
     refine⟨?_,Or.inl ⟨by rfl,?_⟩,?_⟩
     rotate_left
     ·intro W2 hW2
      obtain⟨s0,s1,s2,s3,s4,s5,s6⟩:=hW2
      go_simp
      try with_reducible rfl
     simp only[Act.put,aan,aas,aau]
     refine⟨?_,Or.inl ⟨by rfl,?_⟩,?_⟩
     rotate_left
     ·intro W2 hW2
      obtain⟨s0,s1,s2,s3,s4,s5,s6⟩:=hW2
      go_simp
      try with_reducible rfl
     simp only[Act.put,aan,aas,aau]
     refine⟨?_,Or.inl ⟨by rfl,?_⟩,?_⟩
     rotate_left
     ·intro W2 hW2
      obtain⟨s0,s1,s2,s3,s4,s5,s6⟩:=hW2
      go_simp
      try with_reducible rfl
     simp only[Act.put,aan,aas,aau]
     refine⟨?_,Or.inl ⟨by rfl,?_⟩,?_⟩
     rotate_left
     ·intro W2 hW2
      obtain⟨s0,s1,s2,s3,s4,s5,s6⟩:=hW2
      go_simp
      try with_reducible rfl
     simp only[Act.put,aan,aas,aau]
     refine⟨?_,Or.inl ⟨by rfl,?_⟩,?_⟩
     rotate_left
     ·intro W2 hW2
      obtain⟨s0,s1,s2,s3,s4,s5,s6⟩:=hW2
      go_simp
      try with_reducible rfl
     simp only[Act.put,aan,aas,aau]
     refine⟨?_,Or.inl ⟨by rfl,?_⟩,?_⟩
     rotate_left
     ·intro W2 hW2
      obtain⟨s0,s1,s2,s3,s4,s5,s6⟩:=hW2
      go_simp
      try with_reducible rfl
     simp only[Act.put,aan,aas,aau]
     refine⟨?_,Or.inl ⟨by rfl,?_⟩,?_⟩
     rotate_left
     ·intro W2 hW2
      obtain⟨s0,s1,s2,s3,s4,s5,s6⟩:=hW2
      go_simp
      try with_reducible rfl
     simp only[Act.put,aan,aas,aau]
     refine⟨?_,Or.inl ⟨by rfl,?_⟩,?_⟩
     rotate_left
     ·intro W2 hW2
      obtain⟨s0,s1,s2,s3,s4,s5,s6⟩:=hW2
      go_simp
      try with_reducible rfl
     simp only[Act.put,aan,aas,aau]
     unfold alK
     refine atW rfl rfl ?_
     go_simp
     have hka:Keeps Wc (Wc.alloc (.cells #[.int .i64 2,.int .i64 r.site,.int .i64 r.addr,.slice none 0 0,.int .i64 r.sk,.int .i64 r.sm,.string r.ss,.slice r.sp r.sn r.sc] 109)).drew:=Kept.drew (Keeps.alloc _ _)
     refine⟨⟨aaF hka b0,aaF hka x1,aaF hka x2,aaF hka x4,aaF hka x5,aaF hka x6,aaF hka x7⟩,atW rfl rfl ?_⟩
     refine wp_append_lies _ (.tmp 61) (.tmp 78) 71 (by rfl) w.heap.size 109 i98 (.agg #[.int .i64 0,.int .i64 0,.int .i64 0,.slice none 0 0,.int .i64 0,.int .i64 0,.string ⟨#[]⟩,.slice none 0 0]) 8 104 aum aTw aTz aTC aTE rfl (by decide) (.slice qv nE cv) nE (ahO ee) (by rfl) ((show Wc.ownsRow w.heap.size 109 8 (.slice qv nE cv) nE (ahO ee) by have h9:=HMc.out.row;rw[←HNE.out]at h9;exact h9).alloc _ |>.drew) ⟨Wc.heap.size,0,none⟩ 1 1 [.int .i64 2,.int .i64 r.site,.int .i64 r.addr,.slice none 0 0,.int .i64 r.sk,.int .i64 r.sm,.string r.ss,.slice r.sp r.sn r.sc] (by rfl) (by rfl)
      (af2 (cs:=#[.int .i64 2,.int .i64 r.site,.int .i64 r.addr,.slice none 0 0,.int .i64 r.sk,.int .i64 r.sm,.string r.ss,.slice r.sp r.sn r.sc]) (t:=109) (fr:=(0,0)) (aaL Wc (.cells #[.int .i64 2,.int .i64 r.site,.int .i64 r.addr,.slice none 0 0,.int .i64 r.sk,.int .i64 r.sm,.string r.ss,.slice r.sp r.sn r.sc] 109))) (by simp[Value.oneCell']) (by omega) (by unfold maxLen;omega) (by omega) (by have:=HMc.out.kept.size;show w.heap.size≤(Wc.alloc _).heap.size;rw[aaS];omega) _ rfl ?_
     intro g5 cap5 w5 hown hgrow aoX bl5
     rw[HNE.out]at hown
     obtain⟨aqG,hM5,hk5⟩:=HMc.out.push (t:=r.aPj) (O:= .cells #[.int .i64 2,.int .i64 r.site,.int .i64 r.addr,.slice none 0 0,.int .i64 r.sk,.int .i64 r.sm,.string r.ss,.slice r.sp r.sn r.sc] 109) ⟨hgrow.os,hgrow.tape,hgrow.output,hgrow.size,hgrow.block⟩ hown
     rw[←HNE.out]at hM5 hk5
     have bl6:Keeps w w5:=Kept.trans HMc.out.kept (((Kept.refl (fun g=>(Value.slice qv nE cv).ownBlock=some g) Wc).alloc (.cells #[.int .i64 2,.int .i64 r.site,.int .i64 r.addr,.slice none 0 0,.int .i64 r.sk,.int .i64 r.sm,.string r.ss,.slice r.sp r.sn r.sc] 109)).drew.grown hgrow (fun g hg _=>hg)) (fun g hg hx=>by have h9:=(HMc.out.row.lt g hx).1;omega)
     obtain⟨z0,z1,z2,z3,z4,z5,z6,z7,z8,z9,z10,z11,z12⟩:=HX.out _ bl6
     have c0:=cell_of_block aqG 0
     have c1:=abu aqG 0
     have hlo5:=acO aqG
     simp at c0
     have HM5:=aag hM5
     have HK5:=aag (hk5.mono (T:=fun g=>g=bn∨g=bo∨(Value.slice qv nE cv).ownBlock=some g) fun _ _ x=> .inr x)
     have HA5:=aag (show(Value.slice (some ⟨g5,0,none⟩) (nE+1) cap5).ownBlock=(Value.slice qv nE cv).ownBlock∨∃g,(Value.slice (some ⟨g5,0,none⟩) (nE+1) cap5).ownBlock=some g∧Wc.heap.size≤g from by
      rcases aoX with h|h
      ·exact .inl h.symm
      ·refine .inr ⟨_,rfl,?_⟩
       rw[h]
       show Wc.heap.size≤(Wc.alloc _).heap.size
       rw[aaS]
       exact ab5 _)
     refine⟨⟨c0,z1,z2,z4,z5,z6,z7⟩,?_⟩
     clear hown hgrow aoX hM5 hk5 z0 z1 z2 z3 z4 z5 z6 z7 z8 z9 z10 z11 b0 x1 x2 x4 x5 x6 x7 hka
     have hszW:W.heap.size≤Wc.heap.size:=aa7 HKw.out.size HKc.out.size
     have HC:=aag (HI.out kids (.slice pk kids.length ck) _ _ (ee++ [r.aPj]) (kk+1) (deep+1) aw5.out HM5.out hkb hdb (by rw[aa1,←HNE.out];simp;omega))
     rw[show((deep+1:Nat):Int)=(deep:Int)+1 by omega]at HC
     have bl8:=(HX.out _ HM5.out.kept).2.2.2.2.2.2.2.2.2.2.2.2
     have aTF:=aag (ahQ HKw.out HAt.out (HKc.out.mono fun _ _ x=> .inl x))
     have aTI:=aag (ahQ aTF.out HAt.out HK5.out)
     have aFq:=aag (amE hszW HAt.out HA5.out)
     clear z12
     go_wp2_with (go_at_call 97;refine holdT ?_)
     refine aag ?_
     refine HC.out.mono ?_
     rintro _ W7 ⟨v7,rfl,hM7,hk7,amr⟩
     have aMf:=aag (ahQ aTI.out aFq.out hk7)
     have aFr:=aag (amE (aa7 hszW HK5.out.size) aFq.out amr)
     obtain⟨x0,x1,x2,x3,x4,x5,x6,x7,x8,x9,x10,x11,x12⟩:=HX.out _ hM7.kept
     clear c0 c1 bl8 hk7 amr aqG hlo5
     have HM7:=aag hM7
     have HL:=aag (show(ee++ [r.aPj])++flat kids=evs++flat (l.take (i+1)) by rw[at7 HU.out,←HEe.out];simp)
     have HKt:=aag (show kk+1+cnt kids=k+cnt (l.take (i+1)) by rw[HSp.out,←HKk.out];omega)
     clear hM7
     go_wp2_with fail
     go_roundw
     case rel=>exact⟨i+1,v7,by omega,by go_num,by rw[←HL.out,←HKt.out];exact HM7.out,aMf.out,aFr.out⟩
     case measure=>simp[intOf]<;>omega
   ·obtain rfl:i=n:=by omega
    have hM':=hM
    rw[HN.out,ab1]at hM'
    have HMe:=aag hM'
    have HAt:=aag hat
    have k6:¬(i:Int)<i:=by omega
    clear hM hM' hkw hat
    go_wp2_with fail
    go_ret
    exact⟨vi,rfl,HMe.out,HKw.out,HAt.out⟩
theorem aBS:∀{evs:List ET}{i:Nat}{t:ET},evs[i]? =some t→∀j:Nat,j<8→(ahO evs)[i*8+j]? =t.ev.cells[j]?
 |s::evs,0,t,h,j,hj=>by
  injection h with h
  subst h
  rw[ahO,List.flatMap_cons,aby (by simp[Ev.cells];omega),Nat.zero_mul,adI]
 |s::evs,i+1,t,h,j,hj=>by
  have h1:=aBS (evs:=evs) (i:=i) h j hj
  rw[ahO,List.flatMap_cons,acN (by simp[Ev.cells];omega),show(i+1)*8+j - s.ev.cells.length=i*8+j by simp[Ev.cells];omega]
  exact h1
theorem aMg {W:World}{base:Nat}{v:Value}{evs:List ET}(h:W.ownsRow base 109 8 v evs.length (ahO evs)):∃a c,v= .slice a evs.length c∧avh W a (evs.map ET.ev):=by
 rcases h.2 with⟨hv,h0⟩|⟨g,cap,cur,hv,hb,hg,hc,hm,hs,ht⟩
 ·have hn:=acU h0
  subst hn
  exact⟨none,0,hv,⟨fun i e he=>by simp at he⟩⟩
 ·refine⟨some ⟨g,0,none⟩,cap,hv,⟨fun i e he=>?_⟩⟩
  rw[abl]at he
  cases ht2:evs[i]? with
  |none=>rw[ht2]at he;cases he
  |some t=>
   rw[ht2]at he
   injection he with he
   subst he
   refine⟨g,0,rfl,acO hg,fun j u hj=>?_⟩
   have hjl:=(aaq.1 hj).1
   have hil:=(aaq.1 ht2).1
   have h8:t.ev.cells.length=8:=rfl
   rw[h8]at hjl
   rw[hv]at h
   rw[adI,h.cellAt _ (by omega),aBS ht2 j hjl]
   exact hj
theorem bl9:(Tryz.prog.info? 101).map (·.size)=some 2:=by kernel_rfl
theorem aFs {fn:Func}{p:Tmp}(h:fn.results= #[.cell p 101])(tmps:Array Value)(w:World)(g:Nat)(x y:Value)(hp:tmps.getD p undef= .pointer (some ⟨g,0,none⟩))(hg:w.heap[g]? =some (.cells #[x,y] 101 (0,0))):
 (results fn tmps).run Tryz.prog w= .ok (.agg #[x,y]) w:=
 results_cell_row h tmps w g 101 _ _ _ hp hg Tryz.underlying101 rfl bl9
theorem aFy {W:World}{B:Nat}{x y x' y':Value}(h:W.heap[B]? =some (.cells #[x,y] 101 (0,0))):((W.setCell ⟨B,0,none⟩ x').setCell ⟨B,1,none⟩ y').heap[B]? =some (.cells #[x',y'] 101 (0,0)):=by
 rw[abV (abV h _) _];rfl
def aIk (w:World)(l:List NP)(x:Ending)(w':World):Prop:=Keeps w w'∧match aeR ((flat l).map ET.ev)with
 |none=>x= .returned (.agg #[.slice none 0 0,.int .i64 121])
 |some _=>∃v,x= .returned (.agg #[v,.int .i64 0])∧w'.ownsRow w.heap.size 109 8 v (flat l).length (ahO (flat l))
theorem aMi (e d:Nat)(w:World)(A:Nat→Prop)(s:SR)(l:List NP)(h:anK w A e d l (.slice s.pr s.nr s.cr))(hc:cnt l≤600):Calls Tryz.prog 47 #[.agg s.cells] w (aIk w l):=by
 obtain⟨ps,ns,cs,pl,nl,cl,pi,ni,ci,pr,nr,cr,steps⟩:=s
 simp only[SR.cells]at*
 have H:=aag h
 obtain⟨W0,hW0⟩ :∃W0,W0=((((w.alloc (.cells #[.slice ps ns cs,.slice pl nl cl,.slice pi ni ci,.slice pr nr cr,.int .i64 steps] 34)).alloc (.cells #[.slice none 0 0,.int .i64 0] 101)).alloc (.cells #[.slice none 0 0] 71)).alloc (.cells #[.int .i64 0] 3)):=⟨_,rfl⟩
 have h1:(w.alloc (.cells #[.slice ps ns cs,.slice pl nl cl,.slice pi ni ci,.slice pr nr cr,.int .i64 steps] 34)).heap.size=w.heap.size+1:=aaS _ _
 have h2:((w.alloc (.cells #[.slice ps ns cs,.slice pl nl cl,.slice pi ni ci,.slice pr nr cr,.int .i64 steps] 34)).alloc (.cells #[.slice none 0 0,.int .i64 0] 101)).heap.size=w.heap.size+1+1:=by rw[aaS,h1]
 have h3:(((w.alloc (.cells #[.slice ps ns cs,.slice pl nl cl,.slice pi ni ci,.slice pr nr cr,.int .i64 steps] 34)).alloc (.cells #[.slice none 0 0,.int .i64 0] 101)).alloc (.cells #[.slice none 0 0] 71)).heap.size=w.heap.size+1+1+1:=by rw[aaS,h2]
 have hk0:Keeps w W0:=by rw[hW0];exact Kept.alloc (Kept.alloc (Kept.alloc (Keeps.alloc _ _) _) _) _
 have hbt:W0.heap[w.heap.size+1]? =some (.cells #[.slice none 0 0,.int .i64 0] 101 (0,0)):=by
  have h9:=aaL (w.alloc (.cells #[.slice ps ns cs,.slice pl nl cl,.slice pi ni ci,.slice pr nr cr,.int .i64 steps] 34)) (.cells #[.slice none 0 0,.int .i64 0] 101)
  rw[h1]at h9
  rw[hW0];exact heap_alloc_old _ (heap_alloc_old _ h9)
 have hbo:W0.heap[w.heap.size+1+1]? =some (.cells #[.slice none 0 0] 71 (0,0)):=by
  have h9:=aaL ((w.alloc (.cells #[.slice ps ns cs,.slice pl nl cl,.slice pi ni ci,.slice pr nr cr,.int .i64 steps] 34)).alloc (.cells #[.slice none 0 0,.int .i64 0] 101)) (.cells #[.slice none 0 0] 71)
  rw[h2]at h9
  rw[hW0];exact heap_alloc_old _ h9
 have hbn:W0.heap[w.heap.size+1+1+1]? =some (.cells #[.int .i64 ((0:Nat):Int)] 3 (0,0)):=by
  have h9:=aaL (((w.alloc (.cells #[.slice ps ns cs,.slice pl nl cl,.slice pi ni ci,.slice pr nr cr,.int .i64 steps] 34)).alloc (.cells #[.slice none 0 0,.int .i64 0] 101)).alloc (.cells #[.slice none 0 0] 71)) (.cells #[.int .i64 0] 3)
  rw[h3]at h9
  rw[hW0];exact h9
 have hM:ag2 w W0 (w.heap.size+1+1+1) (w.heap.size+1+1) (.slice none 0 0) [] 0:=⟨hk0,by omega,by omega,hbn,hbo,acW _ _ _ _⟩
 have HC:=aag (aZE e w A (w.heap.size+1+1+1) (w.heap.size+1+1) d l (.slice pr nr cr) W0 (.slice none 0 0) [] 0 1 H.out hM (by omega) (by omega) (ab6 _))
 have HM0:=aag hM
 have HBt:=aag hbt
 have HW0:=aag hW0
 clear hW0 h1 h2 h3 hk0 hbo hbn hbt hM h
 go_enter Tryz.func47,Tryz.ntmps47
 go_wp2_with (go_at_call 97;refine holdT ?_)
 refine aag ?_
 rw[←HW0.out]
 refine HC.out.mono ?_
 rintro _ W7 ⟨v7,rfl,hM7,hk7,_⟩
 simp only[adt,adI]at hM7
 obtain⟨a7,c7,rfl,hev⟩:=aMg hM7.row
 have bvg:=HM0.out.far hk7 HBt.out (by decide) (by decide) (by decide)
 have b0:=cell_of_block hM7.hbo 0
 simp at b0
 obtain⟨nF,hnF⟩ :∃nF,nF=(flat l).length:=⟨_,rfl⟩
 have HR:=aag (aZq W7 a7 nF c7 ((flat l).map ET.ev) hev (by rw[afe];exact hnF))
 have bvh:=aag bvg
 have HM7:=aag hM7
 have HnF:=aag hnF
 rw[←hnF]at b0
 clear hM7 hk7 bvg hev hnF
 cases ho:aeR ((flat l).map ET.ev)with
 |none=>
  rw[ho]at HR
  simp only[Option.isSome_none]at HR
  have HO:=aag ho
  clear ho
  go_wp2_with (go_at_call 98;refine HR.out.mono ?_;rintro _ w8 ⟨rfl,hk8⟩;have HB:=aag (hk8.at bvh.out (fun x=>x));have d0:=cell_of_block HB.out 0;have d1:=cell_of_block HB.out 1;have f0:=abu HB.out 0;have f1:=abu HB.out 1;have l0:=acO HB.out;simp at d0 d1;have HK:=aag (Keeps.trans HM7.out.kept hk8);clear hk8)
  refine bodyPost_ret (aFs rfl _ _ (w.heap.size+1) _ _ rfl (aFy HB.out)) rfl ⟨Kept.aD5 (Kept.aD5 HK.out (ab5 _) _ _) (ab5 _) _ _,?_⟩
  rw[HO.out]
 |some st=>
  rw[ho]at HR
  simp only[Option.isSome_some]at HR
  have HO:=aag ho
  clear ho
  go_wp2_with (go_at_call 98;refine HR.out.mono ?_;rintro _ w8 ⟨rfl,hk8⟩;have HB:=aag (hk8.at bvh.out (fun x=>x));have d0:=cell_of_block HB.out 0;have d1:=cell_of_block HB.out 1;have e0:=aaF hk8 b0;have f0:=abu HB.out 0;have f1:=abu HB.out 1;have l0:=acO HB.out;simp at d0 d1;have HK8:=aag hk8;have HK:=aag (Keeps.trans HM7.out.kept hk8);clear hk8)
  refine bodyPost_ret (aFs rfl _ _ (w.heap.size+1) _ _ rfl (aFy HB.out)) rfl ⟨Kept.aD5 (Kept.aD5 HK.out (ab5 _) _ _) (ab5 _) _ _,?_⟩
  rw[HO.out]
  have hrow:=HM7.out.row
  rw[HnF.out]
  refine⟨_,rfl,ac5 (ac5 hrow fun g hg=>HK8.out.block g (hrow.lt g hg).2 (fun x=>x)) fun g hg=>?_⟩
  have hne:g≠w.heap.size+1:=fun e=>by
   obtain⟨cur,hcc⟩:=row_block hrow hg
   have h9:=HK8.out.at hcc (fun x=>x)
   rw[e,HB.out]at h9
   simp at h9
  rw[abw _ hne,abw _ hne]
end Go.Proofs.YtfehlbepjmmkeaaGreatDoor
