/-
  DERIVED. The law DebugSources over every world in which the example holds and the library's variables are laid. Condition: the state lies in memory; what it holds is at most two million.
-/
import Derived.Test.YtfehlbepjmmkeaaGreatDoorSrM
import Derived.Test.YtfehlbepjmmkeaaGreatDoorRows
import Derived.ProofKit
import Derived.LaidMore
import Derived.OpenShut
import Derived.Stop.Joined
import Derived.Stop.LaidErr
import Derived.MakeChecks
import Derived.Lay
import Derived.Lib.LaidTab
import Derived.Shelf.Vars
import Derived.Lib.SmallJoins
import Derived.SizedLaws
namespace Go.Proofs.YtfehlbepjmmkeaaGreatDoor
set_option maxHeartbeats 8000000
set_option maxRecDepth 100000
set_option linter.unusedSimpArgs false
set_option linter.unusedVariables false
section
open Go.RowKit
theorem bbW {st:List RV}{l:List NP}{y:Int}{o:List Int}{er:Int}(h:amy st l y o er):o.length≤30000:=by
 unfold amy at h
 split at h
 ·rw[h.1];simp
 ·rcases h with⟨_,h2,_⟩|⟨_,⟨_,h2,_⟩|⟨_,_,_,_,_,⟨_,_,G,_,_,_,h2⟩,_⟩⟩
  ·rw[h2];simp
  ·rw[h2];simp
  ·rw[h2];exact aZ7 G
theorem aIH {w:World}(hs:∀W,Keeps w W→Calls Tryz.prog 12 #[] W fun e w'=>e= .returned (.bool true)∧Keeps W w')(hv:Vars w)(e d:Nat)(A:Nat→Prop)(s:SR)(st:List RV)(l:List NP)(y:Int)
 (hst:am5 w A e (.slice s.ps s.ns s.cs) st) (hnp:anK w A e d l (.slice s.pr s.nr s.cr)) (hsz:sizes st+ahq l≤2000000):
 Calls Tryz.prog 4 #[.agg s.cells,.int .i64 y] w fun x w'=>x= .returned (.bool true)∧Keeps w w':=by
 obtain⟨ps,ns,cs,pl,nl,cl,pi,ni,ci,pr,nr,cr,steps⟩:=s
 simp only[SR.cells]at*
 obtain⟨W0,hW0⟩ :∃W0,W0=w.alloc (.cells #[.slice ps ns cs,.slice pl nl cl,.slice pi ni ci,.slice pr nr cr,.int .i64 steps] 34):=⟨_,rfl⟩
 have hk0:Keeps w W0:=by rw[hW0];exact Keeps.alloc _ _
 have hb0:W0.heap[w.heap.size]? =some (.cells #[.slice ps ns cs,.slice pl nl cl,.slice pi ni ci,.slice pr nr cr,.int .i64 steps] 34 (0,0)):=by rw[hW0];exact aaL _ _
 have HS:=aag hs
 have HK0:=aag hk0
 have HB0:=aag hb0
 have HL:=aag (fun W (hW:Keeps w W)=>aZB e d W A ⟨ps,ns,cs,pl,nl,cl,pi,ni,ci,pr,nr,cr,steps⟩ l (hnp.keep (agr hW)))
 have HP:=aag (fun W (hW:Keeps w W)(h1:cnt l≤600)(h2:ns≤2000)=>aU8 e d W A ⟨ps,ns,cs,pl,nl,cl,pi,ni,ci,pr,nr,cr,steps⟩ st l y (hv.keep hW) (hst.keep (agr hW)) (hnp.keep (agr hW)) hsz h1 h2)
 have HR:=aag (fun W (hW:Keeps w W)(h1:cnt l≤600)(h2:ns≤2000)=>aIK e d W A ⟨ps,ns,cs,pl,nl,cl,pi,ni,ci,pr,nr,cr,steps⟩ st l y (hst.keep (agr hW)) (hnp.keep (agr hW)) hsz h1 h2)
 clear hk0 hb0 hs hv hst hnp hsz
 go_enter Tryz.func4,Tryz.ntmps4
 go_wp2_with (go_at_call 12;refine holdT ?_)
 refine aag ?_
 rw[←hW0]
 clear hW0
 refine(HS.out _ HK0.out).mono ?_
 rintro _ w1 ⟨rfl,hk1⟩
 have HK1:=aag (Keeps.trans HK0.out hk1)
 have hb1:=hk1.at HB0.out (fun x=>x)
 have HB1:=aag hb1
 have b0:=cell_of_block (hb1) 0
 have b1:=cell_of_block (hb1) 1
 have b2:=cell_of_block (hb1) 2
 have b3:=cell_of_block (hb1) 3
 have b4:=cell_of_block (hb1) 4
 simp at b0 b1 b2 b3 b4
 clear hk1 hb1
 go_wp2_with (go_at_call 13;refine holdT ?_)
 refine aag ?_
 refine(HL.out _ HK1.out).mono ?_
 rintro _ w2 ⟨bl,rfl,hk2,hlit⟩
 have HK2:=aag (Keeps.trans HK1.out hk2)
 have hb2:=hk2.at HB1.out (fun x=>x)
 have HB2:=aag hb2
 clear b0 b1 b2 b3 b4
 have b0:=cell_of_block (hb2) 0
 have b1:=cell_of_block (hb2) 1
 have b2:=cell_of_block (hb2) 2
 have b3:=cell_of_block (hb2) 3
 have b4:=cell_of_block (hb2) 4
 simp at b0 b1 b2 b3 b4
 clear hk2 hb2
 cases bl
 ·clear hlit
  go_wp2_with fail
  go_ret
  exact⟨rfl,HK2.out⟩
 ·obtain⟨hns,hcnt⟩:=hlit rfl
  have HNs:=aag hns
  have HCn:=aag hcnt
  clear hns hcnt hlit
  go_wp2_with (go_at_call 14;refine holdT ?_)
  refine aag ?_
  refine(HP.out _ HK2.out HCn.out HNs.out).mono ?_
  rintro _ w3 ⟨o1,er1,p1,c1,rfl,hi1,ha1,hk3⟩
  have HK3:=aag (Keeps.trans HK2.out hk3)
  have hb3:=hk3.at HB2.out (fun x=>x)
  have HI1:=aag hi1
  have HA1:=aag ha1
  obtain⟨n1,hn1⟩ :∃n1,n1=o1.length:=⟨_,rfl⟩
  rw[←hn1]at HI1 ⊢
  have HN1:=aag hn1
  clear b0 b1 b2 b3 b4
  have b0:=cell_of_block (hb3) 0
  have b1:=cell_of_block (hb3) 1
  have b2:=cell_of_block (hb3) 2
  have b3:=cell_of_block (hb3) 3
  have b4:=cell_of_block (hb3) 4
  simp at b0 b1 b2 b3 b4
  clear hk3 hb3 hi1 ha1 hn1
  go_wp2_with (go_at_call 15;refine holdT ?_)
  refine aag ?_
  refine(HR.out _ HK3.out HCn.out HNs.out).mono ?_
  rintro _ w4 ⟨o2,er2,p2,c2,rfl,hi2,ha2,hk4⟩
  obtain⟨rfl,rfl⟩:=HA1.out.same ha2
  have HK4:=aag (Keeps.trans HK3.out hk4)
  rw[←HN1.out]at hi2 ⊢
  obtain⟨W5,hW5⟩ :∃W5,W5=w4.alloc (.cells #[.slice p2 n1 c2,.int .i64 er1] 39):=⟨_,rfl⟩
  have hk5:Keeps w4 W5:=by rw[hW5];exact Keeps.alloc _ _
  have hb5:W5.heap[w4.heap.size]? =some (.cells #[.slice p2 n1 c2,.int .i64 er1] 39 (0,0)):=by rw[hW5];exact aaL _ _
  have d0:=cell_of_block hb5 0
  have d1:=cell_of_block hb5 1
  simp at d0 d1
  have hlen:n1≤1000000:=by rw[HN1.out];exact aa7 (bbW ha2) (by decide)
  have hq:=aPe W5 (.slice p1 n1 c1) (.slice p2 n1 c2) o1 o1 ((HI1.out.keeps hk4).keeps hk5) (hi2.keeps hk5) (by rw[←HN1.out];exact hlen)
  rw[decide_eq_true rfl]at hq
  have HQ:=aag hq
  have HK5:=aag (Keeps.trans HK4.out hk5)
  clear b0 b1 b2 b3 b4 hk4 hk5 hb5 hi2 ha2 hq
  go_upto_region 6 with fail
  rw[←hW5]
  clear hW5
  go_wp2_with (go_at_call 16;refine holdT ?_)
  refine aag ?_
  refine HQ.out.mono ?_
  rintro _ w6 ⟨rfl,hk6⟩
  have HK6:=aag (Keeps.trans HK5.out hk6)
  clear hk6 d0 d1
  go_wp2_with fail
  go_ret
  exact⟨rfl,HK6.out⟩
end
section
open Go.ChangeShapes Go.WideShapes Go.ChangeAt Go.RowKit
theorem star: "*" ++ "errors.errorString" = "*errors.errorString" :=by decide
theorem a5c (u:TypeId)(h:Tryz.prog.typeName? 3 u=some "*errors.errorString"):u=354:=
 typeName_ptr_named (nm:= "errors.errorString") (by rw[star];kernel_rfl) (by kernel_rfl) (by decide) u (by rw[star];exact h)
theorem aQZ {W:World}(hs:W.ShapedOpen Tryz.prog)(hl:laidMetH Tryz.prog Rows.tracedValuesRow.laid W):
 ∃b o:Nat,W.heap[0]? =some (.cells #[.iface 354 (.pointer (some ⟨b,o,none⟩))] 228 (0,0)):=by
 rw[ajB _ _ _ (by kernel_rfl)]at hl
 have h:=hl.tail.tail.tail.tail.tail
 obtain⟨a,s,h1,h0,_⟩:=laid_sentinel (P:=Tryz.prog) (g:=0) (ti:=228) (tp:=354) (te:=356) (ts:=9) (ms:=_) (f:=_) h (by kernel_rfl) (by kernel_rfl) Tryz.underlying228 a5c Tryz.underlying354 Tryz.underlying356 (by rfl) (by rfl) Tryz.underlying9 (by kernel_rfl) (by kernel_rfl)
 have hsp:=World.cell?_spot h0
 obtain⟨b,o,sp⟩:=a
 simp only at hsp
 subst hsp
 refine⟨b,o,?_⟩
 obtain⟨cs,hc,_⟩:=hs.1 0 #[.nilIface] 228 (of_decide_eq_true (by kernel_rfl)) (by kernel_rfl)
 have h2:W.var? Tryz.prog "strconv.ErrSyntax" =some cs:=by
  unfold World.var?
  rw[show Tryz.prog.globalNamed "strconv.ErrSyntax" =some 0 by kernel_rfl]
  simp[hc]
 rw[h1]at h2
 injection h2 with h2
 subst h2
 exact hc
theorem aVo {W:World}(hs:W.ShapedOpen Tryz.prog)(hl:laidMetH Tryz.prog Rows.tracedValuesRow.laid W):
 ∃b o:Nat,W.heap[1]? =some (.cells #[.iface 354 (.pointer (some ⟨b,o,none⟩))] 228 (0,0)):=by
 rw[ajB _ _ _ (by kernel_rfl)]at hl
 have h:=hl.tail.tail.tail.tail
 obtain⟨a,s,h1,h0,_⟩:=laid_sentinel (P:=Tryz.prog) (g:=1) (ti:=228) (tp:=354) (te:=356) (ts:=9) (ms:=_) (f:=_) h (by kernel_rfl) (by kernel_rfl) Tryz.underlying228 a5c Tryz.underlying354 Tryz.underlying356 (by rfl) (by rfl) Tryz.underlying9 (by kernel_rfl) (by kernel_rfl)
 have hsp:=World.cell?_spot h0
 obtain⟨b,o,sp⟩:=a
 simp only at hsp
 subst hsp
 refine⟨b,o,?_⟩
 obtain⟨cs,hc,_⟩:=hs.1 1 #[.nilIface] 228 (of_decide_eq_true (by kernel_rfl)) (by kernel_rfl)
 have h2:W.var? Tryz.prog "strconv.ErrRange" =some cs:=by
  unfold World.var?
  rw[show Tryz.prog.globalNamed "strconv.ErrRange" =some 1 by kernel_rfl]
  simp[hc]
 rw[h1]at h2
 injection h2 with h2
 subst h2
 exact hc
theorem bbY {W:World}(hs:W.ShapedOpen Tryz.prog)(hl:laidMetH Tryz.prog Rows.tracedValuesRow.laid W):Vars W:=by
 obtain⟨b,o,h0⟩:=aQZ hs hl
 obtain⟨b',o',h1⟩:=aVo hs hl
 refine⟨?_,⟨_,cell_of_block h0 0,.inr ⟨_,_,rfl⟩⟩,⟨_,cell_of_block h1 0,.inr ⟨_,_,rfl⟩⟩,?_,?_⟩
 ·exact cell_of_shapedOpen_int (P:=Tryz.prog) (g:=2) (t:=3) (zero:=#[.int .i64 0]) hs (of_decide_eq_true (by kernel_rfl)) (by kernel_rfl) rfl (by kernel_rfl) (by kernel_rfl) Tryz.underlying3
 ·rw[ajB _ _ _ (by kernel_rfl)]at hl
  exact Lib.tabIs_of_head (g:=5) (t:=359) (e:=279) (n:=20) (by kernel_rfl) (by kernel_rfl) Tryz.underlying359 Tryz.underlying279 (by kernel_rfl) (by kernel_rfl) hl.tail.tail
 ·obtain⟨cs,hc,_⟩:=hs.1 7 (Array.replicate 64 (.int .u8 0)) 362 (of_decide_eq_true (by kernel_rfl)) (by kernel_rfl)
  have:=acO hc
  omega
end
section
open Go.ChangeShapes Go.WideShapes Go.ChangeAt Go.RowKit
section
variable {H:Type}{enc:TypeId×Value→H}
end
end
section
open Go.ChangeShapes Go.WideShapes Go.ChangeAt Go.RowKit
theorem own:ownKnob Tryz.prog.godebug=none:=by kernel_rfl
end
section
open Go.ChangeShapes Go.WideShapes Go.ChangeAt Go.RowKit Go.Deep
theorem aXG:Tryz.prog.cellsOf 91=13:=by kernel_rfl
theorem cells34:Tryz.prog.cellsOf 34=5:=by kernel_rfl
theorem cells24:Tryz.prog.cellsOf 24=4:=by kernel_rfl
theorem laidOut:laidOutB Tryz.prog=true:=by kernel_rfl
theorem bbZ:Tryz.prog.bytesOf 24=56:=by kernel_rfl
section
variable {H:Type}{enc:TypeId×Value→H}{W:World}
def Fits (t:TypeId)(d:DataW H):Prop:=∀n∈d.weights Tryz.prog t,n≤reachBytes
theorem asc {e:TypeId}{n:Nat}:∀{l:List (DataW H)}{d:DataW H},d∈l→n∈d.weights Tryz.prog e→n∈DataW.weightsAll Tryz.prog e l
 |x::l,d,hd,hn=>by
  rw[DataW.weightsAll,aaG]
  rcases abb.1 hd with rfl|hd
  ·exact .inl hn
  ·exact .inr (asc hd hn)
theorem Fits.field {t t':TypeId}{fs:Array Field}{parts:List (DataW H)}{d:DataW H}{j:Nat}(h:Fits t (.agg parts))(ht:Tryz.prog.underlying t=some (.struct fs))(hj:(fs.toList.map (·.type))[j]? =some t')(hd:parts[j]? =some d):Fits t' d:=fun n hn=>
 h n (by rw[DataW.weights,ht];exact DataW.weights_mem_each hj hd n hn)
theorem Fits.elem {t e:TypeId}{elems spare:List (DataW H)}{d:DataW H}(h:Fits t (.slice elems spare))(ht:Tryz.prog.underlying t=some (.slice e))(hd:d∈elems):Fits e d:=fun n hn=>
 h n (by rw[DataW.weights,ht];exact abq _ (List.mem_append_left _ (asc hd hn)))
theorem Fits.len {t e:TypeId}{elems spare:List (DataW H)}(h:Fits t (.slice elems spare))(ht:Tryz.prog.underlying t=some (.slice e)):elems.length*Tryz.prog.bytesOf e≤reachBytes:=by
 have h1:=h ((elems.length+spare.length)*Tryz.prog.bytesOf e) (by rw[DataW.weights,ht];exact ac2)
 exact aa7 (Nat.mul_le_mul_right _ (Nat.le_add_right _ _)) h1
theorem aXI (a:Addr)(hs:a.spot=none)(i j:Nat):(a.add i).add j=⟨a.block,a.off+i+j,none⟩:=by
 obtain⟨b,o,sp⟩:=a
 simp only at hs
 subst hs
 unfold Addr.add
 split<;>split<;>simp_all
theorem am5.le {A:Nat→Prop}{d d':Nat}{v:Value}{ts:List RV}(h:am5 W A d v ts)(hd:d≤d'):am5 W A d' v ts:=by
 obtain⟨p,c,rfl,hl,h1⟩:=h
 refine⟨p,c,rfl,hl,fun j t hj=>?_⟩
 obtain⟨g,o,cs,rfl,hA,hc,ht⟩:=h1 j t hj
 exact⟨g,o,cs,rfl,hA,hc,ht.le hd⟩
instance:Inhabited RV:=⟨.mk 0 0 ⟨#[]⟩ []⟩
theorem aF8 {α β:Type}(sz:α→Nat)(S:List α→Nat)(hS0:S []=0)(hS:∀a l,S (a::l)=sz a+S l)(b:β→DataW H):∀(elems:List β)(f:Nat→α),(∀(i:Nat)(y:β),elems[i]? =some y→sz (f i)≤Rows.uptoBulk (b y))→S ((List.range elems.length).map f)≤Rows.uptoBulkAll (elems.map b)
 | [],f,_=>by simp[hS0]
 |y::l,f,h=>by
  rw[abJ,List.range_succ_eq_map,acv,List.map_map,hS,acv,Rows.uptoBulkAll]
  exact Nat.add_le_add (h 0 y rfl) (aF8 sz S hS0 hS b l (f∘Nat.succ) (fun i z hz=>h (i+1) z hz))
theorem aAF {n:Nat}(ih:∀m,m<n→∀(cs:List Value)(x:DataW H×List MemPlace),DataW.trod enc Tryz.prog W 0 (fun _=>true) true m 24 cs=some x→Fits 24 x.1→∃t,ahG W (fun _=>False) m t cs∧t.size≤Rows.uptoBulk x.1)
 {v:Value} {x:DataW H×List MemPlace} (h:DataW.trod enc Tryz.prog W 0 (fun _=>true) true n 22 [v]=some x) (hw:Fits 22 x.1):∃ts,am5 W (fun _=>False) n v ts∧sizes ts≤Rows.uptoBulk x.1:=by
 rcases DataW.trod_slice Tryz.underlying22 h with⟨hc,_⟩|⟨a,len,cap,elems,rest,m,rfl,hc,rfl,_,hl,hm,hlen,hall,_⟩
 ·simp only[akC,and_true]at hc
  exact⟨[],by rw[hc];exact⟨none,0,rfl,by simp,fun j t hj=>by simp at hj⟩,by simp[sizes]⟩
 ·simp only[akC,and_true]at hc
  subst hc
  have hex:∀i,i<len→∃t:RV,∃cs,(∀(j:Nat)(u:Value),cs[j]? =some u→W.cell? ((a.add (i*4)).add j)=some u)∧ahG W (fun _=>False) m t cs∧∀y,elems[i]? =some y→t.size≤Rows.uptoBulk y.1:=by
   intro i hi
   have h1:=hall i hi
   rw[cells24]at h1
   obtain⟨y,hy⟩ :∃y,elems[i]? =some y:=⟨_,aaw (by omega)⟩
   rw[hy]at h1
   obtain⟨cs,h2,h3⟩:=aeH.1 h1
   obtain⟨_,hcl,hcell⟩:=World.cells?_some h2
   have hyf:Fits 24 y.1:=hw.elem Tryz.underlying22 (aaZ.2 ⟨y,aaH hy,rfl⟩)
   obtain⟨t,ht,hsz⟩:=ih m (by omega) cs y h3 hyf
   refine⟨t,cs,fun j u hj=>?_,ht,fun y' hy'=>by rw[hy]at hy';injection hy' with hy';subst hy';exact hsz⟩
   rw[hcell j (by have:=(aaq.1 hj).1;omega)]
   exact hj
  obtain⟨f,hf⟩:=choose_lt (α:=RV) (p:=fun i t=>∃cs,(∀(j:Nat)(u:Value),cs[j]? =some u→W.cell? ((a.add (i*4)).add j)=some u)∧ahG W (fun _=>False) m t cs∧∀y,elems[i]? =some y→t.size≤Rows.uptoBulk y.1) hex
  refine⟨(List.range len).map f,⟨some a,cap,by simp,?_,fun j t hj=>?_⟩,?_⟩
  ·have h1:=hw.len Tryz.underlying22
   rw[bbZ,afe,hlen]at h1
   simp only[afe,List.length_range]
   unfold reachBytes at h1
   omega
  ·rw[abl]at hj
   cases hr:(List.range len)[j]? with
   |none=>rw[hr]at hj;cases hj
   |some j'=>
    rw[hr]at hj
    obtain⟨hjl,hj2⟩:=aaq.1 hr
    simp at hjl hj2
    subst hj2
    injection hj with hj
    subst hj
    obtain⟨cs0,h00,ht0,-⟩:=hf 0 (by omega)
    obtain⟨cs,h1,ht,-⟩:=hf j hjl
    have hsp:a.spot=none:=by
     have h4:=ht0.len
     have:=World.cell?_spot (h00 0 (cs0[0]'(by omega)) (aaw _))
     simpa[Addr.add]using this
    refine⟨a.block,a.off,cs,by obtain⟨b,o,sp⟩:=a;simp only at hsp;subst hsp;rfl,fun h=>h,fun i u hi=>?_,ht.le (ab5 _)⟩
    rw[←aXI a hsp]
    exact h1 i u hi
  ·have h9:=aF8 (H:=H) RV.size sizes (by simp[sizes]) (fun _ _=>by simp[sizes]) (fun y:DataW H×List MemPlace=>y.1) elems f (fun i y hy=>by
    obtain⟨cs,_,_,h3⟩:=hf i (by have:=(aaq.1 hy).1;omega)
    exact h3 y hy)
   rw[hlen]at h9
   rw[Rows.uptoBulk]
   omega
theorem axH:∀(fuel:Nat)(cs:List Value)(x:DataW H×List MemPlace),DataW.trod enc Tryz.prog W 0 (fun _=>true) true fuel 24 cs=some x→Fits 24 x.1→∃t,ahG W (fun _=>False) fuel t cs∧t.size≤Rows.uptoBulk x.1:=by
 intro fuel
 induction fuel using Nat.strongRecOn with
 |_ fuel ih=>
  intro cs x h hw
  obtain⟨xs,n,rfl,rfl,hl,hlen,hf⟩:=DataW.trod_struct Tryz.underlying24 h
  rw[cells24]at hl
  match xs,hlen,cs,hl with
  | [y0,y1,y2,y3],_,[v0,v1,v2,v3],_=>
    have f0:=hf 0 _ rfl
    have f1:=hf 1 _ rfl
    have f2:=hf 2 _ rfl
    have f3:=hf 3 _ rfl
    simp only[ac3,ad6]at f0 f1 f2 f3
    obtain⟨k,e0,_,_⟩:=am0 Tryz.underlying3 f0
    obtain⟨m,e1,_,_⟩:=am0 Tryz.underlying3 f1
    obtain⟨s,e2,_⟩:=DataW.trod_string Tryz.underlying9 f2
    injection e0 with e0 _
    injection e1 with e1 _
    injection e2 with e2 _
    obtain⟨ts,⟨p,c,rfl,hl2,h1⟩,hsz⟩:=aAF (n:=n) (fun m hm=>ih m (by omega)) f3 (hw.field (j:=3) Tryz.underlying24 rfl rfl)
    refine⟨.mk k m s ts,⟨p,c,by rw[e0,e1,e2],hl2,h1⟩,?_⟩
    rw[RV.size]
    simp only[acv,aiy,Rows.uptoBulk,Rows.uptoBulkAll]
    omega
instance:Inhabited NP:=⟨.mk false ⟨0,0,none,0,0,0,0,⟨#[]⟩,none,0,0,0,0,⟨#[]⟩,none,0,0,[],.mk 0 0 ⟨#[]⟩ [],.mk 0 0 ⟨#[]⟩ []⟩ []⟩
def NP.bulk:NP→Nat
 | .mk _ r kids=>1+r.seen.size+r.wrote.size+sizes r.args+ahq kids
def aQ0 (W:World)(e d:Nat)(cs:List Value)(x:NP):Prop:=match x with
 | .mk mod r kids=>∃vk,cs=r.cells mod vk∧am5 W (fun _=>False) e (.slice r.pa r.na r.ca) r.args∧ahG W (fun _=>False) e r.seen [.int .i64 r.sk,.int .i64 r.sm,.string r.ss,.slice r.sp r.sn r.sc]∧ahG W (fun _=>False) e r.wrote [.int .i64 r.wk,.int .i64 r.wm,.string r.ws,.slice r.wp r.wn r.wc]∧anK W (fun _=>False) e d kids vk
theorem anK.a5g {e e':Nat}(he:e≤e'):∀{d d':Nat}{l:List NP}{v:Value},d≤d'→anK W (fun _=>False) e d l v→anK W (fun _=>False) e' d' l v
 |0,0,_,_,_,h=>h
 |0,d'+1,l,v,_,h=>by
  obtain⟨rfl,p,c,rfl⟩:=h
  exact⟨p,c,rfl,fun j _ _ _ hj=>by simp at hj⟩
 |d+1,0,_,_,hd,_=>absurd hd (by omega)
 |d+1,d'+1,l,v,hd,h=>by
  obtain⟨p,c,rfl,h1⟩:=h
  refine⟨p,c,rfl,fun j mod r kids hj=>?_⟩
  obtain⟨g,o,vk,h2,h3,h4,h5,h6,h7,h8⟩:=h1 j mod r kids hj
  exact⟨g,o,vk,h2,h3,h4,h5.le he,h6.le he,h7.le he,anK.a5g he (by omega) h8⟩
theorem aVp:∀(n:Nat)(v:Value)(x:DataW H×List MemPlace),DataW.trod enc Tryz.prog W 0 (fun _=>true) true n 32 [v]=some x→Fits 32 x.1→∃l,anK W (fun _=>False) n n l v∧ahq l≤Rows.uptoBulk x.1:=by
 intro n
 induction n using Nat.strongRecOn with
 |_ n ih=>
  intro v x h hw
  rcases DataW.trod_slice Tryz.underlying32 h with⟨hc,_⟩|⟨a,len,cap,elems,rest,m,rfl,hc,rfl,_,hl,hm,hlen,hall,_⟩
  ·simp only[akC,and_true]at hc
   refine⟨[],?_,by simp[ahq]⟩
   rw[hc]
   cases n with
   |zero=>exact⟨rfl,none,0,rfl⟩
   |succ n=>exact⟨none,0,rfl,fun j _ _ _ hj=>by simp at hj⟩
  ·simp only[akC,and_true]at hc
   subst hc
   have hex:∀i,i<len→∃y:NP,∃cs,(∀(j:Nat)(u:Value),cs[j]? =some u→W.cell? ((a.add (i*13)).add j)=some u)∧aQ0 W m m cs y∧∀z,elems[i]? =some z→y.bulk≤Rows.uptoBulk z.1:=by
    intro i hi
    have h1:=hall i hi
    rw[aXG]at h1
    obtain⟨y,hy⟩ :∃y,elems[i]? =some y:=⟨_,aaw (by omega)⟩
    rw[hy]at h1
    obtain⟨cs,h2,h3⟩:=aeH.1 h1
    obtain⟨_,hcl,hcell⟩:=World.cells?_some h2
    have hyf:Fits 91 y.1:=hw.elem Tryz.underlying32 (aaZ.2 ⟨y,aaH hy,rfl⟩)
    obtain⟨xs,k,rfl,hxe,a0J,hxl,hf⟩:=DataW.trod_struct Tryz.underlying91 h3
    obtain⟨y1,y2⟩:=y
    injection hxe with hxe1 hxe2
    simp only at hyf
    rw[hxe1]at hyf
    have bx9:=hxe1
    clear hxe1 hxe2
    rw[aXG]at a0J
    match xs,hxl,cs,a0J with
    | [x0,x1,x2,x3,x4,x5,x6],_,[c0,c1,c2,c3,c4,c5,c6,c7,c8,c9,c10,c11,c12],_=>
      have f0:_=some x0:=hf 0 _ rfl
      have f1:_=some x1:=hf 1 _ rfl
      have f2:_=some x2:=hf 2 _ rfl
      have f3:_=some x3:=hf 3 _ rfl
      have f4:_=some x4:=hf 4 _ rfl
      have f5:_=some x5:=hf 5 _ rfl
      have f6:_=some x6:=hf 6 _ rfl
      obtain⟨b,e0,_⟩:=DataW.trod_bool Tryz.underlying4 f0
      obtain⟨si,e1,_,_⟩:=am0 Tryz.underlying3 f1
      obtain⟨ad,e2,_,_⟩:=am0 Tryz.underlying3 f2
      injection e0 with e0 _
      injection e1 with e1 _
      injection e2 with e2 _
      obtain⟨ts,hts,zts⟩:=aAF (n:=k) (fun m _=>axH m) f3 (hyf.field (j:=3) Tryz.underlying91 rfl rfl)
      obtain⟨se,hse,zse⟩:=axH k _ _ f4 (hyf.field (j:=4) Tryz.underlying91 rfl rfl)
      obtain⟨wo,hwo,zwo⟩:=axH k _ _ f5 (hyf.field (j:=5) Tryz.underlying91 rfl rfl)
      obtain⟨kids,hkids,zki⟩:=ih k (by omega) _ _ f6 (hyf.field (j:=6) Tryz.underlying91 rfl rfl)
      obtain⟨sk,sm,ss,sp,sn,sc,he4⟩:=hse.four
      obtain⟨wk,wm,ws,wp,wn,wc,he5⟩:=hwo.four
      injection he4 with g0 he4
      injection he4 with g1 he4
      injection he4 with g2 he4
      injection he4 with g3 he4
      injection he5 with i0 he5
      injection he5 with i1 he5
      injection he5 with i2 he5
      injection he5 with i3 he5
      replace hse:ahG W (fun _=>False) k se [c4,c5,c6,c7]:=hse
      replace hwo:ahG W (fun _=>False) k wo [c8,c9,c10,c11]:=hwo
      rw[g0,g1,g2,g3]at hse
      rw[i0,i1,i2,i3]at hwo
      have bIl:=hts
      obtain⟨pa,ca,rfl,_⟩:=bIl
      refine⟨.mk b ⟨si,ad,pa,ts.length,ca,sk,sm,ss,sp,sn,sc,wk,wm,ws,wp,wn,wc,ts,se,wo⟩ kids,[c0,c1,c2,.slice pa ts.length ca,c4,c5,c6,c7,c8,c9,c10,c11,c12],fun j u hj=>?_,⟨c12,by rw[e0,e1,e2,g0,g1,g2,g3,i0,i1,i2,i3];rfl,hts.le (ab5 _),hse.le (ab5 _),hwo.le (ab5 _),hkids.a5g (ab5 _) (ab5 _)⟩,fun z hz=>?_⟩
      rotate_left
      ·rw[hy]at hz
       injection hz with hz
       subst hz
       simp only[NP.bulk]
       rw[bx9]
       simp only[acv,aiy,Rows.uptoBulk,Rows.uptoBulkAll]
       omega
      rw[hcell j (by have:=(aaq.1 hj).1;simpa using this)]
      exact hj
   obtain⟨f,hf⟩:=choose_lt (α:=NP) (p:=fun i y=>∃cs,(∀(j:Nat)(u:Value),cs[j]? =some u→W.cell? ((a.add (i*13)).add j)=some u)∧aQ0 W m m cs y∧∀z,elems[i]? =some z→y.bulk≤Rows.uptoBulk z.1) hex
   refine⟨(List.range len).map f,⟨some a,cap,by simp,fun j mod r kids hj=>?_⟩,?_⟩
   rotate_left
   ·have h9:=aF8 (H:=H) NP.bulk ahq (by simp[ahq]) (fun a l=>by obtain⟨_,_,_⟩:=a;simp[ahq,NP.bulk]) (fun y:DataW H×List MemPlace=>y.1) elems f (fun i y hy=>by
     obtain⟨cs,_,_,h3⟩:=hf i (by have:=(aaq.1 hy).1;omega)
     exact h3 y hy)
    rw[hlen]at h9
    rw[Rows.uptoBulk]
    omega
   rw[abl]at hj
   cases hr:(List.range len)[j]? with
   |none=>rw[hr]at hj;cases hj
   |some j'=>
    rw[hr]at hj
    obtain⟨hjl,hj2⟩:=aaq.1 hr
    simp at hjl hj2
    subst hj2
    injection hj with hj
    obtain⟨cs,h1,h2,-⟩:=hf j hjl
    rw[hj]at h2
    obtain⟨vk,rfl,q1,q2,q3,q4⟩:=h2
    have hsp:a.spot=none:=by
     obtain⟨cs0,h00,hn0,-⟩:=hf 0 (by omega)
     cases hfe:f 0 with
     |mk m0 r0 k0=>
      rw[hfe]at hn0
      obtain⟨vk0,rfl,_⟩:=hn0
      have:=World.cell?_spot (h00 0 _ rfl)
      simpa[Addr.add]using this
    refine⟨a.block,a.off,vk,by obtain⟨b,o,sp⟩:=a;simp only at hsp;subst hsp;rfl,fun h=>h,fun i u hi=>?_,q1.le (ab5 _),q2.le (ab5 _),q3.le (ab5 _),q4.a5g (ab5 _) (aai _)⟩
    rw[←aXI a hsp]
    exact h1 i u hi
theorem aVs {b0:Nat}{v:Value}{dd:DataW H}{p:List MemPlace}(hv:Value.okWide Tryz.prog W .any b0 34 v)(h:DataW.Trod enc Tryz.prog W 0 (fun _=>true) true 34 v dd p)(hw:Fits 34 dd):
 ∃(e d:Nat)(s:SR)(st:List RV)(l:List NP),v= .agg s.cells∧am5 W (fun _=>False) e (.slice s.ps s.ns s.cs) st∧anK W (fun _=>False) e d l (.slice s.pr s.nr s.cr)∧sizes st+ahq l≤Rows.uptoBulk dd:=by
 unfold Value.okWide at hv
 rw[Tryz.underlying34]at hv
 obtain⟨cs,rfl,hsz,_⟩:=hv
 obtain⟨fuel,hf0⟩:=h
 obtain⟨xs,k,rfl,hxe,a0J,hxl,hf⟩:=DataW.trod_struct Tryz.underlying34 hf0
 injection hxe with hxe1 hxe2
 subst hxe1
 obtain⟨cs⟩:=cs
 simp only[Value.cells]at a0J hf
 rw[cells34]at a0J
 match xs,hxl,cs,a0J with
 | [x0,x1,x2,x3,x4],_,[c0,c1,c2,c3,c4],_=>
   have f0:_=some x0:=hf 0 _ rfl
   have f1:_=some x1:=hf 1 _ rfl
   have f2:_=some x2:=hf 2 _ rfl
   have f3:_=some x3:=hf 3 _ rfl
   have f4:_=some x4:=hf 4 _ rfl
   obtain⟨st,hst,zst⟩:=aAF (n:=k) (fun m _=>axH m) f0 (hw.field (j:=0) Tryz.underlying34 rfl rfl)
   obtain⟨p0,q0,rfl,hst2⟩:=hst
   obtain⟨p1,n1,q1,e1⟩:=Joins.slice_form Tryz.underlying30 f1
   obtain⟨p2,n2,q2,e2⟩:=Joins.slice_form Tryz.underlying31 f2
   obtain⟨l,hl,zl⟩:=aVp k _ _ f3 (hw.field (j:=3) Tryz.underlying34 rfl rfl)
   obtain⟨p3,q3,rfl⟩:=hl.form
   obtain⟨stp,e4,_,_⟩:=am0 Tryz.underlying3 f4
   injection e1 with e1 _
   injection e2 with e2 _
   injection e4 with e4 _
   refine⟨k,k,⟨p0,st.length,q0,p1,n1,q1,p2,n2,q2,p3,l.length,q3,stp⟩,st,l,by rw[e1,e2,e4];rfl,⟨p0,q0,rfl,hst2⟩,hl,?_⟩
   simp only[acv,aiy,Rows.uptoBulk,Rows.uptoBulkAll]
   omega
end
end
end Go.Proofs.YtfehlbepjmmkeaaGreatDoor
