/-
  DERIVED. The example with which the statements begin returns true and leaves all memory as it was. Condition: the package variable that it reads is laid.
-/
import Derived.Test.YtfehlbepjmmkeaaGreatDoorCk1
import Derived.Test.YtfehlbepjmmkeaaGreatDoorCk2
import Derived.Test.YtfehlbepjmmkeaaGreatDoorCk3
import Derived.Test.YtfehlbepjmmkeaaGreatDoorCk4
import Derived.Test.YtfehlbepjmmkeaaGreatDoorCk5
import Derived.Test.YtfehlbepjmmkeaaGreatDoorCk6
import Derived.Test.YtfehlbepjmmkeaaGreatDoorFk7
import Derived.Test.YtfehlbepjmmkeaaGreatDoorFk7a
import Derived.Test.YtfehlbepjmmkeaaGreatDoorFk7b
import Derived.Test.YtfehlbepjmmkeaaGreatDoorFk7c
import Derived.Test.YtfehlbepjmmkeaaGreatDoorFk7d
import Derived.Test.YtfehlbepjmmkeaaGreatDoorFk7e
import Derived.Test.YtfehlbepjmmkeaaGreatDoorFk7f
import Derived.Test.YtfehlbepjmmkeaaGreatDoorFk7g
import Derived.Test.YtfehlbepjmmkeaaGreatDoorFk7h
import Derived.Test.YtfehlbepjmmkeaaGreatDoorFk7i
import Derived.Test.YtfehlbepjmmkeaaGreatDoorFk7j
import Derived.Test.YtfehlbepjmmkeaaGreatDoorCk8
import Derived.Test.YtfehlbepjmmkeaaGreatDoorTie2
namespace Go.Proofs.YtfehlbepjmmkeaaGreatDoor
set_option maxRecDepth 100000
set_option linter.unusedSimpArgs false
set_option linter.unusedVariables false
open Go.RowKit
namespace Ex
theorem aMY {P:Program}{f:Nat}{fn:Func}{e:Array Value→Sem Value}(hf:P.funcs[f]? =some fn)(hb:fn.body=none)(hn:(fn.name== "runtime.NumGoroutine")=false)
 (hx:Extern.findNext fn=none) (he:Extern.find fn=some e) {args:Array Value} {w:World} {v:Value} (h:(e args).run P w= .ok v w):(callFunc f args).run P w= .ok (.value v) w:=by
 have hn':fn.name≠ "runtime.NumGoroutine" :=by simpa using hn
 simp[callFunc,go_sem,hf,hb,hx,hn',he,h]
def aQ1 (P:Program)(n:String)(k:Nat):Bool:=(P.funcs.toList.zipIdx.all fun x=>x.1.name !=n||Nat.beq x.2 k)
theorem sole {P:Program}{n:String}{k:Nat}(h:aQ1 P n k=true){f:Nat}{fn:Func}(hf:P.funcs[f]? =some fn)(hn:fn.name=n):f=k:=by
 unfold aQ1 at h
 rw[acg]at h
 have hm:(fn,f)∈P.funcs.toList.zipIdx:=by
  rw[List.mem_zipIdx_iff_getElem?]
  simpa using hf
 have:=h _ hm
 simp only[afU,bne_iff_ne,ne_eq]at this
 rcases this with h1|h1
 ·exact absurd hn h1
 ·exact acF h1
theorem ext:Ext Tryz.prog where
 mix:=by kernel_rfl
 idx f fn hf hb hn args w v h:=by
  have e:f=291:=sole (show aQ1 Tryz.prog a5k 291=true by decide+kernel) hf hn
  subst e
  rw[Tryz.func291]at hf
  injection hf with hf
  subst hf
  exact aMY Tryz.func291 (by kernel_rfl) (by kernel_rfl) (by kernel_rfl) (by kernel_rfl) h
 cnt f fn hf hb hn args w v h:=by
  have e:f=261:=sole (show aQ1 Tryz.prog a5l 261=true by decide+kernel) hf hn
  subst e
  rw[Tryz.func261]at hf
  injection hf with hf
  subst hf
  exact aMY Tryz.func261 (by kernel_rfl) (by kernel_rfl) (by kernel_rfl) (by kernel_rfl) h
 esc f fn hf hb hn v w:=by
  have e:f=226:=sole (show aQ1 Tryz.prog a5n 226=true by decide+kernel) hf hn
  subst e
  rw[Tryz.func226]at hf
  injection hf with hf
  subst hf
  exact aMY Tryz.func226 (by kernel_rfl) (by kernel_rfl) (by kernel_rfl) (e:=Extern.AbiNoEscape.same) (by kernel_rfl) (by rfl)
theorem part {n:Nat}{s r:AS}(h:aH4 C 6 n s r=true):Reach Tryz.prog s r:=a0O ext table ((bb5 C 6 n s r)▸h)
theorem p1:Reach Tryz.prog s0 s1:=part c1
theorem p2:Reach Tryz.prog s1 s2:=part c2
theorem p3:Reach Tryz.prog s2 s3:=part c3
theorem p4:Reach Tryz.prog s3 s4:=part c4
theorem p5:Reach Tryz.prog s4 s5:=part c5
theorem p6:Reach Tryz.prog s5 s6:=part c6
theorem bIq:anL 2680 Tryz.prog (way (afW C 6 0 19 s6) 0) r7:=amc ext table bFL (fun j hj=>match j,hj with
 |0,_=>adz ext table bkb
 |1,_=>adz ext table bkl
 |2,_=>adz ext table bkn
 |3,_=>adz ext table bkq
 |4,_=>adz ext table bkr
 |k+5,h=>absurd h (by omega)) rfl rfl
theorem bIr:anL 2680 Tryz.prog (way (afW C 6 0 19 s6) 1) r7:=amc ext table bFM (fun j hj=>match j,hj with
 |0,_=>adz ext table bkv
 |1,_=>adz ext table bkw
 |2,_=>adz ext table bkA
 |3,_=>adz ext table bkB
 |4,_=>adz ext table bkF
 |k+5,h=>absurd h (by omega)) rfl rfl
theorem bIs:anL 2680 Tryz.prog (way (afW C 6 0 19 s6) 2) r7:=amc ext table bFO (fun j hj=>match j,hj with
 |0,_=>adz ext table bkH
 |1,_=>adz ext table bkI
 |2,_=>adz ext table bkK
 |3,_=>adz ext table bkL
 |4,_=>adz ext table bkN
 |k+5,h=>absurd h (by omega)) rfl rfl
theorem bIy:anL 2680 Tryz.prog (way (afW C 6 0 19 s6) 3) r7:=amc ext table bFQ (fun j hj=>match j,hj with
 |0,_=>adz ext table bkP
 |1,_=>adz ext table bkQ
 |2,_=>adz ext table bkU
 |3,_=>adz ext table bkZ
 |4,_=>adz ext table bk6
 |k+5,h=>absurd h (by omega)) rfl rfl
theorem bIB:anL 2680 Tryz.prog (way (afW C 6 0 19 s6) 4) r7:=amc ext table bFY (fun j hj=>match j,hj with
 |0,_=>adz ext table bk7
 |1,_=>adz ext table blb
 |2,_=>adz ext table bll
 |3,_=>adz ext table blp
 |4,_=>adz ext table blq
 |k+5,h=>absurd h (by omega)) rfl rfl
theorem bID:anL 2680 Tryz.prog (way (afW C 6 0 19 s6) 5) r7:=amc ext table bF3 (fun j hj=>match j,hj with
 |0,_=>adz ext table blr
 |1,_=>adz ext table bls
 |2,_=>adz ext table blw
 |3,_=>adz ext table blx
 |4,_=>adz ext table bly
 |k+5,h=>absurd h (by omega)) rfl rfl
theorem p7:Reach Tryz.prog s6 s7:=aIM ext table f7 (fun i hi=>match i,hi with
 |0,_=>bIq
 |1,_=>bIr
 |2,_=>bIs
 |3,_=>bIy
 |4,_=>bIB
 |5,_=>bID
 |k+6,h=>absurd h (by omega)) rfl rfl
theorem p8:Reach Tryz.prog s7 s8:=part c8
theorem whole:Reach Tryz.prog s0 s8:=(((((((p1.trans p2).trans p3).trans p4).trans p5).trans p6).trans p7).trans p8)
def place (b o:Nat)(n:Nat):Loc:=if n=64 then ⟨b,o,0⟩ else ⟨n,0,0⟩
theorem aAG {n:Nat}{x:afp}(h:H0.bl.get n=some x):n=0∧x= .cells 1 (lst [.iface 354 (.ptr 64 0)]) 228 false 0 0:=by
 have:=aGa (α:=afp) (l:=[(0,afp.cells 1 (lst [AV.iface 354 (AV.ptr 64 0)]) 228 false 0 0)]) (fun x hx=>by
  rw[aaW]at hx;subst hx;exact of_decide_eq_true (by kernel_rfl)) h
 rw[aaW]at this
 injection this with h1 h2
 exact⟨h1,h2⟩
theorem bb6 {i:Nat}{x v:AV}(h:(lst [x]).get i=some v):i=0∧v=x:=by
 have e:lst [x]=T.set (some x) FUEL .E 0:=rfl
 rw[e,T.aMZ _ _ _ _ _ (of_decide_eq_true (by kernel_rfl))]at h
 split at h
 ·rename_i h0
  injection h with h
  exact⟨h0,h.symm⟩
 ·rw[T.akl]at h;cases h
theorem start {w:World}{b o:Nat}(h:w.heap[0]? =some (.cells #[.iface 354 (.pointer (some ⟨b,o,none⟩))] 228 (0,0))):Rel Tryz.prog (place b o) (fun n=>n<65) H0 w where
 blk n x hx _:=by
  obtain⟨rfl,rfl⟩:=aAG hx
  refine⟨_,_,h,rfl,fun _=>⟨rfl,rfl,rfl⟩,fun hc=>(by cases hc),fun i v hv=>?_⟩
  obtain⟨rfl,rfl⟩:=bb6 hv
  exact⟨Nat.zero_lt_one,(show(64:Nat)<65 by decide),rfl⟩
 inj n n' x x' hx hx' _ _ _:=(aAG hx).1.trans (aAG hx').1.symm
 next n hn:=hn
 glob g hg:=⟨acG hg (by decide),by unfold place;rw[if_neg (by have:a5t=64:=rfl;omega)]⟩
 aEp n m l c hx _:=by have:=(aAG hx).2;cases this
 uniq n m l c n' l' c' hx _ _ _:=by have:=(aAG hx).2;cases this
theorem aVy {w:World}{b o:Nat}(h:w.heap[0]? =some (.cells #[.iface 354 (.pointer (some ⟨b,o,none⟩))] 228 (0,0))):
 Calls Tryz.prog 12 #[] w fun e w'=>e= .returned (.bool true)∧w'.os=w.os∧w'.tape=w.tape∧w'.output=w.output∧w.heap.size≤w'.heap.size∧∀i,i<w.heap.size→w'.heap[i]? =w.heap[i]? :=by
 have he:asY C 12 [] false 64=some s0.fr:=by kernel_rfl
 have hs:s0=⟨s0.fr,[],H0⟩:=by kernel_rfl
 have hd:a5v C 12 s8=some (.bool true):=by kernel_rfl
 have hr:=whole
 rw[hs]at hr
 refine(aGe table he hr hd (show 64≤65 by decide) (start h) trivial).mono fun e w' ⟨φ',dm',q1,_,q3,q4⟩=>?_
 refine⟨q1,q4.os,q4.tape,q4.output,q4.size,fun i hi=>?_⟩
 by_cases ho:i=0
 ·subst ho
  have hg:s8.H.bl.get 0=some (.cells 1 (lst [.iface 354 (.ptr 64 0)]) 228 false 0 0):=by kernel_rfl
  have hdm:dm' 0:=q4.dms 0 (show(0:Nat)<65 by decide)
  have hp:φ' 0=⟨0,0,0⟩:=q4.ph 0 (show(0:Nat)<65 by decide)
  have hp2:φ' 64=⟨b,o,0⟩:=q4.ph 64 (show(64:Nat)<65 by decide)
  obtain⟨c,z,r1,r2,r3,_,r4⟩:=q3.blk 0 _ hg hdm
  obtain⟨_,_,r5⟩:=r3 rfl
  obtain⟨_,_,r6⟩:=r4 0 (.iface 354 (.ptr 64 0)) (by kernel_rfl)
  rw[hp]at r1 r6
  have hz:z=(0,0):=r2
  have hc:c= #[.iface 354 (.pointer (some ⟨b,o,none⟩))]:=by
   have hv:abe φ' (.iface 354 (.ptr 64 0))= .iface 354 (.pointer (some ⟨b,o,none⟩)):=by simp[abe,hp2]
   rw[hv]at r6
   obtain⟨l⟩:=c
   match l,r5,r6 with
   | [y],_,r6=>
     simp at r6
     rw[r6]
  rw[r1,h,hz,hc]
 ·refine q4.frame i hi fun hx=>?_
  obtain⟨n,x,h1,_,h3⟩:=hx
  obtain⟨rfl,rfl⟩:=aAG h1
  exact ho (by rw[←h3];rfl)
end Ex
end Go.Proofs.YtfehlbepjmmkeaaGreatDoor
