/-
  DERIVED. What a call may change in memory, in plain words. No condition.
-/
import Derived.Test.YtfehlbepjmmkeaaGreatDoorProg
import Derived.WalkKit
import Derived.WalkLawsBesides
import Derived.Handy
import Derived.Deep.QuietTactic
import Derived.BigQuiet
import Derived.LaidEqlPtr
import Derived.Lib.Hide
import Derived.Maps.AppendAt
import Derived.RangeFuncNested
import Derived.OwnWalk
import Derived.RangeFuncBound
import Derived.RangeFuncCalls
import Derived.RangeFuncLeaves
import Derived.Shelf.Abstract
import Derived.Shelf.RegionOpen
import Derived.OwnWalkIn
import Derived.TacticsInMore
import Derived.LoopNIn
import Derived.LoopIn
import Derived.Deep.RegionHeld3
import Derived.Deep.Slices
import Derived.OrdersHeld
import Derived.StillTail
import Derived.Test.YtfehlbepjmmkeaaGreatDoorXc
namespace Go.Proofs.YtfehlbepjmmkeaaGreatDoor
set_option maxHeartbeats 1600000
set_option linter.unusedSimpArgs false
set_option linter.unusedVariables false
section
open Go.RowKit
structure Kept (S:Nat→Prop)(w w':World):Prop where
 os:w'.os=w.os
 tape:w'.tape=w.tape
 output:w'.output=w.output
 size:w.heap.size≤w'.heap.size
 block:∀k,k<w.heap.size→¬S k→w'.heap[k]? =w.heap[k]?
theorem Kept.refl (S:Nat→Prop)(w:World):Kept S w w:=⟨rfl,rfl,rfl,aai _,fun _ _ _=>rfl⟩
theorem Kept.trans {S T:Nat→Prop}{a b c:World}(h:Kept S a b)(k:Kept T b c)(hT:∀x,x<a.heap.size→T x→S x):Kept S a c:=
 ⟨k.os.trans h.os,k.tape.trans h.tape,k.output.trans h.output,aa7 h.size k.size,
  fun i hi hn=>(k.block i (acG hi h.size) (fun t=>hn (hT i hi t))).trans (h.block i hi hn)⟩
theorem Kept.mono {S T:Nat→Prop}{a b:World}(h:Kept S a b)(hT:∀x,x<a.heap.size→S x→T x):Kept T a b:=
 ⟨h.os,h.tape,h.output,h.size,fun i hi hn=>h.block i hi (fun s=>hn (hT i hi s))⟩
theorem Kept.drewN {S:Nat→Prop}{a b:World}(h:Kept S a b)(n:Nat):Kept S a (b.drewN n):=⟨h.os,h.tape,h.output,h.size,h.block⟩
theorem Kept.drew {S:Nat→Prop}{a b:World}(h:Kept S a b):Kept S a b.drew:=⟨h.os,h.tape,h.output,h.size,h.block⟩
theorem Kept.alloc {S:Nat→Prop}{a b:World}(h:Kept S a b)(o:Obj):Kept S a (b.alloc o):=
 ⟨h.os,h.tape,h.output,aa7 h.size (by simp),fun i hi hn=>(ajZ _ _ _ (acG hi h.size)).trans (h.block i hi hn)⟩
theorem Kept.setCell {S:Nat→Prop}{a b:World}(h:Kept S a b){p:Addr}(hp:p.block<a.heap.size→S p.block)(u:Value):Kept S a (b.setCell p u):=
 ⟨h.os,h.tape,h.output,aa7 h.size (by simp[World.setCell]),fun i hi hn=>(Below.heap_setCell _ _ _ _ (fun e=>hn (by rw[e];exact hp (e▸hi)))).trans (h.block i hi hn)⟩
theorem Kept.putObj {S:Nat→Prop}{a b:World}(h:Kept S a b){p:Nat}(hp:p<a.heap.size→S p)(o:Obj):Kept S a {b with heap:=b.heap.setIfInBounds p o}:=
 ⟨h.os,h.tape,h.output,aa7 h.size (by simp),fun i hi hn=>(show(b.heap.setIfInBounds p o)[i]? =b.heap[i]? from abN (fun e=>hn (by rw[←e];exact hp (e▸hi)))).trans (h.block i hi hn)⟩
theorem Kept.grown {S:Nat→Prop}{a b c:World}{row:Option Nat}(h:Kept S a b)(hg:b.grownBy c row)(hr:∀k,row=some k→k<a.heap.size→S k):Kept S a c:=
 ⟨hg.os.trans h.os,hg.tape.trans h.tape,hg.output.trans h.output,aa7 h.size hg.size,
  fun i hi hn=>(hg.block i (acG hi h.size) (fun e=>hn (hr i e.symm hi))).trans (h.block i hi hn)⟩
theorem Kept.below {S:Nat→Prop}{a b:World}{B:Nat}(h:Kept S a b)(hB:B≤a.heap.size)(hS:∀k,S k→B≤k):Below B a b:=
 ⟨h.os,h.tape,h.output,h.size,fun k hk=>h.block k (by omega) (fun s=>by have:=hS k s;omega)⟩
abbrev Keeps (w w':World):Prop:=Kept (fun _=>False) w w'
theorem Keeps.refl (w:World):Keeps w w:=Kept.refl _ w
theorem Keeps.trans {w w' w'':World}(h:Keeps w w')(h':Keeps w' w''):Keeps w w'':=Kept.trans h h' (fun _ _ x=>x)
theorem Keeps.alloc (w:World)(o:Obj):Keeps w (w.alloc o):=(Kept.refl _ w).alloc o
theorem Keeps.drew (w:World):Keeps w w.drew:=(Kept.refl _ w).drew
theorem Keeps.drewN (w:World)(n:Nat):Keeps w (w.drewN n):=(Kept.refl _ w).drewN n
theorem acO {w:World}{b:Nat}{o:Obj}(h:w.heap[b]? =some o):b<w.heap.size:=(acK.1 h).1
theorem abV {w:World}{b o:Nat}{c:Array Value}{t:TypeId}{fr:Nat×Nat}(h:w.heap[b]? =some (.cells c t fr))(v:Value):
 (w.setCell ⟨b,o,none⟩ v).heap[b]? =some (.cells (c.setIfInBounds o v) t fr):=by
 have hlt:=acO h
 have h':w.heap[b]= .cells c t fr:=by simpa[acE hlt]using h
 show(w.heap.modify b _)[b]? =_
 rw[acE (by simpa using hlt),Array.getElem_modify_self,h']
 rfl
theorem abw {w:World}{b o k:Nat}(v:Value)(hne:k≠b):(w.setCell ⟨b,o,none⟩ v).heap[k]? =w.heap[k]? :=Below.heap_setCell _ _ _ _ hne
theorem heap_alloc_old {w:World}{k:Nat}{x:Obj}(o:Obj)(h:w.heap[k]? =some x):(w.alloc o).heap[k]? =some x:=by rw[ajZ _ _ _ (acO h),h]
theorem aaL (w:World)(o:Obj):(w.alloc o).heap[w.heap.size]? =some o:=by
 show(w.heap.push o)[w.heap.size]? =_
 simp
theorem cell_of_block {w:World}{b:Nat}{c:Array Value}{t:TypeId}{fr:Nat×Nat}(h:w.heap[b]? =some (.cells c t fr))(o:Nat):w.cell? ⟨b,o,none⟩=c[o]? :=by simp[World.cell?,h]
theorem abu {w:World}{b:Nat}{c:Array Value}{t:TypeId}(h:w.heap[b]? =some (.cells c t (0,0)))(o:Nat):w.frozen? ⟨b,o,none⟩=false:=by simp[World.frozen?,h]
theorem Kept.at {S:Nat→Prop}{w w':World}(h:Kept S w w'){b:Nat}{o:Obj}(hb:w.heap[b]? =some o)(hS:¬S b):w'.heap[b]? =some o:=by rw[h.block b (acO hb) hS,hb]
theorem ac5 {w w':World}{base:Nat}{e:TypeId}{size:Nat}{v:Value}{n:Nat}{xs:List Value}(h:w.ownsRow base e size v n xs)(hs:∀g,v.ownBlock=some g→w'.heap[g]? =w.heap[g]?):w'.ownsRow base e size v n xs:=by
 refine⟨h.1,?_⟩
 rcases h.2 with h|⟨g,cap,cur,hv,hb,hg,r⟩
 ·exact .inl h
 ·exact .inr ⟨g,cap,cur,hv,hb,by rw[hs g (by rw[hv];rfl)];exact hg,r⟩
theorem row_block {w:World}{base:Nat}{e:TypeId}{size:Nat}{v:Value}{n:Nat}{xs:List Value}(h:w.ownsRow base e size v n xs){g:Nat}(hg:v.ownBlock=some g):∃cur,w.heap[g]? =some (.cells cur e (0,0)):=by
 rcases h.2 with⟨h,_⟩|⟨g',cap,cur,hv,hb,hg',r⟩
 ·rw[h]at hg;cases hg
 ·rw[hv]at hg;injection hg with hg;subst hg;exact⟨cur,hg'⟩
theorem aaF {w w':World}(hk:Keeps w w'){a:Addr}{v:Value}(h:w.cell? a=some v):w'.cell? a=some v:=by
 rw[afI (w':=w') (w:=w) (hk.block a.block (afA w _ h) (fun x=>x))]
 exact h
theorem aiI {W:World}{base:Nat}{e:TypeId}{size:Nat}{v:Value}{k:Nat}{xs:List Value}(h:W.ownsRow base e size v (k+1) xs):∃g cap,v= .slice (some ⟨g,0,none⟩) (k+1) cap:=by
 rcases h.2 with⟨_,h⟩|⟨g,cap,cur,hv,_⟩
 ·omega
 ·exact⟨g,cap,hv⟩
theorem aLL {B:Nat}{w W:World}(h:Below B w W){b:Nat}(hb:B≤b)(o':Obj):Below B w (W.putObj b o'):=
 ⟨h.os,h.tape,h.output,by rw[ail];exact h.size,fun k hk=>(abB (by omega)).trans (h.block k hk)⟩
end
section
open Go.RowKit Go.Shelf
def Obj.blC:Obj→Bool
 | .cells _ _ _=>false
 |_=>true
structure agG (X:Nat→Prop)(W W':World):Prop where
 size:W.heap.size≤W'.heap.size
 same:∀b o,¬X b→W.heap[b]? =some o→Obj.blC o=true→W'.heap[b]? =some o
theorem agG.refl (X:Nat→Prop)(W:World):agG X W W:=⟨aai _,fun _ _ _ h _=>h⟩
theorem agG.trans {X:Nat→Prop}{A B C:World}(h:agG X A B)(k:agG X B C):agG X A C:=
 ⟨aa7 h.size k.size,fun b o hx hb ho=>k.same b o hx (h.same b o hx hb ho) ho⟩
theorem agG.mono {X Y:Nat→Prop}{A B:World}(h:agG X A B)(hXY:∀b,X b→Y b):agG Y A B:=⟨h.size,fun b o hy=>h.same b o (fun hx=>hy (hXY b hx))⟩
theorem agG.drew {X:Nat→Prop}{A B:World}(h:agG X A B):agG X A B.drew:=⟨h.size,h.same⟩
theorem agG.alloc {X:Nat→Prop}{A B:World}(h:agG X A B)(o:Obj):agG X A (B.alloc o):=
 ⟨aa7 h.size (by simp),fun b o' hx hb ho=>by have:=h.same b o' hx hb ho;rw[ajZ _ _ _ (lt_of_block this)];exact this⟩
theorem agG.setCell {X:Nat→Prop}{A B:World}(h:agG X A B)(p:Addr)(v:Value)(hp:∀o,B.heap[p.block]? =some o→Obj.blC o=false):agG X A (B.setCell p v):=by
 refine⟨aa7 h.size (by simp[World.setCell]),fun b o hx hb ho=>?_⟩
 have h1:=h.same b o hx hb ho
 rw[Below.heap_setCell _ _ _ _ (fun e=>by subst e;have:=hp _ h1;rw[ho]at this;cases this)];exact h1
theorem agG.grown {X:Nat→Prop}{A B C:World}(h:agG X A B){row:Option Nat}(hg:B.grownBy C row)(hr:∀k,row=some k→∀o,B.heap[k]? =some o→Obj.blC o=false):agG X A C:=by
 refine⟨aa7 h.size hg.size,fun b o hx hb ho=>?_⟩
 have h1:=h.same b o hx hb ho
 rw[hg.block b (lt_of_block h1) (fun e=>by have:=hr b e.symm _ h1;rw[ho]at this;cases this)]
 exact h1
def Yields (l:Nat)(args:Array Value)(W:World)(R:Ending→World→Prop):Prop:=YieldAt Fence.wide 0 Tryz.prog l args W R
theorem aBQ {m:Nat}(m':Nat){l:Nat}{f:FuncId}{tmps:Array Value}{assign body:Code}{w:World}{R:Ending→World→Prop}
 (h:RoundIn Fence.wide m Tryz.prog l f tmps assign body w R):RoundIn Fence.wide m' Tryz.prog l f tmps assign body w R:=⟨trivial,fun c cs _=>h.2 c cs (room_wide _)⟩
theorem holdT {p:Prop}(h:Hid p):p:=h.out
inductive RV where
 |mk (kind num:Int)(con:ByteArray)(args:List RV)
def ahG (w:World)(A:Nat→Prop):Nat→RV→List Value→Prop
 |0,_,_=>False
 |d+1,.mk k m s args,cs=>∃p c,cs= [.int .i64 k,.int .i64 m,.string s,.slice p args.length c]∧args.length*56≤140737488355328∧
   ∀(j:Nat)(t:RV),args[j]? =some t→∃g o cs',p=some ⟨g,o,none⟩∧¬A g∧(∀(i:Nat)(v:Value),cs'[i]? =some v→w.cell? ⟨g,o+j*4+i,none⟩=some v)∧ahG w A d t cs'
def am5 (w:World)(A:Nat→Prop)(d:Nat)(v:Value)(ts:List RV):Prop:=∃p c,v= .slice p ts.length c∧ts.length*56≤140737488355328∧
 ∀(j:Nat)(t:RV),ts[j]? =some t→∃g o cs',p=some ⟨g,o,none⟩∧¬A g∧(∀(i:Nat)(v:Value),cs'[i]? =some v→w.cell? ⟨g,o+j*4+i,none⟩=some v)∧ahG w A d t cs'
theorem ahG.len {w:World}{A:Nat→Prop}{d:Nat}{t:RV}{cs:List Value}(h:ahG w A d t cs):cs.length=4:=by
 cases d with
 |zero=>exact h.elim
 |succ d=>
  obtain⟨k,m,s,args⟩:=t
  obtain⟨p,c,rfl,_⟩:=h
  rfl
theorem ahG.keep {w w':World}{A A':Nat→Prop}(hk:∀(g:Nat)(o:Obj),w.heap[g]? =some o→¬A g→w'.heap[g]? =some o∧¬A' g):∀{d:Nat}{t:RV}{cs:List Value},ahG w A d t cs→ahG w' A' d t cs
 |0,_,_,h=>h
 |d+1,.mk k m s args,cs,h=>by
  obtain⟨p,c,rfl,hl,h1⟩:=h
  refine⟨p,c,rfl,hl,fun j t hj=>?_⟩
  obtain⟨g,o,cs',rfl,hA,hc,ht⟩:=h1 j t hj
  have h4:=ht.len
  obtain⟨v0,hv0⟩ :∃v0,cs'[0]? =some v0:=⟨cs'[0]'(by omega),aaw _⟩
  have hg:=afA _ _ (hc 0 v0 hv0)
  obtain⟨h5,h6⟩:=hk g _ (acE hg) hA
  refine⟨g,o,cs',rfl,h6,fun i v hi=>?_,ahG.keep hk ht⟩
  rw[afI (w:=w) (a:=⟨g,o+j*4+i,none⟩) (by rw[h5,acE hg])]
  exact hc i v hi
theorem am5.keep {w w':World}{A A':Nat→Prop}(hk:∀(g:Nat)(o:Obj),w.heap[g]? =some o→¬A g→w'.heap[g]? =some o∧¬A' g){d:Nat}{v:Value}{ts:List RV}(h:am5 w A d v ts):am5 w' A' d v ts:=by
 obtain⟨p,c,rfl,hl,h1⟩:=h
 refine⟨p,c,rfl,hl,fun j t hj=>?_⟩
 obtain⟨g,o,cs',rfl,hA,hc,ht⟩:=h1 j t hj
 have h4:=ht.len
 obtain⟨v0,hv0⟩ :∃v0,cs'[0]? =some v0:=⟨cs'[0]'(by omega),aaw _⟩
 have hg:=afA _ _ (hc 0 v0 hv0)
 obtain⟨h5,h6⟩:=hk g _ (acE hg) hA
 refine⟨g,o,cs',rfl,h6,fun i v hi=>?_,ht.keep hk⟩
 rw[afI (w:=w) (a:=⟨g,o+j*4+i,none⟩) (by rw[h5,acE hg])]
 exact hc i v hi
theorem ahG.deeper {w:World}{A:Nat→Prop}:∀{d:Nat}{t:RV}{cs:List Value},ahG w A d t cs→ahG w A (d+1) t cs
 |0,_,_,h=>h.elim
 |d+1,.mk k m s args,cs,h=>by
  obtain⟨p,c,rfl,hl,h1⟩:=h
  refine⟨p,c,rfl,hl,fun j t hj=>?_⟩
  obtain⟨g,o,cs',rfl,hA,hc,ht⟩:=h1 j t hj
  exact⟨g,o,cs',rfl,hA,hc,ahG.deeper ht⟩
theorem ahG.le {w:World}{A:Nat→Prop}{t:RV}{cs:List Value}{d:Nat}(h:ahG w A d t cs):∀{e:Nat},d≤e→ahG w A e t cs:=by
 intro e he
 induction e with
 |zero=>
  obtain rfl:d=0:=by omega
  exact h
 |succ e ih=>
  by_cases h1:d=e+1
  ·rw[←h1];exact h
  ·exact(ih (by omega)).deeper
theorem agr {w w':World}{A:Nat→Prop}(hk:Keeps w w'):∀(g:Nat)(o:Obj),w.heap[g]? =some o→¬A g→w'.heap[g]? =some o∧¬A g:=fun _ _ h hA=>⟨hk.at h (fun x=>x),hA⟩
theorem ahG.four {w:World}{A:Nat→Prop}{d:Nat}{t:RV}{cs:List Value}(h:ahG w A d t cs):∃k m s p n c,cs= [.int .i64 k,.int .i64 m,.string s,.slice p n c]:=by
 cases d with
 |zero=>exact h.elim
 |succ d=>
  obtain⟨k,m,s,args⟩:=t
  obtain⟨p,c,rfl,_⟩:=h
  exact⟨_,_,_,_,_,_,rfl⟩
end
section
section
variable {P:Program}{ops:Array Oper}{Q:Exit→Act→World→Prop}{md:Region.Mode}{S:World→Prop}{q:Nat}
def azL (P:Program)(md:Region.Mode)(ops:Array Oper)(Q:Exit→Act→World→Prop)(S:World→Prop)(q:Nat):Nat→Array Bool→Act→World→Prop
 |0,listed,a,w=>Region.ready md ops listed= []∧Q .normal a w
 |fuel+1,listed,a,w=>
  (Region.ready md ops listed= []→Q .normal a w)∧
  ∀i∈Region.ready md ops listed,wpOp P ops Q i (fun a' w'=>(i<q→S w')∧azL P md ops Q S q fuel (listed.setIfInBounds i true) a' w') a w
theorem put_defers (a:Act)(d:Option Tmp)(v:Value):(a.put d v).defers=a.defers:=by cases d<;>rfl
theorem aO1:∀(fuel:Nat)(listed:Array Bool)(a:Act)(w:World),azL P md ops Q S q fuel listed a w→wpAny P md ops Q fuel listed a w
 |0,_,_,_,h=>h
 |fuel+1,_,_,_,h=>⟨h.1,fun i hi=>wpOp_mono (fun a' w' h'=>aO1 fuel _ a' w' h'.2) (h.2 i hi)⟩
theorem baf {i:Nat}{oi:Oper}{v:Value}(hi:ops[i]? =some oi)(hsel:∀(j:Nat)(o:Oper) cs b,ops[j]? =some o→o.op≠ .select cs b)
 (hQ:∀c a w,Q (.panic c) (a.put oi.dst v) w→Q (.panic c) a w)(hq:∀j oj,ops[j]? =some oj→q≤j→∃e∈oj.after,Region.binds md e=true∧e.on=i)(hiq:i<q):
 ∀(fuel:Nat)(listed:Array Bool)(a:Act)(w:World),
  (∀j oj,ops[j]? =some oj→j≠i→listed.getD j true=false→(∀e∈oj.after,Region.binds md e=true→e.on≠i)→oi.apart ops oj=true)→
  i∈Region.ready md ops listed→YieldsIf P ops S oi v a→S w→
  azL P md ops Q S q fuel (listed.setIfInBounds i true) (a.put oi.dst v) w→azL P md ops Q S q (fuel+1) listed a w:=by
 intro fuel
 induction fuel with
 |zero=>
  intro listed a w _ hr hy hS H
  refine⟨fun h=>(by rw[h]at hr;cases hr),fun j hj=>?_⟩
  by_cases hji:j=i
  ·subst hji;exact hy.wpOp hi hS ⟨fun _=>hS,H⟩
  ·have:=ready_mono hj hji
   rw[H.1]at this
   cases this
 |succ fuel ih=>
  intro listed a w hfree hr hy hS H
  refine⟨fun h=>(by rw[h]at hr;cases hr),fun j hj=>?_⟩
  by_cases hji:j=i
  ·subst hji;exact hy.wpOp hi hS ⟨fun _=>hS,H⟩
  ·have h1:=H.2 j (ready_mono hj hji)
   obtain⟨hjun,oj,hoj,hall⟩:=mem_ready.1 hj
   have hnot:∀e∈oj.after,Region.binds md e=true→e.on≠i:=fun e he hb heq=>by
    have h1:=hall e he hb
    have h0:=(mem_ready.1 hr).1
    rw[heq]at h1
    rcases Nat.lt_or_ge i listed.size with h'|h'
    ·simp[h']at h0 h1;rw[h0]at h1;cases h1
    ·simp[Array.getElem?_eq_none h']at h1
   have hjq:j<q:=by
    rcases Nat.lt_or_ge j q with h|h
    ·exact h
    ·obtain⟨e,he,hb,hon⟩:=hq j oj hoj h
     exact absurd hon (hnot e he hb)
   have h2:=wpOp_putIf hoj (hfree j oj hoj hji hjun hnot) (fun cs b=>hsel i oi cs b hi) (fun cs b=>hsel j oj cs b hoj) hQ hy h1
   have hfree':∀k ok,ops[k]? =some ok→k≠i→(listed.setIfInBounds j true).getD k true=false→
    (∀e∈ok.after,Region.binds md e=true→e.on≠i)→oi.apart ops ok=true:=fun k ok hk hki hun hno=>by
    refine hfree k ok hk hki ?_ hno
    by_cases hjk:j=k
    ·subst hjk;exact hjun
    ·rw[getD_set_ne true hjk]at hun;exact hun
   refine wpOp_mono (fun a' w' h3=>⟨h3.2.1,ih (listed.setIfInBounds j true) a' w' hfree' (ready_mono hr (ahU hji)) h3.1 (h3.2.1 hjq) ?_⟩) h2
   rw[Array.setIfInBounds_comm _ _ hji]
   exact h3.2.2
theorem aO4:∀(l:List Oper)(k:Nat)(listed:Array Bool)(a:Act)(w:World),q≤k→(∀j,l[j]? =ops[k+j]?)→
 Region.seqB md ops l.length k listed=true→wpList P ops Q l a w→azL P md ops Q S q l.length listed a w
 | [],_,_,_,_,_,_,hB,h=>⟨by simpa[Region.seqB]using hB,h⟩
 |o::l,k,listed,a,w,hq,hl,hB,h=>by
  have h0:ops[k]? =some o:=by simpa using(hl 0).symm
  simp only[abJ,Region.seqB,aa6,decide_eq_true_eq]at hB
  refine⟨fun h1=>(by rw[hB.1]at h1;cases h1),fun i hi=>?_⟩
  rw[hB.1]at hi
  have hik:i=k:=by simpa using hi
  subst hik
  have hw:wpOp P ops Q i (wpList P ops Q l) a w:=by unfold wpOp;simp only[h0];exact h
  exact wpOp_mono (fun a' w' h'=>⟨fun h=>absurd h (Nat.not_lt.2 hq),aO4 l (i+1) _ a' w' (by omega) (fun j=>by have:=hl (j+1);simpa[agI,Nat.add_comm 1 j]using this) hB.2 h'⟩) hw
def alK (P:Program)(ops:Array Oper)(S:World→Prop)(L:Act→Prop):List Oper→Act→Prop
 | [],a=>L a
 |o::l,a=>∃v,YieldsIf P ops S o v a∧alK P ops S L l (a.put o.dst v)
def aYF (md:Region.Mode)(ops:Array Oper)(n g:Nat):Nat→Nat→Array Bool→Bool
 |0,k,listed=>decide (Region.ready md ops listed= [k])&&decide (Region.ready md ops (listed.setIfInBounds k true)= [k+1])&&Region.seqB md ops g (k+2) ((listed.setIfInBounds k true).setIfInBounds (k+1) true)
 |f+1,k,listed=>(Region.ready md ops listed).contains k&&Region.free md ops listed k&&((List.range ops.size).all fun j=>decide (j≤n+1)||Region.waitsFor md ops j k)&&aYF md ops n g f (k+1) (listed.setIfInBounds k true)
theorem bd5 {n g:Nat}(hsel:Region.noSelect ops=true){tl:List Oper}(htl:∀j,tl[j]? =ops[n+2+j]?)(hg:tl.length=g):
 ∀(l:List Oper)(k:Nat)(listed:Array Bool)(a:Act)(w:World),(∀j,j<l.length→l[j]? =ops[k+j]?)→k+l.length=n→(∀c (a a':Act) w,a'.defers=a.defers→Q (.panic c) a' w→Q (.panic c) a w)→
 aYF md ops n g l.length k listed=true→S w→alK P ops S (fun a'=>wpOp P ops Q n (fun a2 w2=>S w2∧wpOp P ops Q (n+1) (fun a3 w3=>S w3∧wpList P ops Q tl a3 w3) a2 w2) a' w) l a→azL P md ops Q S (n+2) (l.length+(g+2)) listed a w
 | [],k,listed,a,w,_,hk,hQ,hB,hS,h=>by
   have hkn:k=n:=by simpa using hk
   subst hkn
   simp only[aeM,aYF,aa6,decide_eq_true_eq]at hB
   rw[aeM,adI]
   refine⟨fun h1=>(by rw[hB.1.1]at h1;cases h1),fun i hi=>?_⟩
   rw[hB.1.1]at hi
   have hik:i=k:=by simpa using hi
   subst hik
   have h9:wpOp P ops Q i (fun a2 w2=>S w2∧wpOp P ops Q (i+1) (fun a3 w3=>S w3∧wpList P ops Q tl a3 w3) a2 w2) a w:=h
   refine wpOp_mono (fun a' w' h'=>⟨fun _=>h'.1,?_⟩) h9
   refine⟨fun h1=>(by rw[hB.1.2]at h1;cases h1),fun j hj=>?_⟩
   rw[hB.1.2]at hj
   have hji:j=i+1:=by simpa using hj
   subst hji
   refine wpOp_mono (fun a2 w2 h2=>⟨fun _=>h2.1,?_⟩) h'.2
   have:=aO4 (S:=S) (q:=i+2) tl (i+2) _ a2 w2 (aai _) htl (by rw[hg];exact hB.2) h2.2
   rw[hg]at this
   exact this
 |o::l,k,listed,a,w,hl,hk,hQ,hB,hS,h=>by
  have h0:ops[k]? =some o:=by simpa using(hl 0 (by simp)).symm
  simp only[abJ,aYF,aa6]at hB
  obtain⟨⟨⟨hr,hf⟩,hw⟩,hB'⟩:=hB
  obtain⟨v,hy,hK⟩:=h
  rw[abJ,show l.length+1+(g+2)=(l.length+(g+2))+1 by omega]
  refine baf (q:=n+2) h0 (Region.noSelect_spec hsel) (fun c a w h=>hQ c a _ w (put_defers a _ _) h) (fun j oj hj hjq=>?_) (by simp only[abJ]at hk;omega) _ listed a w (Region.free_spec h0 hf) (by simpa using hr) hy hS
   (bd5 hsel htl hg l (k+1) _ _ w (fun j hj=>by have:=hl (j+1) (by simp;omega);simpa[agI,Nat.add_comm 1 j]using this) (by simp only[abJ]at hk;omega) hQ hB' hS hK)
  have h1:=acg.1 hw j (afO.2 (acK.1 hj).1)
  simp only[afU,decide_eq_true_eq]at h1
  rcases h1 with h1|h1
  ·omega
  ·obtain⟨o',ho',e,he,hb,hon⟩:=Region.waitsFor_spec h1
   have:o'=oj:=agh (ho'.symm.trans hj)
   subst this
   exact⟨e,he,hb,hon⟩
theorem atW {i:Nat}{o:Oper}{K:Act→World→Prop}{a:Act}{w:World}(hi:ops[i]? =some o)(hg:o.guard=none)(h:o.wp P a w K Q):wpOp P ops Q i K a w:=by
 have hw:Region.wanted o (yielded ops a.tmps)=true:=by simp[Region.wanted,hg]
 unfold wpOp
 simp only[hi]
 rw[if_pos hw]
 exact .inl h
theorem aop {id:Nat}{a:Act}{w:World}{l:List Oper}(n:Nat)(S:World→Prop)(hm:P.follows .mixedOrders=true)(hB:(Region.noSelect l.toArray&&decide (n+1<l.length)&&aYF .any l.toArray n (l.length - n - 2) n 0 (Array.replicate l.length false))=true)
 (hQ:∀c (a a':Act) w,a'.defers=a.defers→Q (.panic c) a' w→Q (.panic c) a w)(hS:S w.drew)
 (h:alK P l.toArray S (fun a'=>wpOp P l.toArray Q n (fun a2 w2=>S w2∧wpOp P l.toArray Q (n+1) (fun a3 w3=>S w3∧wpList P l.toArray Q (l.drop (n+2)) a3 w3) a2 w2) a' w.drew) (l.take n) a):(Code.region id l.toArray true).wp P Q a w:=by
 simp only[aa6,decide_eq_true_eq]at hB
 obtain⟨⟨hsel,hn⟩,hlex⟩:=hB
 have htl:(l.take n).length=n:=by simp;omega
 have H:=bd5 (md:= .any) (S:=S) (Q:=Q) (P:=P) (n:=n) (g:=l.length - n - 2) hsel (tl:=l.drop (n+2)) (fun j=>by simp[List.getElem?_drop]) (by simp;omega) (l.take n) 0 (Array.replicate l.length false) a w.drew
  (fun j hj=>by
    have hj':j<n:=by rw[htl]at hj;exact hj
    simp[hj']) (by simpa using htl) hQ (by rw[htl];exact hlex) hS h
 rw[htl,show n+(l.length - n - 2+2)=l.length by omega]at H
 refine wp_region_any hm ?_
 have h2:=aO1 _ _ _ _ H
 simpa using h2
theorem aYJ {o:Oper}{K:Act→World→Prop}{a:Act}{r:Result Next}(h:o.upon P a (wpList P ops (Exit.then K Q) []) (Exit.then K Q) r):o.upon P a K Q r:=by
 revert h
 unfold Oper.upon
 split<;>exact id
theorem arv {i:Nat}{o:Oper}{K:Act→World→Prop}{a:Act}{w:World}(hi:ops[i]? =some o)(h:wpList P ops (Exit.then K Q) [o] a w):wpOp P ops Q i K a w:=by
 unfold wpOp
 simp only[hi]
 simp only[wpList]at h
 split
 ·rename_i hw
  rw[if_pos hw]at h
  exact h.imp (aYJ (ops:=ops)) id
 ·rename_i hw
  rw[if_neg hw]at h
  exact h
theorem asC {id:Nat}{a:Act}{w:World}{l:List Oper}(n:Nat)(S:World→Prop)(o1 o2:Oper)(hm:P.follows .mixedOrders=true)(hB:(Region.noSelect l.toArray&&decide (n+1<l.length)&&aYF .any l.toArray n (l.length - n - 2) n 0 (Array.replicate l.length false))=true)
 (hQ:∀c (a a':Act) w,a'.defers=a.defers→Q (.panic c) a' w→Q (.panic c) a w)(hS:S w.drew)(h1:l[n]? =some o1)(h2:l[n+1]? =some o2)
 (h:alK P l.toArray S (fun a'=>wpList P l.toArray (Exit.then (fun a2 w2=>S w2∧wpList P l.toArray (Exit.then (fun a3 w3=>S w3∧wpList P l.toArray Q (l.drop (n+2)) a3 w3) Q) [o2] a2 w2) Q) [o1] a' w.drew) (l.take n) a):(Code.region id l.toArray true).wp P Q a w:=by
 refine aop n S hm hB hQ hS ?_
 have hmono:∀{L L':Act→Prop},(∀a,L a→L' a)→∀(m:List Oper)(a:Act),alK P l.toArray S L m a→alK P l.toArray S L' m a:=by
  intro L L' hL m
  induction m with
  |nil=>exact fun a h=>hL a h
  |cons o m ih=>exact fun a ⟨v,hy,hk⟩=>⟨v,hy,ih _ hk⟩
 refine hmono (fun a' ha=>?_) _ _ h
 exact wpOp_mono (fun a2 w2 hs=>⟨hs.1,arv (by simpa using h2) hs.2⟩) (arv (by simpa using h1) ha)
end
def nothing (k m:Int)(s:ByteArray)(n:Nat):Bool:=decide (k=0∧m=0∧s.toList= []∧n=0)
theorem aLO (k m:Int)(s:ByteArray)(a:Option Addr)(n c:Nat)(w:World):
 Calls Tryz.prog 144 #[.agg #[.int .i64 k,.int .i64 m,.string s,.slice a n c]] w fun e w'=>e= .returned (.bool (nothing k m s n))∧∃o,w'=w.alloc o:=by
 go_enter Tryz.func144,Tryz.ntmps144
 go_wp2
 all_goals go_ret
 all_goals refine⟨?_,_,rfl⟩
 all_goals simp[nothing, *]
 all_goals first|done|(by_cases h:n=0<;>simp[h])
theorem bas (k m:Int)(s:ByteArray)(a:Option Addr)(n c:Nat)(w:World):
 Calls Tryz.prog 146 #[.agg #[.int .i64 k,.int .i64 m,.string s,.slice a n c]] w fun e w'=>e= .returned (.bool (nothing k m s n))∧∃o,w'=w.alloc o:=by
 go_enter Tryz.func146,Tryz.ntmps146
 go_wp2
 all_goals go_ret
 all_goals refine⟨?_,_,rfl⟩
 all_goals simp[nothing, *]
 all_goals first|done|(by_cases h:n=0<;>simp[h])
structure Ev where
 kind:Int
 site:Int
 addr:Int
 args:Option Addr
 amB:Nat
 argc:Nat
 vk:Int
 vn:Int
 vs:ByteArray
 va:Option Addr
 van:Nat
 vac:Nat
def Ev.cells (e:Ev):List Value:=[.int .i64 e.kind,.int .i64 e.site,.int .i64 e.addr,.slice e.args e.amB e.argc,.int .i64 e.vk,.int .i64 e.vn,.string e.vs,.slice e.va e.van e.vac]
def Ev.zero (e:Ev):Bool:=nothing e.vk e.vn e.vs e.van
def Ev.form (e:Ev):Bool:=decide (0≤e.addr)&&(decide (e.addr<30000)&&
 (if e.kind=1 then e.zero else if e.kind=2 then decide (e.amB=0) else if e.kind=3 then decide (e.site=0)&&decide (e.amB=0) else false))
theorem aYL (e:Ev)(w:World):
 Calls Tryz.prog 90 #[.agg e.cells.toArray] w fun x w'=>x= .returned (.bool e.form)∧Keeps w w':=by
 obtain⟨kind,site,addr,args,amB,argc,vk,vn,vs,va,van,vac⟩:=e
 simp only[Ev.cells]
 have Hn:=aag (aLO vk vn vs va van vac)
 go_enter Tryz.func90,Tryz.ntmps90
 go_wp2_with (go_at_call 144;refine(Hn.out _).mono ?_;rintro e w' ⟨rfl,o,rfl⟩)
 all_goals go_ret
 all_goals refine⟨?_,by first|exact Keeps.alloc _ _|exact(Keeps.alloc _ _).trans (Keeps.alloc _ _)⟩
 all_goals simp_all[Ev.form,Ev.zero]
 all_goals first|done|(intros;exfalso;omega)|(rcases amB with _|n<;>simp<;>omega)
end
section
structure Sp where
 frm:Nat
 to:Nat
 outer:Option Nat
 addr:Int
 reads:List Nat
structure St where
 sps:List Sp
 top:Option Nat
 nodes:Nat
 within:List Nat
def St.step (s:St)(i:Nat)(e:Ev):Option St:=
 if e.form=false then none
 else if e.kind=1 then
  (if s.sps.any (fun p=>p.addr==e.addr) then none else some ⟨s.sps++ [⟨i,0,s.top,e.addr,[]⟩],some s.sps.length,s.nodes+1,s.within++ [s.sps.length]⟩)
 else match s.top with
  |none=>none
  |some k=>match s.sps[k]? with
   |none=>none
   |some p=>
    if e.kind=2 then some ⟨s.sps.set k {p with reads:=p.reads++ [i]},some k,s.nodes+1,s.within++ [k]⟩
    else if p.addr=e.addr then some ⟨s.sps.set k {p with to:=i},p.outer,s.nodes,s.within++ [k]⟩ else none
def St.run (s:St)(i:Nat):List Ev→Option St
 | []=>some s
 |e::l=>match s.step i e with
  |some s'=>s'.run (i+1) l
  |none=>none
def St.start:St:=⟨[],none,0,[]⟩
def aeR (l:List Ev):Option St:=match St.start.run 0 l with
 |some s=>if s.top=none∧s.nodes≤30000 then some s else none
 |none=>none
theorem St.akV (s:St)(i:Nat)(l l':List Ev):s.run i (l++l')=(s.run i l).bind fun s'=>s'.run (i+l.length) l':=by
 induction l generalizing s i with
 |nil=>rfl
 |cons e l ih=>
  simp only[acJ,St.run]
  cases h:s.step i e with
  |none=>rfl
  |some s'=>simp only[ih,abJ];rw[show i+1+l.length=i+(l.length+1) by omega]
theorem St.aiK (s s':St)(l:List Ev)(i:Nat)(e:Ev)(h:s.run 0 (l.take i)=some s')(he:l[i]? =some e):s.run 0 (l.take (i+1))=s'.step i e:=by
 have hi:=aaq.1 he
 obtain⟨hi,e1⟩:=hi
 rw[abS hi,St.akV,h,e1]
 simp only[ags,ahW,adI,amj (aey hi),St.run]
 cases s'.step i e<;>rfl
structure aLX (evs:List Ev)(i:Nat)(s:St):Prop where
 top:∀k,s.top=some k→k<s.sps.length
 outer:∀(k:Nat)(p:Sp)(j:Nat),s.sps[k]? =some p→p.outer=some j→j<k
 frm:∀(k:Nat)(p:Sp),s.sps[k]? =some p→p.frm<i∧∃e,evs[p.frm]? =some e∧e.addr=p.addr
 nd:(s.sps.map (·.addr)).Nodup
 bat:s.sps.length≤i
 nodes:s.nodes≤i
 win:s.within.length=i
 reads:∀(k:Nat)(p:Sp),s.sps[k]? =some p→p.reads.length≤i
theorem aLX.start (evs:List Ev):aLX evs 0 St.start:=
 ⟨fun k h=>by simp[St.start]at h,fun k p j h=>by simp[St.start]at h,fun k p h=>by simp[St.start]at h,List.nodup_nil,aai _,aai _,rfl,fun k p h=>by simp[St.start]at h⟩
theorem aiZ {α:Type}{l:List α}{k j:Nat}{p q r:α}(hp:l[k]? =some p)(h:(l.set k q)[j]? =some r):(j=k∧r=q)∨(j≠k∧l[j]? =some r):=by
 have hk:=(aaq.1 hp).1
 by_cases e:k=j
 ·subst e
  rw[adx hk]at h
  exact .inl ⟨rfl,(agh h).symm⟩
 ·rw[adB e]at h
  exact .inr ⟨fun x=>e x.symm,h⟩
theorem aiv {α β:Type}{l:List α}{k:Nat}{p q:α}(f:α→β)(hp:l[k]? =some p)(h:f q=f p):(l.set k q).map f=l.map f:=by
 apply ajr
 intro j
 rw[abl,abl]
 by_cases e:k=j
 ·subst e
  rw[adx (aaq.1 hp).1,hp]
  simp[h]
 ·rw[adB e]
theorem aLX.step {evs:List Ev}{i:Nat}{s s':St}{e:Ev}(h:aLX evs i s)(he:evs[i]? =some e)(hs:s.step i e=some s'):aLX evs (i+1) s':=by
 unfold St.step at hs
 split at hs
 ·cases hs
 split at hs
 ·split at hs
  ·cases hs
  rename_i hany
  injection hs with hs
  subst hs
  have key:∀(k:Nat)(p:Sp),(s.sps++ [⟨i,0,s.top,e.addr,[]⟩])[k]? =some p→s.sps[k]? =some p∨(k=s.sps.length∧p=⟨i,0,s.top,e.addr,[]⟩):=by
   intro k p hp
   rcases Nat.lt_trichotomy k s.sps.length with hk|hk|hk
   ·rw[aby hk]at hp;exact .inl hp
   ·subst hk;simp at hp;exact .inr ⟨rfl,hp.symm⟩
   ·rw[acN (by omega)]at hp
    rw[af6 (by simp;omega)]at hp;cases hp
  refine⟨fun k hk=>?_,fun k p j hp ho=>?_,fun k p hp=>?_,?_,?_,?_,?_,fun k p hp=>?_⟩
  ·injection hk with hk;subst hk;simp
  ·rcases key k p hp with hp|⟨rfl,rfl⟩
   ·exact h.outer k p j hp ho
   ·exact h.top j ho
  ·rcases key k p hp with hp|⟨rfl,rfl⟩
   ·obtain⟨h1,h2⟩:=h.frm k p hp;exact⟨by omega,h2⟩
   ·exact⟨by simp,e,he,rfl⟩
  ·rw[abH,afB]
   refine⟨h.nd,by simp,?_⟩
   intro a ha b hb hab
   simp only[acv,aiy,aaW]at hb
   subst hb;subst hab
   obtain⟨p,hp,hpa⟩:=aaZ.1 ha
   exact hany (ahY.2 ⟨p,hp,by simp[hpa]⟩)
  ·have:=h.bat;simp;omega
  ·have:=h.nodes;simp;omega
  ·simp[h.win]
  ·rcases key k p hp with hp|⟨rfl,rfl⟩
   ·have:=h.reads k p hp;omega
   ·simp
 ·split at hs
  ·cases hs
  rename_i k htop
  split at hs
  ·cases hs
  rename_i p hp
  have hk:=(aaq.1 hp).1
  split at hs
  ·injection hs with hs
   subst hs
   refine⟨fun j hj=>?_,fun j q o hq ho=>?_,fun j q hq=>?_,?_,?_,?_,?_,fun j q hq=>?_⟩
   ·injection hj with hj;subst hj;simpa using hk
   ·rcases aiZ hp hq with⟨rfl,rfl⟩|⟨hj,hq⟩
    ·exact h.outer _ p o hp ho
    ·exact h.outer j q o hq ho
   ·rcases aiZ hp hq with⟨rfl,rfl⟩|⟨hj,hq⟩
    ·obtain⟨h1,h2⟩:=h.frm _ p hp;exact⟨by simp;omega,h2⟩
    ·obtain⟨h1,h2⟩:=h.frm j q hq;exact⟨by omega,h2⟩
   ·have:=aiv (q:={p with reads:=p.reads++ [i]}) (·.addr) hp rfl
    rw[this];exact h.nd
   ·have:=h.bat;simp;omega
   ·have:=h.nodes;simp;omega
   ·simp[h.win]
   ·rcases aiZ hp hq with⟨rfl,rfl⟩|⟨hj,hq⟩
    ·have:=h.reads _ p hp;simp;omega
    ·have:=h.reads j q hq;omega
  ·split at hs
   ·injection hs with hs
    subst hs
    refine⟨fun j hj=>?_,fun j q o hq ho=>?_,fun j q hq=>?_,?_,?_,?_,?_,fun j q hq=>?_⟩
    ·have:=h.outer _ p j hp hj;simp;omega
    ·rcases aiZ hp hq with⟨rfl,rfl⟩|⟨hj,hq⟩
     ·exact h.outer _ p o hp ho
     ·exact h.outer j q o hq ho
    ·rcases aiZ hp hq with⟨rfl,rfl⟩|⟨hj,hq⟩
     ·obtain⟨h1,h2⟩:=h.frm _ p hp;exact⟨by simp;omega,h2⟩
     ·obtain⟨h1,h2⟩:=h.frm j q hq;exact⟨by omega,h2⟩
    ·have:=aiv (q:={p with to:=i}) (·.addr) hp rfl
     rw[this];exact h.nd
    ·have:=h.bat;simp;omega
    ·have:=h.nodes;simp;omega
    ·simp[h.win]
    ·rcases aiZ hp hq with⟨rfl,rfl⟩|⟨hj,hq⟩
     ·have:=h.reads _ p hp;simp;omega
     ·have:=h.reads j q hq;omega
   ·cases hs
end
section
structure Rt where
 made:List Int
 opn:List Int
 n:Nat
def Rt.step (r:Rt)(e:Ev):Option Rt:=
 if e.addr<0∨30000≤e.addr then none
 else if e.kind=1 then (if r.made.contains e.addr∨e.zero=false then none else some ⟨e.addr::r.made,e.addr::r.opn,r.n+1⟩)
 else if e.kind=2 then (if r.opn= []∨0<e.amB then none else some {r with n:=r.n+1})
 else if e.kind=3 then (match r.opn with
  | []=>none
  |a::l=>if a≠e.addr∨e.site≠0∨0<e.amB then none else some {r with opn:=l})
 else none
def Rt.run (r:Rt):List Ev→Option Rt
 | []=>some r
 |e::l=>match r.step e with
  |some r'=>r'.run l
  |none=>none
def Rt.start:Rt:=⟨[],[],0⟩
def amZ (l:List Ev):Bool:=match Rt.start.run l with
 |some r=>decide (r.opn= []∧r.n≤30000)
 |none=>false
theorem Rt.akV (r:Rt)(l l':List Ev):r.run (l++l')=(r.run l).bind fun r'=>r'.run l':=by
 induction l generalizing r with
 |nil=>rfl
 |cons e l ih=>
  simp only[acJ,Rt.run]
  cases h:r.step e with
  |none=>rfl
  |some r'=>simp only[ih]
theorem Rt.aiK (r r':Rt)(l:List Ev)(i:Nat)(e:Ev)(h:r.run (l.take i)=some r')(he:l[i]? =some e):r.run (l.take (i+1))=r'.step e:=by
 obtain⟨hi,e1⟩:=aaq.1 he
 rw[abS hi,Rt.akV,h,e1]
 simp only[ags,Rt.run]
 cases r'.step e<;>rfl
inductive Chain (sps:List Sp):Option Nat→List Int→Prop
 |nil:Chain sps none []
 |cons {k:Nat}{p:Sp}{l:List Int}(h:sps[k]? =some p)(t:Chain sps p.outer l):Chain sps (some k) (p.addr::l)
theorem Chain.mono {sps a2f:List Sp}(hs:∀(k:Nat)(p:Sp),sps[k]? =some p→∃p',a2f[k]? =some p'∧p'.addr=p.addr∧p'.outer=p.outer):∀{o:Option Nat}{l:List Int},Chain sps o l→Chain a2f o l
 |_,_,.nil=> .nil
 |_,_,.cons h t=>by
  obtain⟨p',h1,h2,h3⟩:=hs _ _ h
  have:=Chain.cons h1 (by rw[h3];exact t.mono hs)
  rw[h2]at this
  exact this
theorem Chain.set {sps:List Sp}{k:Nat}{p q:Sp}(hp:sps[k]? =some p)(ha:q.addr=p.addr)(ho:q.outer=p.outer){o:Option Nat}{l:List Int}(h:Chain sps o l):Chain (sps.set k q) o l:=by
 refine h.mono fun j r hr=>?_
 by_cases e:k=j
 ·subst e
  rw[hp]at hr;injection hr with hr;subst hr
  exact⟨q,adx (aaq.1 hp).1,ha,ho⟩
 ·exact⟨r,by rw[adB e];exact hr,rfl,rfl⟩
structure Agree (s:St)(r:Rt):Prop where
 made:∀a,a∈r.made↔∃p∈s.sps,p.addr=a
 opn:Chain s.sps s.top r.opn
 n:s.nodes=r.n
theorem anC {sps:List Sp}{k:Nat}{p q:Sp}(hp:sps[k]? =some p)(ha:q.addr=p.addr)(a:Int):(∃p∈sps.set k q,p.addr=a)↔∃p∈sps,p.addr=a:=by
 have h:=aiv (·.addr) hp ha
 have h1:∀l:List Sp,(∃p∈l,p.addr=a)↔a∈l.map (·.addr):=fun l=>by rw[aaZ]
 rw[h1,h1,h]
theorem aTm {s:St}{r:Rt}(h:Agree s r)(i:Nat)(e:Ev):match s.step i e,r.step e with
 |some s',some r'=>Agree s' r'
 |none,none=>True
 |_,_=>False:=by
 unfold St.step Rt.step Ev.form
 by_cases ha:e.addr<0∨30000≤e.addr
 ·rw[if_pos ha,if_pos]
  ·trivial
  ·rcases ha with ha|ha
   ·simp[show ¬0≤e.addr by omega]
   ·simp[show ¬e.addr<30000 by omega]
 rw[if_neg ha]
 have h0:0≤e.addr:=by omega
 have h1:e.addr<30000:=by omega
 simp only[h0,h1,decide_true,Bool.true_and]
 by_cases k1:e.kind=1
 ·simp only[k1,if_pos]
  have hm:s.sps.any (fun p=>p.addr==e.addr)=r.made.contains e.addr:=by
   rw[ace,ahY,List.contains_iff_mem,h.made]
   constructor
   ·rintro⟨p,hp,hpe⟩;exact⟨p,hp,by simpa using hpe⟩
   ·rintro⟨p,hp,hpe⟩;exact⟨p,hp,by simpa using hpe⟩
  cases hz:e.zero with
  |false=>simp
  |true=>
   rw[hm]
   cases hc:r.made.contains e.addr with
   |true=>simp
   |false=>
    simp only[Bool.true_eq_false,if_false,acf,or_self]
    refine⟨fun a=>?_,?_,by simp[h.n]⟩
    ·rw[abb,h.made]
     constructor
     ·rintro(rfl|⟨p,hp,he⟩)
      ·exact⟨_,List.mem_append_right _ (aaW.2 rfl),rfl⟩
      ·exact⟨p,List.mem_append_left _ hp,he⟩
     ·rintro⟨p,hp,he⟩
      rcases aaG.1 hp with hp|hp
      ·exact .inr ⟨p,hp,he⟩
      ·rw[aaW]at hp;subst hp;exact .inl he.symm
    ·have hk:(s.sps++ [⟨i,0,s.top,e.addr,[]⟩])[s.sps.length]? =some (Sp.mk i 0 s.top e.addr []):=by simp
     refine Chain.cons hk (h.opn.mono fun k p hp=>⟨p,?_,rfl,rfl⟩)
     rw[aby (aaq.1 hp).1]
     exact hp
 simp only[k1,if_false]
 have h2:=h.opn
 by_cases k2:e.kind=2
 ·simp only[k2,if_true]
  by_cases hn:e.amB=0
  ·simp only[hn,decide_true,Bool.true_eq_false,if_false]
   generalize hr:r.opn=q at h2
   generalize ht:s.top=o at h2
   cases h2 with
   |nil=>simp
   | @cons k p l hp t=>
     have hc:=h.opn.set (q:={p with reads:=p.reads++ [i]}) hp rfl rfl
     simp only[hp,List.cons_ne_nil,af9,or_self,if_false]
     rw[hr,ht]at hc
     exact⟨fun a=>(h.made a).trans (anC (q:={p with reads:=p.reads++ [i]}) hp rfl a).symm,hc,by simp[h.n]⟩
  ·have:0<e.amB:=by omega
   simp[hn,this]
 ·simp only[k2,if_false]
  by_cases k3:e.kind=3
  ·simp only[k3,if_true]
   by_cases hn:e.site=0∧e.amB=0
   ·obtain⟨hs,hn⟩:=hn
    simp only[hs,hn,decide_true,Bool.and_self,Bool.true_eq_false,if_false]
    generalize hr:r.opn=q at h2
    generalize ht:s.top=o at h2
    cases h2 with
    |nil=>simp
    | @cons k p l hp t=>
      have hc:=t.set (q:={p with to:=i}) hp rfl rfl
      by_cases hpa:p.addr=e.addr
      ·simp only[hp,hpa,if_true,af9,ne_eq,not_true_eq_false,or_self,if_false]
       rw[←hpa]
       exact⟨fun a=>(h.made a).trans (anC (q:={p with to:=i}) hp rfl a).symm,hc,by simp[h.n]⟩
      ·simp[hp,hpa]
   ·have hb:(decide (e.site=0)&&decide (e.amB=0))=false:=by
     simp;intro h;omega
    rw[hb,if_pos rfl]
    cases hr:r.opn with
    |nil=>simp
    |cons a l=>
     have:a≠e.addr∨e.site≠0∨0<e.amB:=by omega
     simp only[if_pos this]
  ·simp[k3]
theorem aYO {s:St}{r:Rt}(h:Agree s r)(i:Nat)(l:List Ev):match s.run i l,r.run l with
 |some s',some r'=>Agree s' r'
 |none,none=>True
 |_,_=>False:=by
 induction l generalizing s r i with
 |nil=>exact h
 |cons e l ih=>
  have h1:=aTm h i e
  unfold St.run Rt.run
  cases hs:s.step i e with
  |none=>
   cases hr:r.step e with
   |none=>trivial
   |some r'=>rw[hs,hr]at h1;exact h1.elim
  |some s'=>
   cases hr:r.step e with
   |none=>rw[hs,hr]at h1;exact h1.elim
   |some r'=>rw[hs,hr]at h1;exact ih h1 (i+1)
theorem agree_start:Agree St.start Rt.start:=⟨fun a=>by simp[Rt.start,St.start],.nil,rfl⟩
theorem aE1 (l:List Ev):amZ l=(aeR l).isSome:=by
 have h:=aYO agree_start 0 l
 unfold amZ aeR
 cases hs:St.start.run 0 l with
 |none=>
  cases hr:Rt.start.run l with
  |none=>rfl
  |some r=>rw[hs,hr]at h;exact h.elim
 |some s=>
  cases hr:Rt.start.run l with
  |none=>rw[hs,hr]at h;exact h.elim
  |some r=>
   rw[hs,hr]at h
   have ho:=h.opn
   have:(s.top=none)↔r.opn= []:=by
    generalize r.opn=q at ho
    generalize s.top=o at ho
    cases ho<;>simp
   simp only[this,h.n]
   by_cases hc:r.opn= []∧r.n≤30000<;>simp[hc]
structure Spn where
 frm:Nat
 to:Nat
 is:Bool
def Spn.step (a:Int)(s:Spn)(i:Nat)(e:Ev):Spn:=
 if e.addr=a then (if e.kind=1 then ⟨i,s.to,true⟩ else if e.kind=3 then ⟨s.frm,i,s.is⟩ else s) else s
def Spn.run (a:Int)(s:Spn)(i:Nat):List Ev→Spn
 | []=>s
 |e::l=>(s.step a i e).run a (i+1) l
def blD (a:Int)(l:List Ev):Spn:=(Spn.mk 0 0 false).run a 0 l
theorem Spn.akV (a:Int)(s:Spn)(i:Nat)(l l':List Ev):s.run a i (l++l')=(s.run a i l).run a (i+l.length) l':=by
 induction l generalizing s i with
 |nil=>rfl
 |cons e l ih=>simp only[acJ,Spn.run,ih,abJ];rw[show i+1+l.length=i+(l.length+1) by omega]
theorem Spn.aiK (a:Int)(s:Spn)(l:List Ev)(i:Nat)(e:Ev)(he:l[i]? =some e):s.run a 0 (l.take (i+1))=(s.run a 0 (l.take i)).step a i e:=by
 obtain⟨hi,e1⟩:=aaq.1 he
 rw[abS hi,Spn.akV,e1]
 simp only[ahW,adI,amj (aey hi),Spn.run]
def aEL (a:Int)(sps:List Sp)(x:Spn):Prop:=
 (∀p∈sps,p.addr=a→x=⟨p.frm,p.to,true⟩)∧((∀p∈sps,p.addr≠a)→x=⟨0,0,false⟩)
theorem aYQ {a:Int}{s s':St}{x:Spn}{i:Nat}{e:Ev}(hnd:(s.sps.map (·.addr)).Nodup)(h:aEL a s.sps x)(hs:s.step i e=some s'):aEL a s'.sps (x.step a i e):=by
 unfold St.step at hs
 unfold Spn.step
 split at hs
 ·cases hs
 rename_i hform
 have a2k:∀(j k:Nat)(p q:Sp),s.sps[j]? =some p→s.sps[k]? =some q→p.addr=q.addr→j=k:=by
  intro j k p q hp hq hpq
  have e1:(s.sps.map (·.addr))[j]? =some p.addr:=by rw[abl,hp];rfl
  have e2:(s.sps.map (·.addr))[k]? =some p.addr:=by rw[abl,hq,hpq];rfl
  exact(afC (aaq.1 e1).1 hnd).1 (e1.trans e2.symm)
 split at hs
 ·rename_i k1
  split at hs
  ·cases hs
  rename_i hany
  injection hs with hs
  subst hs
  simp only[k1,if_true]
  by_cases hea:e.addr=a
  ·simp only[hea,if_true]
   have hno:∀p∈s.sps,p.addr≠a:=fun p hp hpa=>hany (ahY.2 ⟨p,hp,by simp[hpa,hea]⟩)
   have hx:=h.2 hno
   refine⟨fun p hp hpa=>?_,fun hall=>?_⟩
   ·rcases aaG.1 hp with hp|hp
    ·exact absurd hpa (hno p hp)
    ·rw[aaW]at hp;subst hp;simp[hx]
   ·exact absurd rfl (hall _ (List.mem_append_right _ (aaW.2 rfl)))
  ·simp only[hea,if_false]
   refine⟨fun p hp hpa=>?_,fun hall=>h.2 fun p hp=>hall p (List.mem_append_left _ hp)⟩
   rcases aaG.1 hp with hp|hp
   ·exact h.1 p hp hpa
   ·rw[aaW]at hp;subst hp;exact absurd hpa hea
 ·rename_i k1
  split at hs
  ·cases hs
  rename_i k htop
  split at hs
  ·cases hs
  rename_i p hp
  split at hs
  ·rename_i k2
   injection hs with hs
   subst hs
   have hxs:(if e.addr=a then (if e.kind=1 then (⟨i,x.to,true⟩ :Spn) else if e.kind=3 then ⟨x.frm,i,x.is⟩ else x) else x)=x:=by
    simp[k2]
   rw[hxs]
   refine⟨fun q hq hqa=>?_,fun hall=>h.2 fun q hq hqa=>?_⟩
   ·obtain⟨j,hj⟩:=abM.1 hq
    rcases aiZ hp hj with⟨rfl,rfl⟩|⟨_,hj⟩
    ·exact h.1 p (aaH hp) hqa
    ·exact h.1 q (aaH hj) hqa
   ·obtain⟨r,hr,hra⟩:=(anC (q:={p with reads:=p.reads++ [i]}) hp rfl a).2 ⟨q,hq,hqa⟩
    exact hall r hr hra
  ·rename_i k2
   split at hs
   ·rename_i hpa
    injection hs with hs
    subst hs
    have k3:e.kind=3:=by
     unfold Ev.form at hform
     apply Classical.byContradiction
     intro k3
     simp[k1,k2,k3]at hform
    simp only[k3,show(3:Int)=1↔False by decide,if_false,if_true]
    have hmem:=aaH hp
    by_cases hea:e.addr=a
    ·simp only[hea,if_true]
     have hx:=h.1 p hmem (hpa.trans hea)
     refine⟨fun q hq hqa=>?_,fun hall=>?_⟩
     ·obtain⟨j,hj⟩:=abM.1 hq
      rcases aiZ hp hj with⟨rfl,rfl⟩|⟨hjk,hj⟩
      ·simp[hx]
      ·exact absurd (a2k j k q p hj hp (hqa.trans (hpa.trans hea).symm)) hjk
     ·have:=(anC (q:={p with to:=i}) hp rfl a).2 ⟨p,hmem,hpa.trans hea⟩
      obtain⟨r,hr,hra⟩:=this
      exact absurd hra (hall r hr)
    ·simp only[hea,if_false]
     refine⟨fun q hq hqa=>?_,fun hall=>h.2 fun q hq hqa=>?_⟩
     ·obtain⟨j,hj⟩:=abM.1 hq
      rcases aiZ hp hj with⟨rfl,rfl⟩|⟨_,hj⟩
      ·exact absurd (hpa.symm.trans hqa) hea
      ·exact h.1 q (aaH hj) hqa
     ·obtain⟨r,hr,hra⟩:=(anC (q:={p with to:=i}) hp rfl a).2 ⟨q,hq,hqa⟩
      exact hall r hr hra
   ·cases hs
theorem avV {evs:List Ev}(i:Nat)(hi:i≤evs.length){s:St}(h:St.start.run 0 (evs.take i)=some s):aLX evs i s∧∀a,aEL a s.sps ((Spn.mk 0 0 false).run a 0 (evs.take i)):=by
 induction i generalizing s with
 |zero=>
  simp only[agN,St.run]at h
  injection h with h
  subst h
  exact⟨.start evs,fun a=>⟨fun p hp=>(aei hp).elim,fun _=>rfl⟩⟩
 |succ i ih=>
  have hl:i<evs.length:=hi
  have he:=aaw hl
  have h1:∃s0,St.start.run 0 (evs.take i)=some s0:=by
   rw[abS hl,St.akV]at h
   cases hr:St.start.run 0 (evs.take i)with
   |none=>rw[hr]at h;cases h
   |some s0=>exact⟨s0,rfl⟩
  obtain⟨s0,h1⟩:=h1
  obtain⟨ok,sp⟩:=ih (aey hl) h1
  have hstep:=(St.aiK _ _ _ _ _ h1 he).symm.trans h
  exact⟨ok.step he hstep,fun a=>by rw[Spn.aiK a _ _ _ _ he];exact aYQ ok.nd (sp a) hstep⟩
theorem aYY {l:List Ev}{s:St}(h:aeR l=some s)(a:Int):aEL a s.sps (blD a l)∧aLX l l.length s:=by
 unfold aeR at h
 cases hr:St.start.run 0 l with
 |none=>rw[hr]at h;cases h
 |some s'=>
  rw[hr]at h
  simp only at h
  split at h
  ·injection h with h
   subst h
   have:=avV (evs:=l) l.length (aai _) (s:=s') (by rw[ab1];exact hr)
   rw[ab1]at this
   exact⟨this.2 a,this.1⟩
  ·cases h
def ints (l:List Int):List Value:=l.map fun i=> .int .i64 i
structure alD (w W:World)(B:Nat)(ov:Value)(r:Rt):Prop where
 kept:Keeps w W
 nB:w.heap.size≤B
 made:∃cur,W.heap[B]? =some (.cells cur 4 (0,0))∧cur.size=30000∧∀a:Nat,a<30000→cur[a]? =some (.bool (r.made.contains (a:Int)))
 opn:W.ownsRow w.heap.size 3 1 ov r.opn.length (ints r.opn.reverse)
section
variable {w W W':World}{B:Nat}{ov:Value}{r:Rt}
theorem alD.keeps (h:alD w W B ov r)(hk:Keeps W W'):alD w W' B ov r:=by
 obtain⟨cur,h1,h2,h3⟩:=h.made
 exact⟨Keeps.trans h.kept hk,h.nB,⟨cur,hk.at h1 (fun x=>x),h2,h3⟩,ac5 h.opn fun g hg=>hk.block g (h.opn.lt g hg).2 (fun x=>x)⟩
theorem alD.cell (h:alD w W B ov r){a:Int}(h0:0≤a)(h1:a<30000):W.cell? ⟨B,a.toNat,none⟩=some (.bool (r.made.contains a)):=by
 obtain⟨cur,k1,k2,k3⟩:=h.made
 rw[cell_of_block k1,k3 a.toNat (by omega),Int.toNat_of_nonneg h0]
theorem alD.free (h:alD w W B ov r)(o:Nat):W.frozen? ⟨B,o,none⟩=false:=by
 obtain⟨cur,k1,k2,k3⟩:=h.made
 exact abu k1 o
theorem alD.ne (h:alD w W B ov r){g:Nat}(hg:ov.ownBlock=some g):g≠B:=by
 obtain⟨cur,k1,k2,k3⟩:=h.made
 obtain⟨c,hc⟩:=row_block h.opn hg
 intro e
 rw[e,k1]at hc
 simp at hc
theorem alD.mark (h:alD w W B ov r){a:Int}(h0:0≤a)(h1:a<30000):alD w (W.setCell ⟨B,a.toNat,none⟩ (.bool true)) B ov {r with made:=a::r.made}:=by
 obtain⟨cur,k1,k2,k3⟩:=h.made
 have hk:Kept (fun b=>b=B) W (W.setCell ⟨B,a.toNat,none⟩ (.bool true)):=(Kept.refl (fun b=>b=B) W).setCell (p:=⟨B,a.toNat,none⟩) (fun _=>rfl) _
 refine⟨Kept.trans h.kept hk (fun x hx e=>by have:=h.nB;omega),h.nB,⟨_,abV k1 _,by simp[k2],?_⟩,ac5 h.opn fun g hg=>hk.block g (h.opn.lt g hg).2 (h.ne hg)⟩
 intro b hb
 rw[Array.getElem?_setIfInBounds]
 by_cases e:a.toNat=b
 ·rw[if_pos e,if_pos (by omega)]
  have:(b:Int)=a:=by omega
  simp[this]
 ·rw[if_neg e,k3 b hb]
  have:¬((b:Int)=a):=by omega
  simp[this]
theorem alD.push (h:alD w W B ov r){v:Value}{a:Int}(hk:Kept (fun b=>ov.ownBlock=some b) W W')(hr:W'.ownsRow w.heap.size 3 1 v (r.opn.length+1) (ints r.opn.reverse++ [.int .i64 a]))(n:Nat):alD w W' B v {r with opn:=a::r.opn,n:=n}:=by
 obtain⟨cur,k1,k2,k3⟩:=h.made
 refine⟨Kept.trans h.kept hk (fun x hx e=>by have:=(h.opn.lt x e).1;omega),h.nB,⟨cur,hk.at k1 (fun e=>h.ne e rfl),k2,k3⟩,?_⟩
 have e:ints (a::r.opn).reverse=ints r.opn.reverse++ [.int .i64 a]:=by simp[ints]
 show W'.ownsRow _ _ _ _ (a::r.opn).length (ints (a::r.opn).reverse)
 rw[e]
 exact hr
theorem alD.count (h:alD w W B ov r)(n:Nat):alD w W B ov {r with n:=n}:=⟨h.kept,h.nB,h.made,h.opn⟩
theorem alD.pop (h:alD w W B ov r){a:Int}{l:List Int}(ho:r.opn=a::l):∃g cap,ov= .slice (some ⟨g,0,none⟩) (l.length+1) cap∧l.length+1≤cap∧cap≤maxLen∧W.cell? ⟨g,l.length,none⟩=some (.int .i64 a)∧alD w W B (.slice (some ⟨g,0,none⟩) l.length cap) {r with opn:=l}:=by
 obtain⟨hlen,ho2⟩:=h.opn
 rw[ho]at hlen ho2
 rcases ho2 with⟨_,hn⟩|⟨g,cap,cur,hv,hb,hg,hnc,hcm,hcs,htake⟩
 ·simp at hn
 ·simp only[abJ,aj0]at hv hnc htake hcs
  have e:ints (a::l).reverse=ints l.reverse++ [.int .i64 a]:=by simp[ints]
  rw[e]at htake
  have hl:(ints l.reverse).length=l.length:=by simp[ints]
  refine⟨g,cap,hv,hnc,hcm,?_,⟨h.kept,h.nB,h.made,?_⟩⟩
  ·rw[cell_of_block hg]
   have:=congrArg (fun x=>x[l.length]?) htake
   rw[acN (by omega),aiV]at this
   simp[hl]at this
   simpa using this
  ·refine⟨by simp[ints],.inr ⟨g,cap,cur,rfl,hb,hg,Nat.le_of_succ_le hnc,hcm,by simp[hcs],?_⟩⟩
   have:=congrArg (List.take l.length) htake
   rw[List.take_take,amj (ab5 _),List.take_append_of_le_length (by omega),←hl,ab1]at this
   simp only[aj0]
   rw[←hl]
   exact this
theorem alD.empty (h:alD w W B ov r)(ho:r.opn= []):∃p c,ov= .slice p 0 c:=by
 rcases h.opn.2 with⟨h,_⟩|⟨g,cap,cur,hv,_⟩
 ·exact⟨_,_,h⟩
 ·rw[ho]at hv;exact⟨_,_,hv⟩
end
def avX (w:World)(M:Nat)(m:List (Int×Nat)):Prop:=
 ∃es cl,w.heap[M]? =some (.map es cl)∧es.toList.map (fun e=>(e.key,e.val))=m.map (fun p=>(Value.int .i64 p.1,Value.pointer (some ⟨p.2,0,none⟩)))
def amC (m:List (Int×Nat))(k:Int):Option Addr:=(m.find? fun p=>p.1==k).map fun p=>⟨p.2,0,none⟩
theorem kd3:Ex.KD Tryz.prog 3 0:=⟨.i64,Tryz.underlying3⟩
theorem a2q {w:World}{es:List MapEntry}{m:List (Int×Nat)}(h:es.map (fun e=>(e.key,e.val))=m.map (fun p=>(Value.int .i64 p.1,Value.pointer (some ⟨p.2,0,none⟩))))(k:Int):
 ∀e∈es,∃b,Ex.Cmp Tryz.prog w 3 0 (.int .i64 k) e.key b:=by
 intro e he
 have hm:(e.key,e.val)∈m.map (fun p=>(Value.int .i64 p.1,Value.pointer (some ⟨p.2,0,none⟩))):=h▸aaZ.2 ⟨e,he,rfl⟩
 obtain⟨p,_,hp⟩:=aaZ.1 hm
 injection hp with hp _
 refine⟨decide (k=p.1),⟨?_,fun _ d hd=>?_,fun h3=>by cases h3⟩⟩
 ·rw[←hp];simp
 ·rw[Tryz.underlying3]at hd
  injection hd with hd
  subst hd
  rw[←hp]
  simp[Instr.sameNow]
  rw[ace];simp
theorem aO6 {w:World}{es:List MapEntry}{m:List (Int×Nat)}(h:es.map (fun e=>(e.key,e.val))=m.map (fun p=>(Value.int .i64 p.1,Value.pointer (some ⟨p.2,0,none⟩))))(hd:(m.map (·.1)).Nodup)(k:Int):
 ∃r,(Instr.findKey 3 (.int .i64 k) es).run Tryz.prog w= .ok r w∧r.map (·.2)=(amC m k).map fun a=>Value.pointer (some a):=by
 obtain⟨r,h1,h2⟩:=Ex.akH (P:=Tryz.prog) (w:=w) kd3 es (a2q h k)
 refine⟨r,h1,?_⟩
 cases r with
 |none=>
  have:amC m k=none:=by
   unfold amC
   rw[agm.2]
   ·rfl
   ·intro p hp hk
    have hk':p.1=k:=by simpa using hk
    have hm:(Value.int .i64 p.1,Value.pointer (some ⟨p.2,0,none⟩))∈es.map (fun e=>(e.key,e.val)):=h▸aaZ.2 ⟨p,hp,rfl⟩
    obtain⟨e,he,hee⟩:=aaZ.1 hm
    injection hee with q1 q2
    exact h2 e he (by rw[q1,hk'])
  rw[this];rfl
 |some ju=>
  obtain⟨j,u⟩:=ju
  obtain⟨e,he,hk,hu⟩:=h2
  have hj:=congrArg (fun l=>l[j]?) h
  simp only[abl,he,adn]at hj
  cases hm:m[j]? with
  |none=>rw[hm]at hj;cases hj
  |some p=>
   rw[hm]at hj
   simp only[adn,aej,Prod.mk.injEq]at hj
   have hpk:p.1=k:=((Value.int.injEq _ _ _ _).mp (hk.symm.trans hj.1)).2.symm
   have hf:m.find? (fun p=>p.1==k)=some p:=by
    cases hf:m.find? (fun p=>p.1==k)with
    |none=>exact absurd (beq_iff_eq.2 hpk) (agm.1 hf p (aaH hm))
    |some q=>
     have hq:q.1=k:=by simpa using aml hf
     obtain⟨i,hi⟩:=abM.1 (ah3 hf)
     have e1:(m.map (·.1))[i]? =some k:=by rw[abl,hi];simp[hq]
     have e2:(m.map (·.1))[j]? =some k:=by rw[abl,hm];simp[hpk]
     have hlt:i<(m.map (·.1)).length:=(aaq.1 e1).1
     have:i=j:=(afC hlt hd).1 (e1.trans e2.symm)
     subst this
     rw[hi]at hm
     exact hm
   unfold amC
   rw[hf]
   simp only[adn]
   rw[←hu,hj.2]
theorem avX.look {w:World}{M:Nat}{m:List (Int×Nat)}(h:avX w M m)(hd:(m.map (·.1)).Nodup)(k:Int):
 (Instr.lookup 95 (.map (some M)) (.int .i64 k) false).run Tryz.prog w= .ok (.pointer (amC m k)) w:=by
 obtain⟨es,cl,h1,h2⟩:=h
 obtain⟨r,h3,h4⟩:=aO6 (w:=w) h2 hd k
 have hck:=Ex.ahL (P:=Tryz.prog) (w:=w) kd3 es.isEmpty (.int .i64 k)
 have hz:(zeroValue 94).run Tryz.prog w= .ok (.pointer none) w:=by kernel_rfl
 simp only[Instr.lookup,aa0,run_underlying Tryz.underlying95,aay,Ex.ahl h1,abA,hck,h3]
 cases r with
 |none=>
  cases hl:amC m k with
  |none=>simp[hz]
  |some a=>rw[hl]at h4;cases h4
 |some ju=>
  cases hl:amC m k with
  |none=>rw[hl]at h4;cases h4
  |some a=>
   rw[hl]at h4
   simp only[adn,aej]at h4
   simp[h4]
theorem avX.put {w:World}{M:Nat}{m:List (Int×Nat)}(h:avX w M m)(hd:(m.map (·.1)).Nodup)(k:Int)(b:Nat)(hk:amC m k=none):
 ∃o,(Instr.mapUpdate 95 (.map (some M)) (.int .i64 k) (.pointer (some ⟨b,0,none⟩))).run Tryz.prog w= .ok () {w with heap:=w.heap.setIfInBounds M o}∧
  avX {w with heap:=w.heap.setIfInBounds M o} M (m++ [(k,b)]):=by
 obtain⟨es,cl,h1,h2⟩:=h
 obtain⟨r,h3,h4⟩:=aO6 (w:=w) h2 hd k
 have hck:=Ex.ahL (P:=Tryz.prog) (w:=w) kd3 false (.int .i64 k)
 have hlt:M<w.heap.size:=by
  rcases Nat.lt_or_ge M w.heap.size with h|h
  ·exact h
  ·rw[Array.getElem?_eq_none h]at h1;cases h1
 refine⟨.map (es.push {key:= .int .i64 k,val:= .pointer (some ⟨b,0,none⟩),born:=cl}) (cl+1),?_,_,_,abk hlt,?_⟩
 ·cases r with
  |some ju=>rw[hk]at h4;cases h4
  |none=>
   simp only[Instr.mapUpdate,aa0,run_underlying Tryz.underlying95,aay,Ex.ahl h1,hck,h3,Ex.am6 _ h1]
 ·simp[h2]
theorem avX.add {w:World}{M:Nat}{m:List (Int×Nat)}(h:avX w M m)(hd:(m.map (·.1)).Nodup)(k:Int)(b:Nat)(hk:amC m k=none):
 ∃w',(Instr.mapUpdate 95 (.map (some M)) (.int .i64 k) (.pointer (some ⟨b,0,none⟩))).run Tryz.prog w= .ok () w'∧Kept (fun x=>x=M) w w'∧avX w' M (m++ [(k,b)]):=by
 obtain⟨o,h1,h2⟩:=h.put hd k b hk
 exact⟨_,h1,(Kept.refl (fun x=>x=M) w).putObj (fun _=>rfl) o,h2⟩
theorem avX.same {w w':World}{M:Nat}{m:List (Int×Nat)}(h:avX w M m)(hs:w'.heap[M]? =w.heap[M]?):avX w' M m:=by
 obtain⟨es,cl,h1,h2⟩:=h
 exact⟨es,cl,hs.trans h1,h2⟩
def aiC (m:List (Int×Nat)):Option Nat→Option Addr
 |none=>none
 |some k=>(m[k]?).map fun x=>⟨x.2,0,none⟩
theorem arw {m:List (Int×Nat)}{o:Option Nat}(x:Int×Nat)(h:∀k,o=some k→k<m.length):aiC (m++ [x]) o=aiC m o:=by
 cases o with
 |none=>rfl
 |some k=>simp only[aiC];rw[aby (h k rfl)]
def aic (m:List (Int×Nat))(p:Sp)(v:Value):Obj:= .cells #[.int .i64 p.frm,.int .i64 p.to,.pointer (aiC m p.outer),v] 175 (0,0)
def alE (ev:Value)(M:Nat)(wv:Value):Obj:= .cells #[ev,.map (some M),wv] 98 (0,0)
def nums (l:List Nat):List Value:=l.map fun i:Nat=> .int .i64 (i:Int)
structure ai1 (w W:World)(ev:Value)(L M:Nat)(wv:Value)(m:List (Int×Nat))(rf:Nat→Value)(sps:List Sp)(win:List Nat):Prop where
 kept:Keeps w W
 hL:W.heap[L]? =some (alE ev M wv)
 nL:w.heap.size≤L
 nM:w.heap.size≤M
 map:avX W M m
 apK:m.map (·.1)=sps.map (·.addr)
 news:∀x∈m,w.heap.size≤x.2
 bnd:(m.map (·.2)).Nodup
 sp:∀(k:Nat)(p:Sp)(x:Int×Nat),sps[k]? =some p→m[k]? =some x→W.heap[x.2]? =some (aic m p (rf k))
 rows:∀(k:Nat)(p:Sp),sps[k]? =some p→W.ownsRow w.heap.size 3 1 (rf k) p.reads.length (nums p.reads)
 apart:∀(j k b:Nat),j<sps.length→k<sps.length→j≠k→(rf j).ownBlock=some b→(rf k).ownBlock≠some b
 azO:W.ownsRow w.heap.size 94 1 wv win.length (win.map fun k=> .pointer (aiC m (some k)))
 out:∀(k:Nat)(p:Sp)(j:Nat),sps[k]? =some p→p.outer=some j→j<sps.length
 aPc:∀k∈win,k<sps.length
section
variable {w W W':World}{ev:Value}{L M:Nat}{wv:Value}{m:List (Int×Nat)}{rf:Nat→Value}{sps:List Sp}{win:List Nat}
theorem ai1.len (h:ai1 w W ev L M wv m rf sps win):m.length=sps.length:=by
 have:=congrArg List.length h.apK
 simpa using this
theorem ai1.at (h:ai1 w W ev L M wv m rf sps win){k:Nat}{p:Sp}(hp:sps[k]? =some p):∃b,m[k]? =some (p.addr,b)∧w.heap.size≤b∧W.heap[b]? =some (aic m p (rf k)):=by
 have hk:k<m.length:=by rw[h.len];exact(aaq.1 hp).1
 have hm:=aaw hk
 have e:=congrArg (fun l=>l[k]?) h.apK
 simp only[abl,hm,hp,adn,aej]at e
 refine⟨m[k].2,?_,h.news _ (List.getElem_mem hk),h.sp k p _ hp hm⟩
 rw[hm,←e]
theorem ai1.keep {S:Nat→Prop}(h:ai1 w W ev L M wv m rf sps win)(hk:Kept S W W')(hS:∀b,S b→w.heap.size≤b)
 (hL:¬S L)(hM:¬S M)(hs:∀x∈m,¬S x.2)(hr:∀k b,k<sps.length→(rf k).ownBlock=some b→¬S b)(hw:∀b,wv.ownBlock=some b→¬S b):ai1 w W' ev L M wv m rf sps win:=by
 obtain⟨es,cl,hm1,hm2⟩:=h.map
 refine⟨Kept.trans h.kept hk (fun x hx hx2=>by have:=hS x hx2;omega),hk.at h.hL hL,h.nL,h.nM,⟨es,cl,hk.at hm1 hM,hm2⟩,h.apK,h.news,h.bnd,?_,?_,h.apart,?_,h.out,h.aPc⟩
 ·intro k p x hp hx
  exact hk.at (h.sp k p x hp hx) (hs x (aaH hx))
 ·intro k p hp
  refine ac5 (h.rows k p hp) fun g hg=>?_
  exact hk.block g ((h.rows k p hp).lt g hg).2 (hr k g (aaq.1 hp).1 hg)
 ·refine ac5 h.azO fun g hg=>?_
  exact hk.block g (h.azO.lt g hg).2 (hw g hg)
theorem ai1.keeps (h:ai1 w W ev L M wv m rf sps win)(hk:Keeps W W'):ai1 w W' ev L M wv m rf sps win:=
 h.keep hk (fun _ x=>x.elim) (fun x=>x) (fun x=>x) (fun _ _ x=>x) (fun _ _ _ _ x=>x) (fun _ _ x=>x)
theorem ai1.buW (h:ai1 w W ev L M wv m rf sps win){k:Nat}{x:Int×Nat}(hx:m[k]? =some x):L≠x.2:=by
 have hk:k<sps.length:=by rw[←h.len];exact(aaq.1 hx).1
 have h2:=h.sp k _ x (aaw hk) hx
 intro e
 rw[←e,h.hL]at h2
 simp[alE,aic]at h2
theorem ai1.buZ (h:ai1 w W ev L M wv m rf sps win){k:Nat}{x:Int×Nat}(hx:m[k]? =some x):M≠x.2:=by
 have hk:k<sps.length:=by rw[←h.len];exact(aaq.1 hx).1
 have h2:=h.sp k _ x (aaw hk) hx
 obtain⟨es,cl,hm,_⟩:=h.map
 intro e
 rw[←e,hm]at h2
 simp[aic]at h2
theorem ai1.bu2 (h:ai1 w W ev L M wv m rf sps win):L≠M:=by
 obtain⟨es,cl,hm,_⟩:=h.map
 intro e
 rw[←e,h.hL]at hm
 simp[alE]at hm
theorem ai1.avg (h:ai1 w W ev L M wv m rf sps win){k b:Nat}(hk:k<sps.length)(hb:(rf k).ownBlock=some b):b≠L∧b≠M∧(∀x∈m,b≠x.2)∧wv.ownBlock≠some b:=by
 obtain⟨cur,hc⟩:=row_block (h.rows k _ (aaw hk)) hb
 obtain⟨es,cl,hm,_⟩:=h.map
 refine⟨fun e=>?_,fun e=>?_,fun x hx e=>?_,fun e=>?_⟩
 ·rw[e,h.hL]at hc;simp[alE]at hc
 ·rw[e,hm]at hc;simp at hc
 ·obtain⟨j,hj⟩:=abM.1 hx
  have hjl:j<sps.length:=by rw[←h.len];exact(aaq.1 hj).1
  rw[e,h.sp j _ x (aaw hjl) hj]at hc;simp[aic]at hc
 ·obtain⟨cur',hc'⟩:=row_block h.azO e
  rw[hc]at hc';simp at hc'
theorem ai1.aJv (h:ai1 w W ev L M wv m rf sps win){b:Nat}(hb:wv.ownBlock=some b):b≠L∧b≠M∧(∀x∈m,b≠x.2)∧∀k,k<sps.length→(rf k).ownBlock≠some b:=by
 obtain⟨cur,hc⟩:=row_block h.azO hb
 obtain⟨es,cl,hm,_⟩:=h.map
 refine⟨fun e=>?_,fun e=>?_,fun x hx e=>?_,fun k hk e=>(h.avg hk e).2.2.2 hb⟩
 ·rw[e,h.hL]at hc;simp[alE]at hc
 ·rw[e,hm]at hc;simp at hc
 ·obtain⟨j,hj⟩:=abM.1 hx
  have hjl:j<sps.length:=by rw[←h.len];exact(aaq.1 hj).1
  rw[e,h.sp j _ x (aaw hjl) hj]at hc;simp[aic]at hc
theorem ai1.uniq (h:ai1 w W ev L M wv m rf sps win){j k:Nat}{x y:Int×Nat}(hx:m[j]? =some x)(hy:m[k]? =some y)(e:x.2=y.2):j=k:=by
 have e1:(m.map (·.2))[j]? =some x.2:=by rw[abl,hx];rfl
 have e2:(m.map (·.2))[k]? =some x.2:=by rw[abl,hy,e];rfl
 exact(afC (aaq.1 e1).1 h.bnd).1 (e1.trans e2.symm)
theorem ai1.start (hk:Keeps w W)(hL:W.heap[L]? =some (alE ev M (.slice none 0 0)))(nL:w.heap.size≤L)(nM:w.heap.size≤M)(hm:avX W M []):ai1 w W ev L M (.slice none 0 0) [] rf [] []:=
 ⟨hk,hL,nL,nM,hm,rfl,fun x hx=>(aei hx).elim,List.nodup_nil,fun k p x h=>by simp at h,fun k p h=>by simp at h,fun j k b hj=>by simp at hj,acW _ _ _ _,fun k p j h=>by simp at h,fun k h=>(aei h).elim⟩
theorem ai1.make (h:ai1 w W ev L M wv m rf sps win){top:Option Nat}(htop:∀k,top=some k→k<sps.length){nb i:Nat}{a:Int}(hnb:W.heap.size≤nb)
 (hk:Kept (fun b=>b=M) W W')(hs:W'.heap[nb]? =some (aic m ⟨i,0,top,a,[]⟩ (.slice none 0 0)))(hm:avX W' M (m++ [(a,nb)])):
 ai1 w W' ev L M wv (m++ [(a,nb)]) (fun k=>if k=sps.length then .slice none 0 0 else rf k) (sps++ [⟨i,0,top,a,[]⟩]) win:=by
 have hlen:=h.len
 have hws:=h.kept.size
 have hsplit:∀(k:Nat)(p:Sp),(sps++ [⟨i,0,top,a,[]⟩])[k]? =some p→(k<sps.length∧sps[k]? =some p)∨(k=sps.length∧p=⟨i,0,top,a,[]⟩):=by
  intro k p hp
  rcases Nat.lt_trichotomy k sps.length with hk|hk|hk
  ·rw[aby hk]at hp;exact .inl ⟨hk,hp⟩
  ·subst hk;simp at hp;exact .inr ⟨rfl,hp.symm⟩
  ·rw[acN (by omega),af6 (by simp;omega)]at hp;cases hp
 have hout:∀(k:Nat)(p:Sp),sps[k]? =some p→aiC (m++ [(a,nb)]) p.outer=aiC m p.outer:=fun k p hp=>arw _ (fun j hj=>by rw[hlen];exact h.out k p j hp hj)
 have hblk:∀x∈m,x.2<W.heap.size:=by
  intro x hx
  obtain⟨j,hj⟩:=abM.1 hx
  have hjl:j<sps.length:=by rw[←h.len];exact(aaq.1 hj).1
  exact acO (h.sp j _ x (aaw hjl) hj)
 refine⟨Kept.trans h.kept hk (fun x hx hx2=>by have:=h.nM;omega),hk.at h.hL h.bu2,h.nL,h.nM,hm,by simp[h.apK],?_,?_,?_,?_,?_,?_,?_,?_⟩
 ·intro x hx
  rcases aaG.1 hx with hx|hx
  ·exact h.news x hx
  ·rw[aaW]at hx;subst hx;exact aa7 hws hnb
 ·rw[abH,afB]
  refine⟨h.bnd,by simp,?_⟩
  intro b hb c hc e
  simp only[acv,aiy,aaW]at hc
  subst hc;subst e
  obtain⟨x,hx,e⟩:=aaZ.1 hb
  have:=hblk x hx
  omega
 ·intro k p x hp hx
  rcases hsplit k p hp with⟨hkl,hp⟩|⟨rfl,rfl⟩
  ·rw[aby (by rw[hlen];exact hkl)]at hx
   rw[if_neg (by omega)]
   have:=hk.at (h.sp k p x hp hx) (fun e=>h.buZ hx e.symm)
   rw[this]
   simp only[aic,hout k p hp]
  ·rw[←hlen]at hx
   simp at hx
   subst hx
   rw[if_pos rfl]
   rw[hs]
   simp only[aic]
   rw[arw _ (fun k hk=>by rw[hlen];exact htop k hk)]
 ·intro k p hp
  rcases hsplit k p hp with⟨hkl,hp⟩|⟨rfl,rfl⟩
  ·rw[if_neg (by omega)]
   refine ac5 (h.rows k p hp) fun g hg=>?_
   exact hk.block g ((h.rows k p hp).lt g hg).2 (h.avg hkl hg).2.1
  ·rw[if_pos rfl];exact acW _ _ _ _
 ·intro j k b hj hk' hjk hb
  simp only[aa1,abJ,aeM]at hj hk'
  by_cases hj':j=sps.length
  ·rw[if_pos hj']at hb;simp[Value.ownBlock]at hb
  ·rw[if_neg hj']at hb
   by_cases hk'':k=sps.length
   ·rw[if_pos hk''];simp[Value.ownBlock]
   ·rw[if_neg hk''];exact h.apart j k b (by omega) (by omega) hjk hb
 ·have hw:=ac5 h.azO (w':=W') fun g hg=>hk.block g (h.azO.lt g hg).2 (h.aJv hg).2.1
  have:(win.map fun k=>Value.pointer (aiC (m++ [(a,nb)]) (some k)))=win.map fun k=>Value.pointer (aiC m (some k)):=by
   refine aec fun k hk=>?_
   rw[arw _ (fun j hj=>by injection hj with hj;subst hj;rw[hlen];exact h.aPc k hk)]
  rw[this]
  exact hw
 ·intro k p j hp hj
  simp only[aa1,abJ,aeM]
  rcases hsplit k p hp with⟨hkl,hp⟩|⟨rfl,rfl⟩
  ·have:=h.out k p j hp hj;omega
  ·have:=htop j hj;omega
 ·intro k hk
  have:=h.aPc k hk
  simp;omega
theorem ai1.write (h:ai1 w W ev L M wv m rf sps win){k:Nat}{p q:Sp}{x:Int×Nat}{v:Value}(hp:sps[k]? =some p)(hx:m[k]? =some x)(hqa:q.addr=p.addr)(hqo:q.outer=p.outer)
 (hk:Kept (fun b=>b=x.2∨(rf k).ownBlock=some b) W W')(hs:W'.heap[x.2]? =some (aic m q v))(hr:W'.ownsRow w.heap.size 3 1 v q.reads.length (nums q.reads))
 (hv:∀g,v.ownBlock=some g→(rf k).ownBlock=some g∨W.heap.size≤g):ai1 w W' ev L M wv m (fun j=>if j=k then v else rf j) (sps.set k q) win:=by
 have hkl:=(aaq.1 hp).1
 have hxm:=aaH hx
 have hx0:=h.news x hxm
 obtain⟨es,cl,hm1,hm2⟩:=h.map
 have hrk:∀g,(rf k).ownBlock=some g→w.heap.size≤g:=fun g hg=>((h.rows k p hp).lt g hg).1
 refine⟨Kept.trans h.kept hk ?_,hk.at h.hL ?_,h.nL,h.nM,⟨es,cl,hk.at hm1 ?_,hm2⟩,?_,h.news,h.bnd,?_,?_,?_,?_,?_,?_⟩
 ·rintro y hy (rfl|hy2)
  ·omega
  ·have:=hrk y hy2;omega
 ·rintro(e|e)
  ·exact h.buW hx e
  ·exact(h.avg hkl e).1 rfl
 ·rintro(e|e)
  ·exact h.buZ hx e
  ·exact(h.avg hkl e).2.1 rfl
 ·rw[aiv (·.addr) hp hqa];exact h.apK
 ·intro j r y hr hy
  rcases aiZ hp hr with⟨rfl,rfl⟩|⟨hj,hr⟩
  ·rw[hx]at hy;injection hy with hy;subst hy
   rw[if_pos rfl];exact hs
  ·rw[if_neg hj]
   refine hk.at (h.sp j r y hr hy) ?_
   rintro(e|e)
   ·exact hj (h.uniq hy hx e)
   ·exact(h.avg hkl e).2.2.1 y (aaH hy) rfl
 ·intro j r hr'
  rcases aiZ hp hr' with⟨rfl,rfl⟩|⟨hj,hr'⟩
  ·rw[if_pos rfl];exact hr
  ·rw[if_neg hj]
   have hjl:=(aaq.1 hr').1
   refine ac5 (h.rows j r hr') fun g hg=>?_
   refine hk.block g ((h.rows j r hr').lt g hg).2 ?_
   rintro(e|e)
   ·exact(h.avg hjl hg).2.2.1 x hxm e
   ·exact h.apart j k g hjl hkl hj hg e
 ·intro i j b hi hj hij hb
  simp only[List.length_set]at hi hj
  by_cases hik:i=k
  ·subst hik
   rw[if_pos rfl]at hb
   rw[if_neg (fun e=>hij e.symm)]
   rcases hv b hb with hb|hb
   ·exact h.apart i j b hi hj hij hb
   ·intro e
    have:=((h.rows j _ (aaw hj)).lt b e).2
    omega
  ·rw[if_neg hik]at hb
   by_cases hjk:j=k
   ·subst hjk
    rw[if_pos rfl]
    intro e
    rcases hv b e with e|e
    ·exact h.apart i j b hi hj hij hb e
    ·have:=((h.rows i _ (aaw hi)).lt b hb).2
     omega
   ·rw[if_neg hjk];exact h.apart i j b hi hj hij hb
 ·refine ac5 h.azO fun g hg=>hk.block g (h.azO.lt g hg).2 ?_
  rintro(e|e)
  ·exact(h.aJv hg).2.2.1 x hxm e
  ·exact(h.aJv hg).2.2.2 k hkl e
 ·intro j r o hr ho
  rw[List.length_set]
  rcases aiZ hp hr with⟨rfl,rfl⟩|⟨hj,hr⟩
  ·exact h.out _ p o hp (hqo▸ho)
  ·exact h.out j r o hr ho
 ·intro j hj
  rw[List.length_set];exact h.aPc j hj
theorem ai1.more (h:ai1 w W ev L M wv m rf sps win){k:Nat}{v:Value}(hkl:k<sps.length)(hk:Kept (fun b=>b=L∨wv.ownBlock=some b) W W')(hL:W'.heap[L]? =some (alE ev M v))
 (hr:W'.ownsRow w.heap.size 94 1 v (win.length+1) ((win.map fun k=> .pointer (aiC m (some k)))++ [.pointer (aiC m (some k))])):ai1 w W' ev L M v m rf sps (win++ [k]):=by
 obtain⟨es,cl,hm1,hm2⟩:=h.map
 refine⟨Kept.trans h.kept hk ?_,hL,h.nL,h.nM,⟨es,cl,hk.at hm1 ?_,hm2⟩,h.apK,h.news,h.bnd,?_,?_,h.apart,?_,h.out,?_⟩
 ·rintro y hy (rfl|hy2)
  ·have:=h.nL;omega
  ·have:=(h.azO.lt y hy2).1;omega
 ·rintro(e|e)
  ·exact h.bu2 e.symm
  ·exact(h.aJv e).2.1 rfl
 ·intro j r y hr hy
  refine hk.at (h.sp j r y hr hy) ?_
  rintro(e|e)
  ·exact h.buW hy e.symm
  ·exact(h.aJv e).2.2.1 y (aaH hy) rfl
 ·intro j r hr'
  refine ac5 (h.rows j r hr') fun g hg=>hk.block g ((h.rows j r hr').lt g hg).2 ?_
  have hjl:=(aaq.1 hr').1
  rintro(e|e)
  ·exact(h.avg hjl hg).1 e
  ·exact(h.avg hjl hg).2.2.2 e
 ·simpa using hr
 ·intro j hj
  rcases aaG.1 hj with hj|hj
  ·exact h.aPc j hj
  ·rw[aaW]at hj;subst hj;exact hkl
theorem ai1.gathered (h:ai1 w W ev L M wv m rf sps win){k:Nat}{v:Value}{o:Obj}{W5:World}(hkl:k<sps.length)(hg:(W.alloc o).grownBy W5 wv.ownBlock)
 (hr:W5.ownsRow w.heap.size 94 1 v (win.length+1) ((win.map fun k=> .pointer (aiC m (some k)))++ [.pointer (aiC m (some k))])):
 ai1 w (W5.setCell ⟨L,2,none⟩ v) ev L M v m rf sps (win++ [k])∧W5.heap[L]? =some (alE ev M wv)∧
  (∀(b:Nat)(c:Array Value),W.heap[b]? =some (.cells c 109 (0,0))→(W5.setCell ⟨L,2,none⟩ v).heap[b]? =some (.cells c 109 (0,0))):=by
 have hk5:Kept (fun b=>wv.ownBlock=some b) W W5:=((Kept.refl _ W).alloc o).grown hg (fun b hb _=>hb)
 have hL5:W5.heap[L]? =some (alE ev M wv):=hk5.at h.hL (fun e=>(h.aJv e).1 rfl)
 have hk6:Kept (fun b=>b=L∨wv.ownBlock=some b) W (W5.setCell ⟨L,2,none⟩ v):=(hk5.mono (fun x _ hx=> .inr hx)).setCell (p:=⟨L,2,none⟩) (fun _=> .inl rfl) _
 refine⟨h.more hkl hk6 ?_ ?_,hL5,fun b c hb=>?_⟩
 ·unfold alE at hL5
  rw[abV hL5];rfl
 ·refine ac5 hr fun g hg'=>?_
  obtain⟨cur,hc⟩:=row_block hr hg'
  exact abw _ (fun e=>by rw[e,hL5]at hc;simp[alE]at hc)
 ·refine hk6.at hb ?_
  rintro(e|e)
  ·rw[e,h.hL]at hb;simp[alE]at hb
  ·obtain⟨cur,hc⟩:=row_block h.azO e
   rw[hc]at hb;simp at hb
theorem ai1.noted (h:ai1 w W ev L M wv m rf sps win){k i:Nat}{p:Sp}{x:Int×Nat}{v:Value}{o:Obj}{W5:World}(hp:sps[k]? =some p)(hx:m[k]? =some x)(hg:(W.alloc o).grownBy W5 (rf k).ownBlock)
 (hr:W5.ownsRow w.heap.size 3 1 v (p.reads.length+1) (nums p.reads++ [.int .i64 i]))(hat:v.ownBlock=(rf k).ownBlock∨v.ownBlock=some (W.alloc o).heap.size):
 ai1 w (W5.setCell ⟨x.2,3,none⟩ v) ev L M wv m (fun j=>if j=k then v else rf j) (sps.set k {p with reads:=p.reads++ [i]}) win∧W5.heap[x.2]? =some (aic m p (rf k))∧
  (∀(b:Nat)(c:Array Value),W.heap[b]? =some (.cells c 109 (0,0))→(W5.setCell ⟨x.2,3,none⟩ v).heap[b]? =some (.cells c 109 (0,0))):=by
 have hkl:=(aaq.1 hp).1
 have hk5:Kept (fun b=>(rf k).ownBlock=some b) W W5:=((Kept.refl _ W).alloc o).grown hg (fun b hb _=>hb)
 have hS5:W5.heap[x.2]? =some (aic m p (rf k)):=hk5.at (h.sp k p x hp hx) (fun e=>(h.avg hkl e).2.2.1 x (aaH hx) rfl)
 have hk6:Kept (fun b=>b=x.2∨(rf k).ownBlock=some b) W (W5.setCell ⟨x.2,3,none⟩ v):=(hk5.mono (fun x _ hx=> .inr hx)).setCell (p:=⟨x.2,3,none⟩) (fun _=> .inl rfl) _
 refine⟨h.write hp hx rfl rfl hk6 ?_ ?_ ?_,hS5,fun b c hb=>?_⟩
 ·unfold aic at hS5
  rw[abV hS5];rfl
 ·have e1:(p.reads++ [i]).length=p.reads.length+1:=by simp
  have e2:nums (p.reads++ [i])=nums p.reads++ [.int .i64 i]:=by simp[nums]
  show World.ownsRow _ _ _ _ _ (p.reads++ [i]).length (nums (p.reads++ [i]))
  rw[e1,e2]
  refine ac5 hr fun g hg'=>?_
  obtain⟨cur,hc⟩:=row_block hr hg'
  exact abw _ (fun e=>by rw[e,hS5]at hc;simp[aic]at hc)
 ·intro g hg'
  rcases hat with e|e
  ·exact .inl (e▸hg')
  ·rw[e]at hg'
   injection hg' with hg'
   right
   rw[←hg',aaS]
   exact ab5 _
 ·refine hk6.at hb ?_
  rintro(e|e)
  ·rw[e,h.sp k p x hp hx]at hb;simp[aic]at hb
  ·obtain⟨cur,hc⟩:=row_block (h.rows k p hp) e
   rw[hc]at hb;simp at hb
theorem ai1.closed (h:ai1 w W ev L M wv m rf sps win){k i:Nat}{p:Sp}{x:Int×Nat}(hp:sps[k]? =some p)(hx:m[k]? =some x):
 ai1 w (W.setCell ⟨x.2,1,none⟩ (.int .i64 i)) ev L M wv m (fun j=>if j=k then rf k else rf j) (sps.set k {p with to:=i}) win:=by
 have hkl:=(aaq.1 hp).1
 have hS:=h.sp k p x hp hx
 refine h.write hp hx rfl rfl ((Kept.refl _ W).setCell (p:=⟨x.2,1,none⟩) (fun _=> .inl rfl) _) ?_ ?_ (fun g hg=> .inl hg)
 ·unfold aic at hS
  rw[abV hS];rfl
 ·refine ac5 (h.rows k p hp) fun g hg=>abw _ ?_
  exact(h.avg hkl hg).2.2.1 x (aaH hx)
end
end
end Go.Proofs.YtfehlbepjmmkeaaGreatDoor
