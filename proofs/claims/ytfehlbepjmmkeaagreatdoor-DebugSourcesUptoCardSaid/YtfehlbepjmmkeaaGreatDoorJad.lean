/-
  A range over a function that keeps a box of its own between its rounds. Conditions: each theorem's own hypotheses.
-/
import Derived.Test.YtfehlbepjmmkeaaGreatDoorJab
import Derived.WalkMore
import Derived.Sort.OwnSortedInts
import Derived.Lib.SlicesCompact
import Derived.Deep.AppendLies
import Derived.Deep.RegionLaw
namespace Go.Proofs.YtfehlbepjmmkeaaGreatDoor
set_option maxHeartbeats 4000000
set_option maxRecDepth 100000
set_option linter.unusedSimpArgs false
set_option linter.unusedVariables false
section
open Go.RowKit Go.Shelf
def mayLeave (l:Nat)(rec:Loop)(X:Nat→Prop)(J JD:World→Prop)(W:World):Exit→Act→World→Prop
 | .normal,_,W'=>W'.heap[l]? =some (.loop rec)∧W'.heap[rec.defers]? =some (.deferred (some []))∧agG X W W'∧J W'
 | .ret,_,W'=>W'.heap[l]? =some (.loop rec)∧W'.heap[rec.defers]? =some (.deferred (some []))∧JD W'
 |_,_,_=>False
theorem aPo {g:Operand}{ps:Array Tmp}{assign body:Code}{Q:Exit→Act→World→Prop}{a:Act}{w:World}{n:Nat}
 {gf:Nat}{lb:Array Value}(hg:a.eval g= .func (.func gf) #[] lb)(eg:∀args w,(callFunc gf args).run Tryz.prog w= .ok (.enter gf args) w)
 (N:Nat)(x:Nat→Array Value)(J:Value→Nat→World→Prop)(X:Nat→Prop)(JD:World→Prop)(bx:Nat)(s0:Value)
 (hps:∀i,(x i).size=ps.size)
 (hJa:∀s i W o,J s i W→J s i (W.alloc o))(hJd:∀s i W,J s i W→J s i W.drew)(hJs:∀s i W v,J s i W→J v i (W.setCell ⟨bx,0,none⟩ v))(hJb:∀s i W,J s i W→∃c t fr,W.heap[bx]? =some (.cells c t fr))
 (hJp:∀s i W b o o',J s i W→w.heap.size≤b→W.heap[b]? =some o→o.isCells=false→J s i (W.putObj b o'))
 (hDp:∀W b o o',JD W→w.heap.size≤b→W.heap[b]? =some o→o.isCells=false→JD (W.putObj b o'))
 (h0:J s0 0 w)
 (hiter:∀(l:Nat)(J':Value→Nat→World→Prop)(JD':World→Prop)(W:World),(∀s i W',J' s i W'→J s i W')→(∀W',JD' W'→JD W')→J' s0 0 W→l<W.heap.size→w.heap.size≤W.heap.size→
   (∀s i W' o,J' s i W'→J' s i (W'.alloc o))→(∀s i W',J' s i W'→J' s i W'.drew)→(∀s i W' v,J' s i W'→J' v i (W'.setCell ⟨bx,0,none⟩ v))→
   (∀s i W' b o o',J' s i W'→W.heap.size≤b→W'.heap[b]? =some o→o.isCells=false→J' s i (W'.putObj b o'))→
   (∀s i W1,i<N→J' s i W1→Yields l (x i) W1 fun e W'=>(e= .returned (.bool true)∧J' s (i+1) W'∧agG (fun b=>X b∨b=l) W1 W')∨(e= .returned (.bool false)∧JD' W'))→
   CallsIn Fence.wide (n - 1) Tryz.prog gf (#[.func (.yield l) #[] #[]]++lb) W fun e W'=>(∃v,e= .returned v)∧((∃s,J' s N W')∨JD' W'))
 (a₁:Nat→Act)
 (hassign:∀(l i:Nat)(W:World)(K:Act→World→Prop),K (a₁ i) W→
   assign.wpIn (Fence.wide.inRound l) 0 Tryz.prog (Exit.then K (fun _ _ _=>False)) {tmps:=(ps.zip (x i)).foldl (fun t (p,v)=>t.setIfInBounds p v) a.tmps,defers:=[]} W)
 (hbody:∀(s:Value)(l i:Nat)(rec:Loop)(W:World),i<N→w.heap.size<l→rec.defers=w.heap.size→W.heap[l]? =some (.loop rec)→W.heap[w.heap.size]? =some (.deferred (some []))→J s i W→
   body.wpIn (Fence.wide.inRound l) 0 Tryz.prog (mayLeave l rec X (J s (i+1)) JD W) (a₁ i) W)
 (hdone:∀(s:Value)(D:Nat)(W:World),w.heap.size≤D→J s N W→W.heap[D]? =some (.deferred (some []))→Q .normal {a with defers:={target:= .collected D,args:=#[]}::a.defers} W)
 (hleft:∀(D:Nat)(W:World),w.heap.size≤D→JD W→W.heap[D]? =some (.deferred (some []))→Q .ret {a with defers:={target:= .collected D,args:=#[]}::a.defers} W):
 (Code.rangeFunc g ps assign body).wpIn Fence.wide n Tryz.prog Q a w:=by
 refine wpIn_rangeFunc ?_
 intro fn hfn
 obtain⟨rec,hrec⟩ :∃rec:LoopState→Option Code→Loop,rec=fun st pe=>{state:=st,pending:=pe,fn,tmps:=a.tmps,params:=ps,assign,body,defers:=w.heap.size}:=⟨_,rfl⟩
 obtain⟨l,hl⟩ :∃l,l=w.heap.size+1:=⟨_,rfl⟩
 obtain⟨W1,hW1⟩ :∃W1,W1=(w.alloc (.deferred (some []))).alloc (.loop (rec .ready none)):=⟨_,rfl⟩
 have hsz:W1.heap.size=w.heap.size+2:=by rw[hW1];simp
 have hL1:W1.heap[l]? =some (.loop (rec .ready none)):=by
  have:=aaL (w.alloc (.deferred (some []))) (.loop (rec .ready none))
  rw[aaS]at this
  rw[hW1,hl];exact this
 have hD1:W1.heap[w.heap.size]? =some (.deferred (some [])):=by rw[hW1];exact heap_alloc_old _ (aaL w _)
 refine⟨l,[{target:= .collected w.heap.size,args:=#[]}],W1,{target:= .fn (.func gf) lb,args:=#[.func (.yield l) #[] #[]]},W1,gf,
  #[.func (.yield l) #[] #[]]++lb,W1,?_,?_,?_,?_,fun h=>by simp[Fence.wide]at h,?_⟩
 ·rw[hW1,hrec,hl];exact run_enterLoop_outer _ _ _ _ _
 ·simp only[resolve,hg]
  simp[go_sem]
 ·intro f' hf';trivial
 ·simp[invoke,go_sem,eg]
 ·have hnd:(rec .ready none).defers=w.heap.size:=by rw[hrec]
  refine(hiter l (fun s i W=>J s i W∧W.heap[l]? =some (.loop (rec .ready none))∧W.heap[w.heap.size]? =some (.deferred (some []))) (fun W=>JD W∧W.heap[l]? =some (.loop {rec .ready none with state:= .done,pending:=some .ret})∧W.heap[w.heap.size]? =some (.deferred (some []))) W1 (fun s i W' h=>h.1) (fun W' h=>h.1)
   ⟨by rw[hW1];exact hJa _ _ _ _ (hJa _ _ _ _ h0),hL1,hD1⟩ (by omega) (by omega)
   (fun s i W' o h=>⟨hJa _ _ _ _ h.1,heap_alloc_old _ h.2.1,heap_alloc_old _ h.2.2⟩) (fun s i W' h=>⟨hJd _ _ _ h.1,h.2.1,h.2.2⟩)
   (fun s i W' v h=>by
     obtain⟨c,t,fr,hc⟩:=hJb s i W' h.1
     exact⟨hJs _ _ _ _ h.1,by rw[abw _ (fun e=>by rw[e,hc]at h;simp at h)];exact h.2.1,by rw[abw _ (fun e=>by rw[e,hc]at h;simp at h)];exact h.2.2⟩)
   (fun s i W' b o o' h hb ho hc=>⟨hJp s i W' b o o' h.1 (by omega) ho hc,by rw[abB (by omega)];exact h.2.1,by rw[abB (by omega)];exact h.2.2⟩) ?_).mono ?_
  ·rintro s i W hi ⟨hJ,hlW,hdW⟩
   have hy:=run_yield (P:=Tryz.prog) (args:=x i) hlW (by rw[hrec];exact hps i)
   refine⟨fn,_,assign,body,by rw[hy,hrec],?_⟩
   have hb:=run_beginRound (P:=Tryz.prog) hlW (by rw[hrec])
   have hll:l<W.heap.size:=lt_of_block hlW
   refine roundIn_of_wpIn trivial (wpIn_mono (hassign l i W _ ⟨_,hb,?_⟩) (fun e a' w' h=>h))
   have bma:(W.putObj l (.loop {rec .ready none with state:= .busy})).heap[l]? =some (.loop {rec .ready none with state:= .busy}):=aiF hll
   have bmc:(W.putObj l (.loop {rec .ready none with state:= .busy})).heap[w.heap.size]? =some (.deferred (some [])):=by rw[abB (by omega)];exact hdW
   have hJ2:=hJp s i W l _ (.loop {rec .ready none with state:= .busy}) hJ (by omega) hlW rfl
   refine wpIn_mono (hbody s l i _ _ hi (by omega) (by rw[hrec]) bma bmc hJ2) ?_
   intro e a' W' he
   cases e with
   |normal=>
    obtain⟨k1,k2,k3,k4⟩:=he
    rw[show({rec .ready none with state:= .busy}:Loop).defers=w.heap.size from by rw[hrec]]at k2
    have hend:=run_endRound (P:=Tryz.prog) none k1
    have hback:({({rec .ready none with state:= .busy}:Loop)with state:= .ready,pending:=none}:Loop)=rec .ready none:=by rw[hrec]
    simp only[Option.isNone_none,if_true,hback]at hend
    refine⟨.bool true,_,hend,.inl ⟨rfl,⟨hJp s (i+1) W' l _ _ k4 (by omega) k1 rfl,aiF (lt_of_block k1),?_⟩,?_⟩⟩
    ·rw[abB (by omega)];exact k2
    ·refine⟨by rw[ail];exact aa7 (by rw[ail];exact aai _) k3.size,fun b o hx hb ho=>?_⟩
     have hbl:b≠l:=fun e=>hx (.inr e)
     rw[abB hbl]
     exact k3.same b o (fun e=>hx (.inl e)) (by rw[abB hbl];exact hb) ho
   |ret=>
    obtain⟨k1,k2,k4⟩:=he
    rw[show({rec .ready none with state:= .busy}:Loop).defers=w.heap.size from by rw[hrec]]at k2
    have hend:=run_endRound (P:=Tryz.prog) (some .ret) k1
    simp only[Option.isNone_some,acf,if_false]at hend
    exact⟨.bool false,_,hend,.inr ⟨rfl,hDp W' l _ _ k4 (by omega) k1 rfl,aiF (lt_of_block k1),by rw[abB (by omega)];exact k2⟩⟩
   |exit id=>exact he.elim
   |goto t=>exact he.elim
   |panic chain=>exact he.elim
   |outgrown=>exact he.elim
  ·rintro e W ⟨⟨v,rfl⟩,hx⟩
   rcases hx with⟨s,hJ,hlW,hdW⟩|⟨hJ,hlW,hdW⟩
   ·have hend:=run_endLoop (P:=Tryz.prog) hlW (by rw[hrec];simp)
    refine⟨_,_,hend,?_⟩
    have hp:(rec .ready none).pending=none:=by rw[hrec]
    rw[hp]
    refine hdone s w.heap.size _ (aai _) (hJp s N W l _ _ hJ (by omega) hlW rfl) ?_
    rw[abB (by omega)];exact hdW
   ·have hend:=run_endLoop (P:=Tryz.prog) hlW (by simp)
    refine⟨_,_,hend,?_⟩
    refine wpIn_ret ?_
    refine hleft w.heap.size _ (aai _) (hDp W l _ _ hJ (by omega) hlW rfl) ?_
    rw[abB (by omega)];exact hdW
end
section
def addrOf (f:St)(k:Nat):Int:=match f.sps[k]? with|some p=>p.addr|none=>0
def readsOf (f:St)(k:Nat):List Nat:=match f.sps[k]? with|some p=>p.reads|none=>[]
def addrAt (evs:List Ev)(i:Nat):Int:=match evs[i]? with|some e=>e.addr|none=>0
def slots (wr:List Int):List Int:=((List.range 30000).map fun a:Nat=>(a:Int)).filter fun a=>decide (a∈wr)
theorem aBW {wr wr':List Int}(h:∀a,a∈wr↔a∈wr'):slots wr=slots wr':=by
 unfold slots
 refine ajt fun a _=>?_
 simp[h a]
theorem aFz:∀{l l':List Int},l.Pairwise (· < ·)→l'.Pairwise (· < ·)→(∀a,a∈l↔a∈l')→l=l'
 | [],[],_,_,_=>rfl
 | [],b::l',_,_,h=>((aei ((h b).2 ac2))).elim
 |a::l,[],_,_,h=>((aei ((h a).1 ac2))).elim
 |a::l,b::l',h1,h2,h=>by
  rw[ag1]at h1 h2
  have hab:a=b:=by
   rcases abb.1 ((h a).1 ac2)with e|e
   ·exact e
   ·rcases abb.1 ((h b).2 ac2)with e'|e'
    ·exact e'.symm
    ·have:=h2.1 a e;have:=h1.1 b e';omega
  subst hab
  rw[aFz h1.2 h2.2 fun x=>?_]
  constructor
  ·intro hx
   rcases abb.1 ((h x).1 (abq _ hx))with e|e
   ·subst e;have:=h1.1 x hx;omega
   ·exact e
  ·intro hx
   rcases abb.1 ((h x).2 (abq _ hx))with e|e
   ·subst e;have:=h2.1 x hx;omega
   ·exact e
theorem aPp:∀n:Nat,((List.range n).map fun a:Nat=>(a:Int)).Pairwise (· < ·):=by
 intro n
 rw[List.pairwise_map]
 exact List.pairwise_lt_range.imp (fun h=>by omega)
theorem aJZ {wr:List Int}{a:Int}:a∈slots wr↔(0≤a∧a<30000)∧a∈wr:=by
 unfold slots
 rw[acD,decide_eq_true_eq,aaZ]
 constructor
 ·rintro⟨⟨k,hk,rfl⟩,h2⟩
  rw[afO]at hk
  exact⟨⟨by omega,by omega⟩,h2⟩
 ·rintro⟨⟨h0,h1⟩,h2⟩
  exact⟨⟨a.toNat,by rw[afO];omega,by omega⟩,h2⟩
def InB (s:St):Prop:=∀(k:Nat)(p:Sp),s.sps[k]? =some p→0≤p.addr∧p.addr<30000
theorem asG {s s':St}{i:Nat}{e:Ev}(h:s.step i e=some s'):e.form=true:=by
 unfold St.step at h
 split at h
 ·cases h
 ·rename_i hf;simpa using hf
theorem InB.step {s s':St}{i:Nat}{e:Ev}(h:InB s)(hs:s.step i e=some s'):InB s':=by
 have hf:=azP (asG hs)
 rcases alO hs with⟨k1,hany,rfl⟩|⟨k,p,htop,hp,k2,rfl⟩|⟨k,p,htop,hp,k3,hpa,rfl⟩
 ·intro k p hp
  rcases apr hp with⟨_,hp⟩|⟨_,rfl⟩
  ·exact h k p hp
  ·exact hf
 ·intro j q hq
  rcases aiZ hp hq with⟨rfl,rfl⟩|⟨_,hq⟩
  ·exact h _ p hp
  ·exact h j q hq
 ·intro j q hq
  rcases aiZ hp hq with⟨rfl,rfl⟩|⟨_,hq⟩
  ·exact h _ p hp
  ·exact h j q hq
theorem InB.run:∀(l:List Ev)(s s':St)(i:Nat),InB s→s.run i l=some s'→InB s'
 | [],s,s',i,h,hr=>by
   injection hr with hr
   subst hr;exact h
 |e::l,s,s',i,h,hr=>by
  simp only[St.run]at hr
  cases hs:s.step i e with
  |none=>rw[hs]at hr;cases hr
  |some s2=>rw[hs]at hr;exact InB.run l s2 s' (i+1) (h.step hs) hr
theorem InB.start:InB St.start:=fun k p h=>by simp[St.start]at h
theorem AtM.bvj {evs:List Ev}{x:Nat}{s:St}{st:List Nat}{wr:List Int}(ha:AtM evs x s st wr):st.length≤x:=by
 have h2:=ha.ok.bat
 have h4:st.reverse.Pairwise (· < ·):=List.pairwise_reverse.2 ha.dec
 have h5:st.reverse=(List.range s.sps.length).filter fun k=>decide (k∈st):=aJK h4 (List.pairwise_lt_range.filter _) fun k=>by
  rw[List.mem_reverse,acD,afO,decide_eq_true_eq]
  exact⟨fun h=>⟨ha.stack.lt k h,h⟩,fun h=>h.2⟩
 have h6:=ah4 (fun k=>decide (k∈st)) (List.range s.sps.length)
 rw[←h5]at h6
 simp only[List.length_reverse,List.length_range]at h6
 omega
end
section
structure akN (sps:List Sp)(V:List (List Nat)):Prop where
 len:V.length=sps.length
 eq:∀(k:Nat)(p:Sp),sps[k]? =some p→V[k]? =some ((match p.outer with|some j=>(V.getD j []).filter fun r=>decide (r<p.frm)|none=>[])++p.reads)
theorem akN.start:akN [] []:=⟨rfl,fun k p h=>by simp at h⟩
theorem axc {V:List (List Nat)}{k:Nat}{l:List Nat}(h:V[k]? =some l):V.getD k []=l:=by rw[abj,h];rfl
theorem akN.lt {sps:List Sp}{V:List (List Nat)}(h:akN sps V){i:Nat}(hr:∀(k:Nat)(p:Sp),sps[k]? =some p→∀r∈p.reads,r<i)(ho:∀(k:Nat)(p:Sp)(j:Nat),sps[k]? =some p→p.outer=some j→j<k):
 ∀(k:Nat),∀r∈V.getD k [],r<i:=by
 intro k
 induction k using Nat.strongRecOn with
 |_ k ih=>
  intro r hm
  cases hp:sps[k]? with
  |none=>
   have hk:V[k]? =none:=af6 (by rw[h.len];exact List.getElem?_eq_none_iff.1 hp)
   rw[abj,hk]at hm
   simp at hm
  |some p=>
   rw[axc (h.eq k p hp)]at hm
   rcases aaG.1 hm with hm|hm
   ·cases hpo:p.outer with
    |none=>rw[hpo]at hm;simp at hm
    |some j=>
     rw[hpo]at hm
     exact ih j (ho k p j hp hpo) r (acD.1 hm).1
   ·exact hr k p hp r hm
theorem akN.make {sps:List Sp}{V:List (List Nat)}(h:akN sps V){q:Sp}(hq:q.reads= [])(ho:∀(k:Nat)(p:Sp)(j:Nat),sps[k]? =some p→p.outer=some j→j<k)(hqo:∀j,q.outer=some j→j<sps.length)
 (hlt:∀(k:Nat),∀r∈V.getD k [],r<q.frm):akN (sps++ [q]) (V++ [match q.outer with|some j=>V.getD j [] |none=>[]]):=by
 have hget:∀j,j<sps.length→(V++ [match q.outer with|some j=>V.getD j [] |none=>[]]).getD j []=V.getD j []:=by
  intro j hj
  rw[abj,abj,aby (by rw[h.len];exact hj)]
 refine⟨by simp[h.len],fun k p hp=>?_⟩
 rcases apr hp with⟨hk,hp⟩|⟨rfl,rfl⟩
 ·rw[aby (by rw[h.len];exact hk),h.eq k p hp]
  cases hpo:p.outer with
  |none=>rfl
  |some j=>simp only[hget j (Nat.lt_trans (ho k p j hp hpo) hk)]
 ·rw[acN (by rw[h.len];exact aai _),h.len,Nat.sub_self,hq,aht]
  cases hpo:p.outer with
  |none=>rfl
  |some j=>
   have hj:=hqo j hpo
   rw[hpo]at hget
   simp only[hget j hj,ac3]
   rw[ahw.2 fun r hr=>by simpa using hlt j r hr]
theorem akN.read {sps:List Sp}{V:List (List Nat)}(h:akN sps V){k i:Nat}{p:Sp}(hp:sps[k]? =some p)(hf:∀(j:Nat)(q:Sp),sps[j]? =some q→q.frm≤i)(ho:∀(k:Nat)(p:Sp)(j:Nat),sps[k]? =some p→p.outer=some j→j<k):
 akN (sps.set k {p with reads:=p.reads++ [i]}) (V.set k (V.getD k []++ [i])):=by
 have hk:=(aaq.1 hp).1
 have hkV:k<V.length:=by rw[h.len];exact hk
 have hfil:∀(j:Nat)(t:Nat),t≤i→((V.set k (V.getD k []++ [i])).getD j []).filter (fun r=>decide (r<t))=(V.getD j []).filter fun r=>decide (r<t):=by
  intro j t ht
  by_cases e:k=j
  ·subst e
   have e1:(V.set k (V.getD k []++ [i])).getD k []=V.getD k []++ [i]:=by rw[abj,adx hkV];rfl
   rw[e1,akw]
   simp[show ¬i<t by omega]
  ·rw[abj,adB e,←abj]
 refine⟨by simp[h.len],fun j q hq=>?_⟩
 rcases aiZ hp hq with⟨rfl,rfl⟩|⟨hjk,hq⟩
 ·have e0:=axc (h.eq _ p hp)
  rw[adx hkV]
  cases hpo:p.outer with
  |none=>
   rw[hpo]at e0
   simp only[e0,adt]
  |some o=>
   simp only
   rw[hfil o p.frm (hf _ p hp),e0]
   simp only[hpo,adS]
 ·rw[adB (fun e=>hjk e.symm),h.eq j q hq]
  cases hpo:q.outer with
  |none=>rfl
  |some o=>simp only[hfil o q.frm (hf _ q hq)]
theorem akN.write {sps:List Sp}{V:List (List Nat)}(h:akN sps V){k i:Nat}{p:Sp}(hp:sps[k]? =some p):akN (sps.set k {p with to:=i}) V:=by
 refine⟨by simp[h.len],fun j q hq=>?_⟩
 rcases aiZ hp hq with⟨rfl,rfl⟩|⟨hjk,hq⟩
 ·exact h.eq _ p hp
 ·exact h.eq j q hq
inductive apq (sps:List Sp):Option Nat→Nat→List (Nat×Nat)→Prop
 |nil {t:Nat}:apq sps none t []
 |cons {k t:Nat}{p:Sp}{l:List (Nat×Nat)}(hp:sps[k]? =some p)(hl:apq sps p.outer p.frm l):apq sps (some k) t ((k,(p.reads.filter fun r=>decide (r<t)).length)::l)
theorem apq.mem {sps:List Sp}{V:List (List Nat)}(h:akN sps V)(hs:∀(k:Nat)(p:Sp),sps[k]? =some p→p.reads.Pairwise (· < ·)):∀{o:Option Nat}{t:Nat}{l:List (Nat×Nat)},apq sps o t l→
 (∀(k j:Nat)(p q:Sp),sps[k]? =some p→p.outer=some j→sps[j]? =some q→q.frm≤p.frm)→(∀(k:Nat)(p:Sp),o=some k→sps[k]? =some p→p.frm≤t)→
 ∀r,(∃x∈l,∃p,sps[x.1]? =some p∧r∈p.reads.take x.2)↔∃k,o=some k∧r∈(V.getD k []).filter fun r=>decide (r<t)
 |_,_,_,.nil,_,_,r=>by simp
 |some k,t,_,.cons (p:=p) (l:=l) hp hl,hfr,ht,r=>by
  have ih:=hl.mem h hs hfr (fun j q hj hq=>hfr k j p q hp hj hq) r
  have hpt:=ht k p rfl hp
  have hft:p.reads.take (p.reads.filter fun r=>decide (r<t)).length=p.reads.filter fun r=>decide (r<t):=by
   have hpw:=hs k p hp
   clear hp hl ih hpt
   generalize p.reads=m at hpw
   induction m with
   |nil=>rfl
   |cons a m ih=>
    rw[ag1]at hpw
    by_cases ha:a<t
    ·simp only[List.filter_cons,ha,decide_true,if_true,abJ,ac6]
     rw[ih hpw.2]
    ·have:m.filter (fun r=>decide (r<t))= []:=by
      rw[List.filter_eq_nil_iff]
      intro b hb
      have:=hpw.1 b hb
      simp;omega
     simp[ha,this]
  constructor
  ·rintro⟨x,hx,q,hq,hr⟩
   rcases abb.1 hx with rfl|hx
   ·rw[hp]at hq;injection hq with hq;subst hq
    simp only[hft,acD,decide_eq_true_eq]at hr
    refine⟨k,rfl,?_⟩
    rw[axc (h.eq k p hp),acD,decide_eq_true_eq]
    exact⟨aaG.2 (.inr hr.1),hr.2⟩
   ·obtain⟨j,hj,hm⟩:=ih.1 ⟨x,hx,q,hq,hr⟩
    refine⟨k,rfl,?_⟩
    rw[acD,decide_eq_true_eq]at hm
    rw[axc (h.eq k p hp),acD,decide_eq_true_eq]
    refine⟨aaG.2 (.inl ?_),by omega⟩
    rw[hj]
    simp only[acD,decide_eq_true_eq]
    exact hm
  ·rintro⟨k',hk',hm⟩
   injection hk' with hk'
   subst hk'
   rw[axc (h.eq k p hp),acD,decide_eq_true_eq]at hm
   rcases aaG.1 hm.1 with hm1|hm1
   ·cases hpo:p.outer with
    |none=>rw[hpo]at hm1;simp at hm1
    |some j=>
     rw[hpo]at hm1
     simp only at hm1
     obtain⟨x,hx,q,hq,hr⟩:=ih.2 ⟨j,hpo,hm1⟩
     exact⟨x,abq _ hx,q,hq,hr⟩
   ·exact⟨_,ac2,p,hp,by simp only[hft,acD,decide_eq_true_eq];exact⟨hm1,hm.2⟩⟩
theorem af5 {w:World}{base n:Nat}{e:TypeId}{size:Nat}{v:Value}{xs:List Value}(h:w.ownsRow base e size v n xs):∃p c,v= .slice p n c:=by
 rcases h.2 with⟨rfl,rfl⟩|⟨g,cap,cur,rfl,_⟩
 ·exact⟨_,_,rfl⟩
 ·exact⟨_,_,rfl⟩
theorem aMj {w:World}{base g n cap:Nat}{e:TypeId}{xs:List Value}(h:w.ownsRow base e 1 (.slice (some ⟨g,0,none⟩) (n+1) cap) (n+1) xs):w.ownsRow base e 1 (.slice (some ⟨g,0,none⟩) n cap) n (xs.take n):=by
 obtain⟨h1,h2⟩:=h
 rcases h2 with⟨h2,_⟩|⟨g',cap',cur,hv,hb,hg,hc,hm,hs,ht⟩
 ·cases h2
 ·cases hv
  refine⟨by rw[ahW,h1];omega,.inr ⟨g,cap,cur,rfl,hb,hg,by omega,hm,hs,?_⟩⟩
  rw[←ht,List.take_take,aj0,aj0,amj (ab5 _)]
theorem Fam.swap {base n:Nat}{W:World}{F:Nat→Value}{C:Nat→List Int}(h:Fam base W F C n){j:Nat}{v:Value}{c:List Int}(hr:W.ownsRow base 3 1 v c.length (ints c))(hb:v.ownBlock=(F j).ownBlock)(hj:j<n):
 Fam base W (fun k=>if k=j then v else F k) (fun k=>if k=j then c else C k) n:=by
 have key:∀k,(if k=j then v else F k).ownBlock=(F k).ownBlock:=by
  intro k
  by_cases e:k=j
  ·subst e;simp only[if_true];exact hb
  ·simp only[e,if_false]
 refine⟨fun k hk=>?_,fun i k b hi hk hik=>?_⟩
 ·by_cases e:k=j
  ·simp only[e,if_true];exact hr
  ·simp only[e,if_false];exact h.rows k hk
 ·show(if i=j then v else F i).ownBlock=some b→(if k=j then v else F k).ownBlock≠some b
  rw[key,key]
  exact h.apart i k b hi hk hik
section
variable {w W W':World}{B r m:Nat}{F:Nat→Value}{C:Nat→List Int}{rv:Value}
end
structure Marked (w W:World)(D:Nat)(wr:List Int):Prop where
 nD:w.heap.size≤D
 row:∃cur,W.heap[D]? =some (.cells cur 4 (0,0))∧cur.size=30000∧∀a:Int,0≤a→a<30000→cur[a.toNat]? =some (.bool (decide (a∈wr)))
section
variable {w W W':World}{D:Nat}{wr:List Int}
theorem Marked.same (h:Marked w W D wr)(hs:∀(o:Obj),W.heap[D]? =some o→bd9 o→W'.heap[D]? =some o):Marked w W' D wr:=by
 obtain⟨nD,cur,h1,h2,h3⟩:=h
 exact⟨nD,cur,hs _ h1 (bax (by decide) (by decide)),h2,h3⟩
theorem Marked.keeps (h:Marked w W D wr)(hk:Keeps W W'):Marked w W' D wr:=h.same fun _o ho _=>hk.at ho (fun x=>x)
theorem Marked.cell (h:Marked w W D wr){a:Int}(h0:0≤a)(h1:a<30000):W.cell? ⟨D,a.toNat,none⟩=some (.bool (decide (a∈wr))):=by
 obtain⟨nD,cur,hc,h2,h3⟩:=h
 rw[cell_of_block hc];exact h3 a h0 h1
theorem Marked.free (h:Marked w W D wr)(k:Nat):W.frozen? ⟨D,k,none⟩=false:=by
 obtain⟨nD,cur,hc,h2,h3⟩:=h
 exact abu hc k
theorem Marked.lt (h:Marked w W D wr):D<W.heap.size:=by
 obtain⟨nD,cur,hc,h2,h3⟩:=h
 exact acO hc
theorem Marked.mark (h:Marked w W D wr){a:Int}(h0:0≤a)(h1:a<30000):Marked w (W.setCell ⟨D,a.toNat,none⟩ (.bool true)) D (wr++ [a]):=by
 obtain⟨nD,cur,hc,h2,h3⟩:=h
 refine⟨nD,_,abV hc _,by simp[h2],fun b hb0 hb1=>?_⟩
 by_cases e:a=b
 ·subst e
  rw[abk (by omega)]
  simp
 ·rw[abN (by omega),h3 b hb0 hb1]
  have:(b∈wr++ [a])↔b∈wr:=by
   rw[aaG,aaW]
   exact⟨fun h=>h.resolve_right (fun x=>e x.symm),.inl⟩
  simp[this]
end
def al8 (wr:List Int)(i:Nat):List Int:=((List.range i).map fun a:Nat=>(a:Int)).filter fun a=>decide (a∈wr)
theorem axd (wr:List Int)(i:Nat):al8 wr (i+1)=al8 wr i++if (i:Int)∈wr then [(i:Int)] else []:=by
 unfold al8
 rw[List.range_succ,abH,akw]
 by_cases h:(i:Int)∈wr<;>simp[h]
theorem aPr (wr:List Int)(i:Nat):(al8 wr i).length≤i:=by
 have:=ah4 (fun a=>decide (a∈wr)) ((List.range i).map fun a:Nat=>(a:Int))
 simpa[al8]using this
def opens (s:St)(st:List Nat):List Int:=st.reverse.map (addrOf s)
def asH (evs:List Ev)(s:St)(st:List Nat):List (List Int):=st.reverse.map fun k=>(readsOf s k).map (addrAt evs)
theorem a2Z {s:St}{p:Sp}{st:List Nat}{t:Option Nat}{n:Nat}{l:List Nat}(h:∀k∈st,k<s.sps.length):∀k∈st,addrOf ⟨s.sps++ [p],t,n,l⟩ k=addrOf s k∧readsOf ⟨s.sps++ [p],t,n,l⟩ k=readsOf s k:=by
 intro k hk
 have:=h k hk
 simp only[addrOf,readsOf,aby this,and_self]
theorem aTL {evs:List Ev}{s s':St}{i:Nat}{e:Ev}{st:List Nat}{wr:List Int}(h:AtM evs i s st wr)(hs:s.step i e=some s')(hk:e.kind=1):
 opens s' (ajg s e st)=opens s st++ [e.addr]∧asH evs s' (ajg s e st)=asH evs s st++ [[]]∧an5 e wr=wr∧(ajg s e st).length=st.length+1:=by
 rcases alO hs with⟨k1,hany,rfl⟩|⟨k,p,htop,hp,k2,rfl⟩|⟨k,p,htop,hp,k3,hpa,rfl⟩
 ·have hst:ajg s e st=s.sps.length::st:=by simp[ajg,k1]
  have ho:=a2Z (s:=s) (p:=⟨i,0,s.top,e.addr,[]⟩) (t:=some s.sps.length) (n:=s.nodes+1) (l:=s.within++ [s.sps.length]) (st:=st.reverse) (fun k hk=>h.stack.lt k (List.mem_reverse.1 hk))
  rw[hst]
  refine⟨?_,?_,by simp[an5,k1],rfl⟩
  ·unfold opens
   rw[ajv,abH,aec fun k hk=>(ho k hk).1]
   simp[addrOf]
  ·unfold asH
   rw[ajv,abH,aec fun k hk=>by rw[(ho k hk).2]]
   simp[readsOf]
 ·omega
 ·omega
theorem AtM.head {evs:List Ev}{i:Nat}{s:St}{st:List Nat}{wr:List Int}(h:AtM evs i s st wr){k:Nat}{p:Sp}(htop:s.top=some k)(hp:s.sps[k]? =some p):∃l,st=k::l∧k∉l:=by
 obtain⟨l,hl,_⟩:=h.stack.top htop hp
 have hd:=h.dec
 rw[hl,ag1]at hd
 exact⟨l,hl,fun hm=>af9 _ (hd.1 k hm)⟩
theorem aTO {evs:List Ev}{s s':St}{i:Nat}{e:Ev}{st:List Nat}{wr:List Int}(h:AtM evs i s st wr)(he:evs[i]? =some e)(hs:s.step i e=some s')(hk:e.kind=2):
 ∃(l:List (List Int))(z:List Int),opens s' (ajg s e st)=opens s st∧asH evs s st=l++ [z]∧asH evs s' (ajg s e st)=l++ [z++ [e.addr]]∧an5 e wr=wr∧(ajg s e st).length=st.length∧z.length≤i:=by
 rcases alO hs with⟨k1,hany,rfl⟩|⟨k,p,htop,hp,k2,rfl⟩|⟨k,p,htop,hp,k3,hpa,rfl⟩
 ·omega
 ·obtain⟨l,hl,hkl⟩:=h.head htop hp
  have hst:ajg s e st=st:=by simp[ajg,k2]
  have hkk:=(aaq.1 hp).1
  have hself:(s.sps.set k {p with reads:=p.reads++ [i]})[k]? =some {p with reads:=p.reads++ [i]}:=adx hkk
  have hoth:∀j∈l.reverse,(s.sps.set k {p with reads:=p.reads++ [i]})[j]? =s.sps[j]? :=fun j hj=>adB fun e=>hkl (by rw[e];exact List.mem_reverse.1 hj)
  rw[hst,hl]
  refine⟨l.reverse.map fun j=>(readsOf s j).map (addrAt evs),p.reads.map (addrAt evs),?_,?_,?_,by simp[an5,k2],rfl,?_⟩
  ·unfold opens
   rw[ajv,abH,abH,aec fun j hj=>show addrOf ⟨s.sps.set k {p with reads:=p.reads++ [i]},some k,s.nodes+1,s.within++ [k]⟩ j=addrOf s j by simp only[addrOf,hoth j hj]]
   simp[addrOf,hself,hp]
  ·simp[asH,readsOf,hp]
  ·unfold asH
   rw[ajv,abH,aec fun j hj=>show(readsOf ⟨s.sps.set k {p with reads:=p.reads++ [i]},some k,s.nodes+1,s.within++ [k]⟩ j).map (addrAt evs)=(readsOf s j).map (addrAt evs) by simp only[readsOf,hoth j hj]]
   simp[readsOf,hself,addrAt,he]
  ·rw[afe];exact h.ok.reads k p hp
 ·omega
theorem aPt {evs:List Ev}{s s':St}{i:Nat}{e:Ev}{st:List Nat}{wr:List Int}(h:AtM evs i s st wr)(hs:s.step i e=some s')(hk:e.kind=3):
 ∃(l:List Int)(a:Int)(l2:List (List Int))(z:List Int),opens s st=l++ [a]∧opens s' (ajg s e st)=l∧asH evs s st=l2++ [z]∧asH evs s' (ajg s e st)=l2∧an5 e wr=wr++ [e.addr]∧st.length=(ajg s e st).length+1:=by
 rcases alO hs with⟨k1,hany,rfl⟩|⟨k,p,htop,hp,k2,rfl⟩|⟨k,p,htop,hp,k3,hpa,rfl⟩
 ·omega
 ·omega
 ·obtain⟨l,hl,hkl⟩:=h.head htop hp
  have hst:ajg s e st=l:=by simp[ajg,k3,hl]
  have hoth:∀j∈l.reverse,(s.sps.set k {p with to:=i})[j]? =s.sps[j]? :=fun j hj=>adB fun e=>hkl (by rw[e];exact List.mem_reverse.1 hj)
  rw[hst,hl]
  refine⟨l.reverse.map (addrOf s),p.addr,l.reverse.map fun j=>(readsOf s j).map (addrAt evs),p.reads.map (addrAt evs),by simp[opens,addrOf,hp],?_,by simp[asH,readsOf,hp],?_,by simp[an5,k3],rfl⟩
  ·unfold opens
   exact aec fun j hj=>by simp only[addrOf,hoth j hj]
  ·unfold asH
   exact aec fun j hj=>by simp only[readsOf,hoth j hj]
theorem aup (s:St)(st:List Nat):(opens s st).length=st.length:=by simp[opens]
theorem aTW (w:World)(base:Nat)(v:Value)(l:List Nat)(x:Nat)(h:w.ownsRow base 3 1 v l.length (nums l))(hs:l.Pairwise (· < ·))(hl:l.length≤1000000):
 Calls Tryz.prog 192 #[v,.int .i64 x] w fun e w'=>∃fb,e= .returned (.tuple #[.int .i64 ((l.filter fun r=>decide (r<x)).length:Nat),.bool fb])∧∃q,w'=w.drewN q:=by
 have hcnt:(l.map fun n:Nat=>(n:Int)).countP (· <(x:Int))=(l.filter fun r=>decide (r<x)).length:=by
  rw[List.countP_map,List.countP_eq_length_filter]
  congr 1
  refine ajt fun r _=>?_
  simp[Function.comp]
 rcases h.2 with⟨rfl,h2⟩|⟨g,cap,cur,hv,_,hg,hc,_⟩
 ·have hnil:l= []:=acU h2
  subst hnil
  refine(Tryz.slices_BinarySearch_int_empty none 0 x w).mono ?_
  rintro e w' ⟨rfl,rfl⟩
  exact⟨false,rfl,0,rfl⟩
 ·subst hv
  have hz:(l.map fun n:Nat=>(n:Int)).length=l.length:=by simp
  have htk:(l.map fun n:Nat=>(n:Int)).take l.length=l.map fun n:Nat=>(n:Int):=aiG (by simp)
  refine(Tryz.slices_BinarySearch_int g 0 l.length cap (l.map fun n:Nat=>(n:Int)) x w (by simp) (by omega) (fun j hj=>?_) ?_).mono ?_
  ·have hj':j<l.length:=by simpa using hj
   have h3:=h.cells (g:=g) rfl j (.int .i64 (l[j]:Nat)) (by simp[nums,hj'])
   rw[adI]
   have e1:(l.map fun n:Nat=>(n:Int)).getD j 0=(l[j]:Nat):=by simp[List.getD,hj']
   rw[e1]
   by_cases e:j=0
   ·subst e;simpa[Addr.add]using h3
   ·simpa[Addr.add,e]using h3
  ·rw[htk,List.pairwise_map]
   exact hs.imp (fun h=>by omega)
  ·rintro e w' ⟨rfl,q,rfl⟩
   rw[htk,hcnt]
   exact⟨_,rfl,q,rfl⟩
theorem aZF (w:World)(base b:Nat)(v:Value)(l:List Nat)(x:Nat)(hb:w.cell? ⟨b,3,none⟩=some v)(h:w.ownsRow base 3 1 v l.length (nums l))(hs:l.Pairwise (· < ·))(hl:l.length≤1000000):
 Calls Tryz.prog 140 #[.pointer (some ⟨b,0,none⟩),.int .i64 x] w fun e w'=>e= .returned (.int .i64 ((l.filter fun r=>decide (r<x)).length:Nat))∧∃q,w'=w.drewN q:=by
 have H:=aag (aTW w base v l x h hs hl)
 clear h hs
 go_enter Tryz.func140,Tryz.ntmps140
 go_wp2_with (go_at_call 192;refine H.out.mono ?_;rintro e w' ⟨fb,rfl,q,rfl⟩)
 go_ret
 exact⟨rfl,_,rfl⟩
theorem aPw {w:World}{base:Nat}{v:Value}{l:List Nat}(h:w.ownsRow base 3 1 v l.length (nums l)):∃p c,v= .slice p l.length c∧l.length≤c∧c≤maxLen∧∀(j x:Nat),l[j]? =some x→∃g,p=some ⟨g,0,none⟩∧w.cell? ⟨g,j,none⟩=some (.int .i64 x):=by
 rcases h.2 with⟨h1,h2⟩|⟨g,cap,cur,hv,_,hg,hc,hm,_⟩
 ·refine⟨none,0,by rw[h1,h2],by omega,ab6 _,fun j x hj=>?_⟩
  have:=(aaq.1 hj).1
  omega
 ·refine⟨some ⟨g,0,none⟩,cap,hv,hc,hm,fun j x hj=>⟨g,rfl,?_⟩⟩
  have h3:=h.cells (g:=g) (by rw[hv];rfl) j (.int .i64 x) (by simp[nums,hj])
  by_cases e:j=0
  ·subst e;simpa[Addr.add]using h3
  ·simpa[Addr.add,e]using h3
section
variable {w W W':World}{B r m:Nat}{F:Nat→Value}{C:Nat→List Int}{rv:Value}
end
end
section
open Go.RowKit Go.Shelf
theorem apq.step {sps:List Sp}:∀{o:Option Nat}{t:Nat}{wl:List (Nat×Nat)},apq sps o t wl→∀(i:Nat)(x:Nat×Nat),wl[i]? =some x→∃p,sps[x.1]? =some p∧
 ((p.outer=none∧wl[i+1]? =none)∨∃j q,p.outer=some j∧sps[j]? =some q∧wl[i+1]? =some (j,(q.reads.filter fun r=>decide (r<p.frm)).length))
 |_,_,_,.nil,i,x,h=>by simp at h
 |some k,t,_,.cons (p:=p) (l:=l) hp hl,i,x,h=>by
  cases i with
  |zero=>
   simp at h
   subst h
   refine⟨p,hp,?_⟩
   cases hpo:p.outer with
   |none=>
    rw[hpo]at hl
    cases hl
    exact .inl ⟨rfl,rfl⟩
   |some j=>
    rw[hpo]at hl
    cases hl with
    |cons hq hl2=>exact .inr ⟨j,_,rfl,hq,rfl⟩
  |succ i=>
   have h':l[i]? =some x:=by simpa using h
   obtain⟨q,hq,hs⟩:=hl.step i x h'
   exact⟨q,hq,by simpa using hs⟩
theorem apq.ex {sps:List Sp}(ho:∀(k:Nat)(p:Sp)(j:Nat),sps[k]? =some p→p.outer=some j→j<k):∀(k:Nat)(t:Nat),k<sps.length→∃wl,apq sps (some k) t wl:=by
 intro k
 induction k using Nat.strongRecOn with
 |_ k ih=>
  intro t hk
  have hp:=aaw hk
  cases hpo:(sps[k]).outer with
  |none=>exact⟨_,.cons hp (by rw[hpo];exact .nil)⟩
  |some j=>
   have hjk:=ho k _ j hp hpo
   obtain⟨wl,hw⟩:=ih j hjk (sps[k]).frm (by omega)
   exact⟨_,.cons hp (by rw[hpo];exact hw)⟩
theorem apq.head {sps:List Sp}{k t:Nat}{wl:List (Nat×Nat)}(h:apq sps (some k) t wl):∃p,sps[k]? =some p∧wl[0]? =some (k,(p.reads.filter fun r=>decide (r<t)).length):=by
 cases h with
 |cons hp hl=>exact⟨_,hp,rfl⟩
def alq (m:List (Int×Nat))(wl:List (Nat×Nat))(i:Nat):Value:= .pointer (aiC m (wl[i]?.map (·.1)))
def axe (m:List (Int×Nat))(bx:Nat)(W:World):Nat:=match W.cell? ⟨bx,0,none⟩with
 |some (.pointer (some a))=>m.findIdx (fun x=>x.2==a.block)+1
 |_=>0
end
section
open Go.RowKit Go.Shelf
attribute [local go_sem] ahs
theorem aTY {w0 wR:World}{ev:Value}{L M:Nat}{wv:Value}{m:List (Int×Nat)}{rf:Nat→Value}{sps:List Sp}{win:List Nat}(hR:ai1 w0 wR ev L M wv m rf sps win){wl:List (Nat×Nat)}{i:Nat}{x:Nat×Nat}(hx:wl[i]? =some x){p:Sp}(hp:sps[x.1]? =some p):
 ∃b,alq m wl i= .pointer (some ⟨b,0,none⟩)∧m[x.1]? =some (p.addr,b)∧wR.heap[b]? =some (aic m p (rf x.1)):=by
 obtain⟨b,h1,_,h2⟩:=hR.at hp
 exact⟨b,by simp[alq,hx,aiC,h1],h1,h2⟩
theorem aPx {m:List (Int×Nat)}{bx:Nat}{W:World}{o:Obj}(h:W.heap[bx]? =some o)(ho:o= .cells #[.pointer none] 94 (0,0)):axe m bx W=0:=by
 subst ho
 unfold axe
 rw[cell_of_block h];rfl
theorem aFB {m:List (Int×Nat)}{bx b k:Nat}{a:Int}{W:World}(h:W.heap[bx]? =some (.cells #[.pointer (some ⟨b,0,none⟩)] 94 (0,0)))(hm:m[k]? =some (a,b))(hn:(m.map (·.2)).Nodup):axe m bx W=k+1:=by
 unfold axe
 rw[cell_of_block h]
 show m.findIdx (fun x=>x.2==b)+1=k+1
 obtain⟨hk,hk2⟩:=aaq.1 hm
 have hle:m.findIdx (fun x=>x.2==b)=k:=by
  rw[List.findIdx_eq hk]
  refine⟨by rw[hk2];simp,fun j hj=>?_⟩
  have hjk:j<m.length:=by omega
  have hne:(m[j]).2≠b:=by
   intro e
   have h1:(m.map (·.2))[j]? =(m.map (·.2))[k]? :=by rw[abl,abl,hm,aaw hjk];simp[e]
   have:=(afC (by simpa using hjk) hn).1 h1
   omega
  simpa using hne
 rw[hle]
theorem a3b (nn l bx:Nat){w0 wR:World}{ev:Value}{L M:Nat}{wv:Value}{m:List (Int×Nat)}{rf:Nat→Value}{sps:List Sp}{win:List Nat}(hR:ai1 w0 wR ev L M wv m rf sps win)
 (hsrt:∀(k:Nat)(p:Sp),sps[k]? =some p→p.reads.Pairwise (· < ·)∧p.reads.length≤60000)(ho:∀(k:Nat)(p:Sp)(j:Nat),sps[k]? =some p→p.outer=some j→j<k)
 (k0 t:Nat)(wl:List (Nat×Nat))(hw:apq sps (some k0) t wl)(ht:∀p,sps[k0]? =some p→∀r∈p.reads,r<t)(J:Value→Nat→World→Prop)(Y:World→World→Prop)(JD:World→Prop)(W:World)
 (hm:∀s i W',J s i W'→Keeps wR W'∧W'.heap[bx]? =some (.cells #[s] 94 (0,0)))(hJd:∀s i W' q,J s i W'→J s i (W'.drewN q))(hJs:∀s i W' v,J s i W'→J v i (W'.setCell ⟨bx,0,none⟩ v))(h0:J (alq m wl 0) 0 W)
 (hY:∀s i W1 x,wl[i]? =some x→J s i W1→Yields l #[alq m wl i,.int .i64 x.2] W1 fun e W'=>(e= .returned (.bool true)∧J s (i+1) W'∧Y W1 W')∨(e= .returned (.bool false)∧JD W')):
 CallsIn Fence.wide nn Tryz.prog 145 #[.func (.yield l) #[] #[],.pointer (some ⟨bx,0,none⟩)] W fun e W'=>(∃v,e= .returned v)∧((∃s,J s wl.length W')∨JD W'):=by
 obtain⟨p0,hp0,hx0⟩:=hw.head
 obtain⟨b0,hb0,bGf,aFE⟩:=aTY hR hx0 hp0
 obtain⟨hk0,a3c⟩:=hm _ _ _ h0
 rw[hb0]at a3c
 have bvk:=hk0.at aFE (fun x=>x)
 obtain⟨pp,cc,hrf,hlc,hcm,_⟩:=aPw (hR.rows k0 p0 hp0)
 have e0:=cell_of_block a3c 0
 have e3:=cell_of_block bvk 3
 simp[aic]at e0 e3
 rw[hrf]at e3
 have hcnt:(p0.reads.filter fun r=>decide (r<t))=p0.reads:=ahw.2 fun r hr=>by simpa using ht p0 hp0 r hr
 rw[hcnt]at hx0
 have HX0:=aag hx0
 have HR:=aag hR
 have HW:=aag hw
 have HSr:=aag hsrt
 have HOo:=aag ho
 have HM:=aag hm
 have HJd:=aag hJd
 have HJs:=aag hJs
 have H0:=aag h0
 have HY:=aag hY
 clear hR hsrt ho hw ht hm hJd hJs h0 hY hp0 hx0 hb0 bGf aFE hk0 a3c bvk hrf hlc hcm hcnt
 refine callsIn_of_wp Tryz.func145 rfl trivial ?_ rfl
 simp only[Tryz.ntmps145,ajx,abJ,aeM,Nat.reduceAdd,Nat.reduceSub,ajE,ajI,akY,aj1,adt,acJ]
 gi_wp2
 clear e0 e3
 gi_loopw [3] (fun q wr=>∃i:Nat,i≤wl.length∧J (alq m wl i) i wr∧∀x,wl[i]? =some x→q= .int .i64 x.2) (fun _ wr=>axe m bx wr)
 case atStart=>
  refine⟨0,ab6 _,H0.out,fun x hx=>?_⟩
  rw[HX0.out]at hx
  injection hx with hx
  subst hx
  rfl
 case round=>
  obtain⟨i,hi,hJ,hq⟩:=hrel
  obtain⟨hk,hbox⟩:=HM.out _ _ _ hJ
  have HJ:=aag hJ
  have HK:=aag hk
  have HBx:=aag hbox
  clear hJ hk hbox
  by_cases hil:i<wl.length
  ·obtain⟨x,hx⟩ :∃x,wl[i]? =some x:=⟨wl[i],aaw hil⟩
   obtain⟨p,hp,hstep⟩:=HW.out.step i x hx
   obtain⟨b,hbp,hmb,aJ1⟩:=aTY HR.out hx hp
   have hqx:=hq x hx
   subst hqx
   have hbox:=HBx.out
   rw[hbp]at hbox
   have e0:=cell_of_block hbox 0
   simp at e0
   have hy:=HY.out _ i wr x hx HJ.out
   rw[hbp]at hy
   obtain⟨fn,tmps,assign,body,hy1,hRr⟩:=hy
   have HRr:=aag hRr
   have HX:=aag hx
   have HP:=aag hp
   have HSp:=aag aJ1
   have HBp:=aag hbp
   have HMb:=aag hmb
   have HSt:=aag hstep
   clear hRr hx hp aJ1 hbp hmb hstep hbox hq
   gi_wp2
   refine⟨fun h=>by simp[Fence.wide]at h,(aBQ _ HRr.out).mono ?_⟩
   rintro _ W3 (⟨rfl,hJ3,_⟩|⟨rfl,hJD⟩)
   rotate_left
   ·have HJD:=aag hJD
    clear hJD e0
    gi_wp2
    go_end0
    exact⟨⟨_,rfl⟩,.inr HJD.out⟩
   obtain⟨hk3,aXn⟩:=HM.out _ _ _ hJ3
   have bmd:=hk3.at HSp.out (fun x=>x)
   have g0:=cell_of_block aXn 0
   have g1:=cell_of_block bmd 0
   have g2:=cell_of_block bmd 2
   have gf:=abu aXn 0
   simp[aic]at g0 g1 g2
   have HJ3:=aag hJ3
   have HK3:=aag hk3
   have HB3:=aag aXn
   have aT6:=HBx.out
   rw[HBp.out]at aT6
   have HML:=aag (aFB aT6 HMb.out HR.out.bnd)
   clear hJ3 hk3 aXn bmd e0 aT6
   rcases HSt.out with⟨hpo,hnext⟩|⟨j,q,hpo,hqq,hnext⟩
   ·rw[hpo]at g2
    simp[aiC]at g2
    have HNx:=aag hnext
    clear hnext hpo
    gi_wp2
    go_roundw
    case rel=>
     refine⟨i+1,by omega,?_,fun x hx=>by rw[HNx.out]at hx;cases hx⟩
     have e1:alq m wl (i+1)= .pointer none:=by simp[alq,HNx.out,aiC]
     rw[e1]
     exact HJs.out _ _ _ _ HJ3.out
    case measure=>
     rw[HML.out,aPx (abV HB3.out _) rfl]
     omega
   ·obtain⟨bj,hmj,_,bvm⟩:=HR.out.at hqq
    have bec:=HK3.out.at bvm (fun x=>x)
    have g3:=cell_of_block bec 3
    simp[aic]at g3
    have hrow3:W3.ownsRow w0.heap.size 3 1 (rf j) q.reads.length (nums q.reads):=ac5 (HR.out.rows j q hqq) fun g hg=>HK3.out.block g ((HR.out.rows j q hqq).lt g hg).2 (fun x=>x)
    have HBf:=aag (fun mq=>aZF (W3.drewN mq) w0.heap.size bj (rf j) q.reads p.frm g3 (ac5 hrow3 fun _ _=>rfl) (HSr.out j q hqq).1 (aa7 (HSr.out j q hqq).2 (by decide)))
    have e1:alq m wl (i+1)= .pointer (some ⟨bj,0,none⟩):=by simp[alq,hnext,aiC,hmj]
    have hjk:=HOo.out x.1 p j HP.out hpo
    rw[hpo]at g2
    simp[aiC,hmj]at g2
    have HNx:=aag hnext
    have HE1:=aag e1
    have HMj:=aag hmj
    clear hnext hpo hqq hmj bvm bec g3 hrow3 e1
    gi_wp2
    refine wpIn_wide.2 ?_
    go_quiet ((go_at_call 140;refine Calls.quiet_of (HBf.out _)))
    gi_wp2
    go_roundw
    case rel=>
     refine⟨i+1,by omega,?_,fun y hy=>?_⟩
     ·rw[HE1.out]
      exact HJs.out _ _ _ _ (HJd.out _ _ _ _ HJ3.out)
     ·rw[HNx.out]at hy
      injection hy with hy
      subst hy
      rfl
    case measure=>
     rw[HML.out,aFB (abV (w:=W3.drewN nq) HB3.out _) HMj.out HR.out.bnd]
     omega
  ·obtain rfl:i=wl.length:=by omega
   have hbox:=HBx.out
   have hnil:alq m wl wl.length= .pointer none:=by simp[alq,aiC]
   rw[hnil]at hbox
   have e0:=cell_of_block hbox 0
   simp at e0
   gi_wp2
   all_goals
    refine⟨fun _ _=>trivial,?_⟩
    gi_wp2
    go_end0
    exact⟨⟨_,rfl⟩,.inl ⟨_,HJ.out⟩⟩
end
section
open Go.RowKit Go.Shelf
section
variable {l n:Nat}{P:Program}{K:Act→World→Prop}{Q:Exit→Act→World→Prop}
theorem aT8 {o:Oper}{a:Act}{w:World}(hdef:∀c,o.op≠ .defer c)(h:o.wp P a w K Q):o.wpIn (Fence.wide.inRound l) n P a w K Q:=by
 unfold Oper.wpIn
 unfold Oper.wp at h
 refine⟨fun f _=>trivial,?_⟩
 rw[show(Fence.wide.inRound l).round=some l from rfl,ahs l _ o hdef]
 generalize (execOp a.eval o).run P w=r at h ⊢
 cases r with
 |ok x w'=>
  cases x<;>first
   |exact h
   |exact h.elim
   |exact⟨fun h=>by simp[Fence.wide]at h,(callsIn_wide (n:=n - 1)).2 h⟩
   |exact⟨fun h=>by simp[Fence.wide]at h,fun c cs _=>let ⟨v,w',r,s⟩:=h c cs;⟨v,w',r,stepsIn_wide.2 s⟩⟩
 |halt x w'=>
  cases x<;>exact h
theorem aur {ops:Array Oper}(hdef:∀(i:Nat)(o:Oper),ops[i]? =some o→∀c,o.op≠ .defer c)(hq:¬LetsOut Q):∀(fuel:Nat)(listed:Array Bool)(a:Act)(w:World),wpAny P .any ops Q fuel listed a w→wpAnyIn (Fence.wide.inRound l) n P .any ops Q fuel listed a w
 |0,_,_,_,h=>h
 |fuel+1,listed,a,w,h=>by
  refine⟨h.1,fun i hi=>?_⟩
  have h1:=h.2 i hi
  unfold wpOp at h1
  unfold wpOpIn
  cases ho:ops[i]? with
  |none=>
   rw[ho]at h1
   exact aur hdef hq fuel _ a w h1
  |some o=>
   rw[ho]at h1
   simp only at h1 ⊢
   split at h1
   ·rename_i hw
    rw[if_pos hw]
    rcases h1 with h1|⟨_,h1⟩
    ·exact aT8 (hdef i o ho) (Oper.wp_mono (fun a' w'=>aur hdef hq fuel _ a' w') h1)
    ·exact absurd h1 hq
   ·rename_i hw
    rw[if_neg hw]
    exact⟨fun f _=>trivial,aur hdef hq fuel _ _ _ h1⟩
def baA (ops:Array Oper):Bool:=ops.toList.all fun o=>match o.op with| .defer _=>false|_=>true
theorem aMn {ops:Array Oper}(h:baA ops=true):∀(i:Nat)(o:Oper),ops[i]? =some o→∀c,o.op≠ .defer c:=by
 intro i o ho c hc
 have h1:=acg.1 h o (by rw[←Array.getElem?_toList]at ho;exact aaH ho)
 rw[hc]at h1
 cases h1
theorem aMo {ops:Array Oper}{id:Nat}{a:Act}{w:World}(hm:P.follows .mixedOrders=true)(hdef:∀(i:Nat)(o:Oper),ops[i]? =some o→∀c,o.op≠ .defer c)(hq:¬LetsOut Q)
 (h:wpAny P .any ops Q ops.size (Array.replicate ops.size false) a w.drew):(Code.region id ops true).wpIn (Fence.wide.inRound l) n P Q a w:=
 wpIn_region_any hm (aur hdef hq _ _ _ _ h)
end
section
open Go.Lib
theorem aFF {d:Array Int}(hs:∀j:Nat,0<j→j<d.size→d[j - 1]! ≤d[j]!):∀m:Nat,m≤d.size→
 (compactUpTo d m).Pairwise (· < ·)∧(∀a,a∈compactUpTo d m↔∃j,j<m∧d[j]! =a)∧∀a∈compactUpTo d m,0<m∧a≤d[m - 1]!
 |0,_=>by simp[compactUpTo]
 |m+1,hm=>by
  obtain⟨h1,h2,h3⟩:=aFF hs m (by omega)
  rw[compactUpTo_succ]
  by_cases hk:keeps d m=true
  ·rw[if_pos hk]
   have hlt:∀a∈compactUpTo d m,a<d[m]! :=by
    intro a ha
    obtain⟨h0,hle⟩:=h3 a ha
    have hne:d[m]! ≠d[m - 1]! :=by
     simp only[keeps,decide_eq_true_eq]at hk
     rcases hk with hk|hk
     ·omega
     ·exact hk
    have:=hs m h0 (by omega)
    omega
   refine⟨?_,fun a=>?_,fun a ha=>?_⟩
   ·rw[alx]
    exact⟨h1,by simp,fun x hx y hy=>by rw[aaW]at hy;subst hy;exact hlt x hx⟩
   ·rw[aaG,h2,aaW]
    constructor
    ·rintro(⟨j,hj,e⟩|rfl)
     ·exact⟨j,by omega,e⟩
     ·exact⟨m,by omega,rfl⟩
    ·rintro⟨j,hj,e⟩
     by_cases hjm:j<m
     ·exact .inl ⟨j,hjm,e⟩
     ·have:j=m:=by omega
      subst this;exact .inr e.symm
   ·refine⟨by omega,?_⟩
    rw[Nat.add_sub_cancel]
    rcases aaG.1 ha with ha|ha
    ·have:=hlt a ha;omega
    ·rw[aaW]at ha;subst ha;exact Int.le_refl _
  ·have hk':keeps d m=false:=by simpa using hk
   rw[hk']
   simp only[acf,if_false,aht]
   have hm0:m≠0∧d[m]! =d[m - 1]! :=by
    simp only[keeps,decide_eq_false_iff_not,not_or,Decidable.not_not]at hk'
    exact hk'
   refine⟨h1,fun a=>?_,fun a ha=>?_⟩
   ·rw[h2]
    constructor
    ·rintro⟨j,hj,e⟩;exact⟨j,by omega,e⟩
    ·rintro⟨j,hj,e⟩
     by_cases hjm:j<m
     ·exact⟨j,hjm,e⟩
     ·have:j=m:=by omega
      subst this
      exact⟨j - 1,by omega,by rw[←hm0.2];exact e⟩
   ·rw[Nat.add_sub_cancel,hm0.2]
    exact⟨by omega,(h3 a ha).2⟩
theorem aFG {zs:List Int}(hs:zs.Pairwise (· ≤ ·)):(compact zs).Pairwise (· < ·)∧∀a,a∈compact zs↔a∈zs:=by
 have h:=aFF (d:=zs.toArray) (fun j h0 hj=>by
  have hj':j<zs.length:=by simpa using hj
  have e1:zs.toArray[j]! =zs[j]:=by simp[hj']
  have e2:zs.toArray[j - 1]! =zs[j - 1]'(by omega):=by simp[show j - 1<zs.length by omega]
  rw[e1,e2]
  exact(List.pairwise_iff_getElem.1 hs) (j - 1) j (by omega) hj' (by omega)) zs.length (by simp)
 refine⟨h.1,fun a=>?_⟩
 unfold compact
 rw[h.2.1]
 constructor
 ·rintro⟨j,hj,e⟩
  have:zs.toArray[j]! =zs[j]:=by simp[hj]
  rw[←e,this];exact List.getElem_mem hj
 ·intro ha
  obtain⟨j,hj,e⟩:=aj2 ha
  exact⟨j,hj,by simp[hj,e]⟩
theorem aPz {zs:List Int}:(compact zs).length≤zs.length:=by
 unfold compact compactUpTo
 rw[afe]
 exact aa7 (ah4 _ _) (by simp)
end
theorem aJ4 (cur:Array Value)(ts:List Int):(Go.Sort.putCells (Value.int .i64) 0 ts.toArray cur).size=cur.size:=by simp[Go.Sort.putCells]
def rise (l:List Int):List Int:=Lib.compact (l.mergeSort fun x y=>decide (x≤y))
theorem aZP (l:List Int):(l.mergeSort fun x y=>decide (x≤y)).Pairwise (· ≤ ·):=
 (List.pairwise_mergeSort (le:=fun x y:Int=>decide (x≤y)) (fun a b c h1 h2=>by simp at*;omega) (fun a b=>by simp;omega) l).imp (fun h=>by simpa using h)
theorem aXq (l:List Int):(rise l).Pairwise (· < ·)∧∀a,a∈rise l↔a∈l:=by
 obtain⟨h1,h2⟩:=aFG (aZP l)
 exact⟨h1,fun a=>(h2 a).trans (List.mergeSort_perm l _).mem_iff⟩
theorem aFI {l:List Int}(h:∀a∈l,0≤a∧a<30000):rise l=slots l:=by
 obtain⟨h1,h2⟩:=aXq l
 refine aFz h1 ((aPp _).filter _) fun a=>?_
 rw[h2,aJZ]
 exact⟨fun ha=>⟨h a ha,ha⟩,fun ha=>ha.2⟩
open Go.Sort in
theorem aZQ (w:World)(base:Nat)(v:Value)(l:List Int)(h:w.ownsRow base 3 1 v l.length (ints l))(hl:l.length≤1000000000000):
 Calls Tryz.prog 46 #[v] w fun e w'=>∃v',e= .returned v'∧w'.ownsRow base 3 1 v' (rise l).length (ints (rise l))∧v'.ownBlock=v.ownBlock∧Kept (fun b=>v.ownBlock=some b) w w':=by
 rcases h.2 with⟨rfl,h2⟩|⟨g,cap,cur,rfl,hbase,hg,hc,hcm,hcs,htake⟩
 ·have hnil:l= []:=acU h2
  subst hnil
  have H1:=aag (Tryz.slices_Sort_int_none none 0)
  have H2:=aag (Tryz.slices_Compact_int_empty none 0)
  clear h h2
  go_enter Tryz.func46,Tryz.ntmps46
  go_wp2_with fail
  refine(H1.out _).mono ?_
  rintro _ w1 ⟨rfl,rfl⟩
  go_wp2_with fail
  refine(H2.out _).mono ?_
  rintro _ w2 ⟨rfl,rfl⟩
  go_wp2
  go_ret
  have e0:rise []= []:=by simp[rise,Lib.compact,Lib.compactUpTo]
  rw[e0]
  exact⟨_,rfl,acW _ _ _ _,rfl,Kept.refl _ _⟩
 ·have hH:=holds_of_blockI hg (by rw[aj0]at htake;exact htake)
  have hlts:(l.mergeSort (fun x y=>decide (x≤y))).length=l.length:=List.length_mergeSort _
  have H1:=aag (Tryz.slices_Sort_int g 0 cap l w hH (acO hg) (by omega))
  have H2:=aag (fun(q:Nat)(os:Array Obj)=>heap_sortedI (n:=q) (os:=os) (l.mergeSort (fun x y=>decide (x≤y))).toArray hg)
  have H3:=aag (fun(q:Nat)(os:Array Obj)=>grownBy_sortedI (w:=w) (g:=g) (n:=q) (os:=os) (l.mergeSort (fun x y=>decide (x≤y))).toArray)
  have H4:=aag (take_putCellsI cur (l.mergeSort (fun x y=>decide (x≤y))) (by omega))
  have H5:=aag hlts
  have H6:=aag hcs
  clear h hg hH htake hlts
  go_enter Tryz.func46,Tryz.ntmps46
  go_wp2_with fail
  refine H1.out.mono ?_
  rintro _ w1 ⟨rfl,q,os,hw1⟩
  have hb1:=H2.out q os
  have hg1:=H3.out q os
  rw[←hw1]at hb1 hg1
  have bme:=aJ4 cur (l.mergeSort (fun x y=>decide (x≤y)))
  generalize hcur:Go.Sort.putCells (Value.int .i64) 0 (l.mergeSort (fun x y=>decide (x≤y))).toArray cur=bGg at hb1 bme
  have ht1:=H4.out
  rw[hcur]at ht1
  have HC:=aag (Tryz.slices_Compact_int g 0 cap (l.mergeSort (fun x y=>decide (x≤y))) w1 (holds_of_blockI hb1 ht1) (by rw[H5.out];omega) (by rw[H5.out];exact hc))
  rw[H5.out]at HC
  have HB1:=aag hb1
  have HG1:=aag hg1
  have HCl:=aag bme
  clear hb1 hg1 hw1 hcur ht1 bme
  go_wp2_with fail
  refine HC.out.mono ?_
  rintro _ w2 ⟨rfl,q2,hw2⟩
  rw[←Go.Sort.grow_empty (Go.Sort.putRow _ _ _ _ _)]at hw2
  have hb2:=heap_sortedI (n:=q2) (os:=#[]) (Lib.compact (l.mergeSort (fun x y=>decide (x≤y)))++List.replicate (l.length - (Lib.compact (l.mergeSort (fun x y=>decide (x≤y)))).length) 0).toArray HB1.out
  have hg2:=grownBy_sortedI (w:=w1) (g:=g) (n:=q2) (os:=#[]) (Lib.compact (l.mergeSort (fun x y=>decide (x≤y)))++List.replicate (l.length - (Lib.compact (l.mergeSort (fun x y=>decide (x≤y)))).length) 0).toArray
  rw[←hw2]at hb2 hg2
  have HB2:=aag hb2
  have HG2:=aag hg2
  clear hb2 hg2 hw2
  go_wp2
  go_ret
  have hrl:(rise l).length≤l.length:=by
   have:=aPz (zs:=l.mergeSort (fun x y=>decide (x≤y)))
   rw[H5.out]at this
   exact this
  refine⟨_,rfl,⟨by simp[ints],.inr ⟨g,cap,_,rfl,hbase,HB2.out,by omega,hcm,?_,?_⟩⟩,rfl,Kept.trans ((Kept.refl _ w).grown HG1.out (fun b hb _=>hb)) ((Kept.refl _ w1).grown HG2.out (fun b hb _=>hb)) (fun _ _ h=>h)⟩
  ·rw[aJ4,HCl.out,H6.out]
  ·have h9:=take_putCellsI bGg (Lib.compact (l.mergeSort (fun x y=>decide (x≤y)))++List.replicate (l.length - (Lib.compact (l.mergeSort (fun x y=>decide (x≤y)))).length) 0) (by
    rw[HCl.out,H6.out,aa1,List.length_replicate]
    have h8:(Lib.compact (l.mergeSort (fun x y=>decide (x≤y)))).length≤l.length:=hrl
    omega)
   have h7:=congrArg (List.take (rise l).length) h9
   rw[List.take_take,abH,List.take_append_of_le_length (by simp[rise]),amj (by simp[rise])]at h7
   rw[aj0,h7,aiG (by simp[rise])]
   rfl
end
section
open Go.RowKit Go.Shelf
attribute [local go_sem] ahs
theorem baE (w:World)(p:Option Addr):Calls Tryz.prog 95 #[.pointer p] w fun e w'=>e= .returned (.func (.func 145) #[] #[.pointer (some ⟨w.heap.size,0,none⟩)])∧w'=w.alloc (.cells #[.pointer p] 94):=by
 go_enter Tryz.func95,Tryz.ntmps95
 go_wp2
 go_ret
 exact⟨rfl,rfl⟩
def aPA (evs:List Ev)(f:St)(wl:List (Nat×Nat))(i:Nat):List Int:=(wl.take i).flatMap fun x=>((readsOf f x.1).take x.2).map (addrAt evs)
def a3e (wl:List (Nat×Nat))(i:Nat):Value:=match wl[i]? with|some x=> .int .i64 x.2|none=>undef
theorem aXr {wl:List (Nat×Nat)}{i:Nat}{x:Nat×Nat}(h:wl[i]? =some x):a3e wl i= .int .i64 x.2:=by unfold a3e;rw[h]
section
variable {w W:World}{bl Bo bx L:Nat}{G:List Int}{s:Value}
end
theorem apq.cnt {sps:List Sp}:∀{o:Option Nat}{t:Nat}{wl:List (Nat×Nat)},apq sps o t wl→∀(i:Nat)(x:Nat×Nat),wl[i]? =some x→∀p,sps[x.1]? =some p→x.2≤p.reads.length
 |_,_,_,.nil,i,x,h,_,_=>by simp at h
 |_,_,_,.cons (p:=p) hp hl,i,x,h,q,hq=>by
  cases i with
  |zero=>
   simp at h
   subst h
   rw[hp]at hq;injection hq with hq;subst hq
   exact ah4 _ _
  |succ i=>exact hl.cnt i x (by simpa using h) q hq
theorem aEa {P:Program}{w:World}{ops:Array Oper}{o:Oper}{a:Act}{K:Act→World→Prop}{Q:Exit→Act→World→Prop}{E:Prop}(hgd:o.guard=none)(s x:Operand)(t:TypeId)
 (ho:o.op= .call {callee:= .builtin .append,args:=#[s,x],argTypes:=#[t,t]})(base bvo:Nat)(e:TypeId)(i:TypeInfo)(z:Value)(bytes:Nat)(ht:P.underlying t=some (.slice e))(hi:P.info? e=some i)(hz:i.zero=some z)
 (hsize:i.size=1)(hby:i.bytes=bytes)(hzs:z.cells.size=1)(v:Value)(n:Nat)(xs:List Value)(hs:a.eval s=v)(hown:w.ownsRow base e 1 v n xs)
 (xv:Value)(m:Nat)(news:List Value)(hx:a.eval x=xv)(hown2:w.ownsRow bvo e 1 xv m news)(h1:∀u∈news,u.oneCell'=true)
 (h63:n+m≤maxLen)(hbytes:(n+m)*bytes≤140737488355328)(hbase:base≤w.heap.size)
 (h:∀v' w',w'.ownsRow base e 1 v' (n+m) (xs++news)→w.grownBy w' v.ownBlock→(v'.ownBlock=v.ownBlock∨v'.ownBlock=some w.heap.size)→K (a.put o.dst v') w'):
 if Region.wanted o (yielded ops a.tmps)=true then Oper.wp P o a w K Q else E:=by
 have hw:Region.wanted o (yielded ops a.tmps)=true:=by simp[Region.wanted,hgd]
 rw[if_pos hw]
 rcases hown2.2 with⟨rfl,hm0⟩|⟨g,cap,cur,rfl,_,hg,hc,_⟩
 ·have hnil:news= []:=acU (by rw[hown2.1,hm0])
  subst hm0 hnil
  have hrun:=run_append_owned_none (P:=P) (w:=w) base t o.type e i 1 ht hi v n xs hown
  unfold Oper.wp
  simp[execOp,ho,resolve,invoke,builtin,hs,hx,hrun,Result.andThen]
  exact h v w (by rw[aht];exact hown) ⟨rfl,rfl,rfl,aai _,fun _ _ _=>rfl⟩ (.inl rfl)
 ·obtain⟨v',w',hr,h2,h3,h4,h5⟩:=run_append_own_at (P:=P) w base t o.type e i z 1 bytes ht hi hz hsize hby hzs (by decide) v n xs hown ⟨g,0,none⟩ m cap news hown2.1 (fun j u hj=>hown2.cells (g:=g) rfl j u hj) h1 h63 hbytes hbase
  unfold Oper.wp execOp
  simp only[ho,resolve,invoke,builtin,aa0,abA,aay,List.map_toArray,acv,aiy,hs,hx,hr]
  exact h v' w' h2 h3 h5
theorem Fam.more {base n:Nat}{W W':World}{F:Nat→Value}{C:Nat→List Int}(h:Fam base W F C n)(hk:Keeps W W'){v:Value}{c:List Int}(hr:W'.ownsRow base 3 1 v c.length (ints c))(hat:∀b,v.ownBlock=some b→W.heap.size≤b):
 Fam base W' (fun k=>if k=n then v else F k) (fun k=>if k=n then c else C k) (n+1):=by
 have h':=h.keeps hk
 refine⟨fun k hk=>?_,fun j k b hj hk hjk hb=>?_⟩
 ·by_cases e:k=n
  ·simp only[e,if_true];exact hr
  ·simp only[e,if_false];exact h'.rows k (by omega)
 ·by_cases e:j=n
  ·simp only[e,if_true]at hb
   have e2:¬k=n:=fun x=>hjk (by rw[e,x])
   simp only[e2,if_false]
   intro hkb
   have h1:=hat b hb
   have h2:=((h.rows k (by omega)).lt b hkb).2
   omega
  ·simp only[e,if_false]at hb
   by_cases e2:k=n
   ·simp only[e2,if_true]
    intro hkb
    have h1:=hat b hkb
    have h2:=((h.rows j (by omega)).lt b hb).2
    omega
   ·simp only[e2,if_false];exact h'.apart j k b (by omega) (by omega) hjk hb
structure aeO (w W:World)(B:Nat)(ads:List Int)(F:Nat→Value)(C:Nat→List Int):Prop where
 kept:Keeps w W
 nB:w.heap.size≤B
 fam:Fam w.heap.size W F C (ads.length+1)
 great:∃cur,W.heap[B]? =some (.cells cur 31 (0,0))∧cur.size=30000∧(∀(k:Nat)(a:Int),ads[k]? =some a→cur[a.toNat]? =some (F (k+1)))∧∀a:Int,0≤a→a<30000→a∉ads→cur[a.toNat]? =some (.slice none 0 0)
 addr:∀a∈ads,0≤a∧a<30000
 nd:ads.Nodup
section
variable {w W W':World}{B:Nat}{ads:List Int}{F:Nat→Value}{C:Nat→List Int}
theorem aeO.ne (h:aeO w W B ads F C){k b:Nat}(hk:k<ads.length+1)(hb:(F k).ownBlock=some b):b≠B:=by
 obtain⟨⟨cur,hc⟩,_⟩:=h.fam.block hk hb
 obtain⟨cu2,hc2,_⟩:=h.great
 intro e
 rw[e,hc2]at hc
 simp at hc
theorem aeO.keeps (h:aeO w W B ads F C)(hk:Keeps W W'):aeO w W' B ads F C:=by
 obtain⟨cur,h1,h2⟩:=h.great
 exact⟨Keeps.trans h.kept hk,h.nB,h.fam.keeps hk,⟨cur,hk.at h1 (fun x=>x),h2⟩,h.addr,h.nd⟩
theorem aeO.cell (h:aeO w W B ads F C){k:Nat}{a:Int}(ha:ads[k]? =some a):W.cell? ⟨B,a.toNat,none⟩=some (F (k+1)):=by
 obtain⟨cur,h1,_,h3,_⟩:=h.great
 rw[cell_of_block h1];exact h3 k a ha
theorem aeO.bare (h:aeO w W B ads F C){a:Int}(h0:0≤a)(h1:a<30000)(ha:a∉ads):W.cell? ⟨B,a.toNat,none⟩=some (.slice none 0 0):=by
 obtain⟨cur,h2,_,_,h4⟩:=h.great
 rw[cell_of_block h2];exact h4 a h0 h1 ha
theorem aeO.free (h:aeO w W B ads F C)(o:Nat):W.frozen? ⟨B,o,none⟩=false:=by
 obtain⟨cur,h1,_⟩:=h.great
 exact abu h1 o
theorem aeO.lt (h:aeO w W B ads F C):B<W.heap.size:=by
 obtain⟨cur,h1,_⟩:=h.great
 exact acO h1
theorem aeO.opn (h:aeO w W B ads F C){v:Value}{x:Int}{o:Obj}(hg:(W.alloc o).grownBy W' (F 0).ownBlock)(hr:W'.ownsRow w.heap.size 3 1 v ((C 0).length+1) (ints (C 0)++ [.int .i64 x]))
 (hat:v.ownBlock=(F 0).ownBlock∨v.ownBlock=some (W.alloc o).heap.size):aeO w W' B ads (fun k=>if k=0 then v else F k) (fun k=>if k=0 then C 0++ [x] else C k):=by
 have hk:Kept (fun b=>(F 0).ownBlock=some b) W W':=((Kept.refl _ W).alloc o).grown hg (fun b hb _=>hb)
 have hat':v.ownBlock=(F 0).ownBlock∨∃g,v.ownBlock=some g∧W.heap.size≤g:=by
  rcases hat with e|e
  ·exact .inl e
  ·exact .inr ⟨_,e,by rw[aaS];exact ab5 _⟩
 obtain⟨cur,h1,h2,h3,h4⟩:=h.great
 refine⟨Kept.trans h.kept hk (fun b hb hb2=>by have:=(h.fam.block (aiA _) hb2).2;omega),h.nB,h.fam.app (aiA _) hk hr hat',⟨cur,hk.at h1 (fun e=>h.ne (aiA _) e rfl),h2,fun k a ha=>?_,h4⟩,h.addr,h.nd⟩
 show _=some (if k+1=0 then v else F (k+1))
 rw[if_neg (by omega)];exact h3 k a ha
theorem aeO.shut (h:aeO w W B ads F C){g n cap:Nat}(hF:F 0= .slice (some ⟨g,0,none⟩) (n+1) cap)(hn:(C 0).length=n+1):
 aeO w W B ads (fun k=>if k=0 then .slice (some ⟨g,0,none⟩) n cap else F k) (fun k=>if k=0 then (C 0).take n else C k):=by
 have hr:=h.fam.rows 0 (aiA _)
 rw[hF,hn]at hr
 obtain⟨cur,h1,h2,h3,h4⟩:=h.great
 refine⟨h.kept,h.nB,h.fam.swap ?_ (by rw[hF];rfl) (aiA _),⟨cur,h1,h2,fun k a ha=>?_,h4⟩,h.addr,h.nd⟩
 ·have e1:((C 0).take n).length=n:=by rw[ahW,hn];omega
  have e2:ints ((C 0).take n)=(ints (C 0)).take n:=by simp[ints]
  rw[e1,e2];exact aMj hr
 ·show _=some (if k+1=0 then _ else F (k+1))
  rw[if_neg (by omega)];exact h3 k a ha
theorem aeO.seen (h:aeO w W B ads F C){k:Nat}{a:Int}(ha:ads[k]? =some a){v:Value}{x:Int}{o:Obj}(hg:(W.alloc o).grownBy W' (F (k+1)).ownBlock)(hr:W'.ownsRow w.heap.size 3 1 v ((C (k+1)).length+1) (ints (C (k+1))++ [.int .i64 x]))
 (hat:v.ownBlock=(F (k+1)).ownBlock∨v.ownBlock=some (W.alloc o).heap.size):
 aeO w (W'.setCell ⟨B,a.toNat,none⟩ v) B ads (fun j=>if j=k+1 then v else F j) (fun j=>if j=k+1 then C (k+1)++ [x] else C j):=by
 have hkl:=(aaq.1 ha).1
 have hk:Kept (fun b=>(F (k+1)).ownBlock=some b) W W':=((Kept.refl _ W).alloc o).grown hg (fun b hb _=>hb)
 have hat':v.ownBlock=(F (k+1)).ownBlock∨∃g,v.ownBlock=some g∧W.heap.size≤g:=by
  rcases hat with e|e
  ·exact .inl e
  ·exact .inr ⟨_,e,by rw[aaS];exact ab5 _⟩
 obtain⟨cur,h1,h2,h3,h4⟩:=h.great
 have h1':W'.heap[B]? =some (.cells cur 31 (0,0)):=hk.at h1 (fun e=>h.ne (by omega) e rfl)
 have hks:Kept (fun b=>b=B) W' (W'.setCell ⟨B,a.toNat,none⟩ v):=(Kept.refl (fun b=>b=B) W').one1 _ v
 have hab:=h.addr a (aaH ha)
 refine⟨Kept.aD5 (Kept.trans h.kept hk (fun b hb hb2=>by have:=(h.fam.block (by omega) hb2).2;omega)) h.nB _ _,h.nB,(h.fam.app (by omega) hk hr hat').other h1' (by decide) hks,⟨_,abV h1' _,by simp[h2],fun j b hb=>?_,fun b hb0 hb1 hb=>?_⟩,h.addr,h.nd⟩
 ·by_cases e:j=k
  ·subst e
   rw[ha]at hb;injection hb with hb;subst hb
   rw[abk (by omega),if_pos rfl]
  ·have hne:b≠a:=fun e2=>e ((afC (aaq.1 hb).1 h.nd).1 (by rw[hb,ha,e2]))
   have hbb:=h.addr b (aaH hb)
   rw[abN (by omega)]
   show _=some (if j+1=k+1 then v else F (j+1))
   rw[if_neg (by omega)];exact h3 j b hb
 ·have hne:b≠a:=fun e2=>hb (by rw[e2];exact aaH ha)
  rw[abN (by omega)];exact h4 b hb0 hb1 hb
theorem aeO.made (h:aeO w W B ads F C){a:Int}(h0:0≤a)(h30:a<30000)(ha:a∉ads){v:Value}{c:List Int}(hk:Keeps W W')(hr:W'.ownsRow w.heap.size 3 1 v c.length (ints c))(hat:∀b,v.ownBlock=some b→W.heap.size≤b):
 aeO w (W'.setCell ⟨B,a.toNat,none⟩ v) B (ads++ [a]) (fun j=>if j=ads.length+1 then v else F j) (fun j=>if j=ads.length+1 then c else C j):=by
 obtain⟨cur,h1,h2,h3,h4⟩:=h.great
 have h1':W'.heap[B]? =some (.cells cur 31 (0,0)):=hk.at h1 (fun x=>x)
 have hks:Kept (fun b=>b=B) W' (W'.setCell ⟨B,a.toNat,none⟩ v):=(Kept.refl (fun b=>b=B) W').one1 _ v
 have hnd:(ads++ [a]).Nodup:=by
  rw[afB]
  exact⟨h.nd,by simp,fun x hx y hy e=>by rw[aaW]at hy;subst hy;subst e;exact ha hx⟩
 refine⟨Kept.aD5 (Keeps.trans h.kept hk) h.nB _ _,h.nB,?_,⟨_,abV h1' _,by simp[h2],fun j b hb=>?_,fun b hb0 hb1 hb=>?_⟩,fun b hb=>?_,hnd⟩
 ·rw[aa1]
  exact(h.fam.more hk hr hat).other h1' (by decide) hks
 ·show _=some (if j+1=ads.length+1 then v else F (j+1))
  by_cases hj:j<ads.length
  ·rw[aby hj]at hb
   have hbb:=h.addr b (aaH hb)
   have hne:b≠a:=fun e=>ha (by rw[←e];exact aaH hb)
   rw[abN (by omega),if_neg (by omega)];exact h3 j b hb
  ·have hjl:=(aaq.1 hb).1
   rw[aa1]at hjl
   have:j=ads.length:=by simp at hjl;omega
   subst this
   simp at hb
   subst hb
   rw[abk (by omega),if_pos rfl]
 ·rw[aaG,aaW]at hb
  have hne:b≠a:=fun e=>hb (.inr e)
  rw[abN (by omega)]
  exact h4 b hb0 hb1 (fun hx=>hb (.inl hx))
 ·rcases aaG.1 hb with hb|hb
  ·exact h.addr b hb
  ·rw[aaW]at hb;subst hb;exact⟨h0,h30⟩
theorem aeO.first (h:aeO w W B ads F C){a:Int}(h0:0≤a)(h30:a<30000)(ha:a∉ads):aeO w W B (ads++ [a]) (fun j=>if j=ads.length+1 then .slice none 0 0 else F j) (fun j=>if j=ads.length+1 then [] else C j):=by
 obtain⟨cur,h1,h2,h3,h4⟩:=h.great
 have hnd:(ads++ [a]).Nodup:=by
  rw[afB]
  exact⟨h.nd,by simp,fun x hx y hy e=>by rw[aaW]at hy;subst hy;subst e;exact ha hx⟩
 refine⟨h.kept,h.nB,?_,⟨cur,h1,h2,fun j b hb=>?_,fun b hb0 hb1 hb=>?_⟩,fun b hb=>?_,hnd⟩
 ·rw[aa1]
  exact h.fam.more (Keeps.refl _) (acW _ _ _ _) (fun b hb=>by simp[Value.ownBlock]at hb)
 ·show _=some (if j+1=ads.length+1 then _ else F (j+1))
  by_cases hj:j<ads.length
  ·rw[aby hj]at hb
   rw[if_neg (by omega)];exact h3 j b hb
  ·have hjl:=(aaq.1 hb).1
   rw[aa1]at hjl
   have:j=ads.length:=by simp at hjl;omega
   subst this
   simp at hb
   subst hb
   rw[if_pos rfl];exact h4 _ h0 h30 ha
 ·exact h4 b hb0 hb1 (fun hx=>hb (aaG.2 (.inl hx)))
 ·rcases aaG.1 hb with hb|hb
  ·exact h.addr b hb
  ·rw[aaW]at hb;subst hb;exact⟨h0,h30⟩
end
theorem baF:(Tryz.prog.info? 31).map (fun i=>(i.zero,i.size,i.bytes))=some (some (.slice none 0 0),1,24):=by kernel_rfl
theorem a3f:Tryz.prog.underlying 74=some (.slice 31):=by kernel_rfl
theorem hold {p:Prop}(h:Hid p):p:=h.out
end
end Go.Proofs.YtfehlbepjmmkeaaGreatDoor
