/-
  DERIVED. An abstract machine, and that its runs are runs of the model: part 7 of 11. No condition.
-/
import Derived.Test.YtfehlbepjmmkeaaGreatDoorXf
namespace Go.Proofs.YtfehlbepjmmkeaaGreatDoor
set_option linter.unusedSimpArgs false
set_option linter.unusedVariables false
open Go.RowKit
namespace Ex
noncomputable section
def aqI {α:Type}(f:α→α→Option α):T α→T α→T α
 | .N v l r,.N v' l' r'=> .N (match v,v' with|some x,some y=>f x y|_,_=>none) (aqI f l l') (aqI f r r')
 |_,_=> .E
theorem akh {α:Type}(f:α→α→Option α):∀(t u:T α)(k:Nat)(z:α),(aqI f t u).get k=some z→∃x y,t.get k=some x∧u.get k=some y∧f x y=some z
 | .E,u,k,z,h=>by simp[aqI,T.akl]at h
 | .N v l r,.E,k,z,h=>by simp[aqI,T.akl]at h
 | .N v l r,.N v' l' r',k,z,h=>by
   simp only[aqI]at h
   rw[T.aqs]at h
   rw[T.aqs,T.aqs]
   split at h
   ·rename_i hk
    rw[if_pos hk,if_pos hk]
    cases v<;>cases v'<;>simp_all
   ·rename_i hk
    rw[if_neg hk,if_neg hk]
    split at h
    ·rename_i hk2
     rw[if_pos hk2,if_pos hk2]
     exact akh f l l' _ z h
    ·rename_i hk2
     rw[if_neg hk2,if_neg hk2]
     exact akh f r r' _ z h
def aSt (x y:AV):Option AV:=if aj3 x y then some x else none
theorem aon {x y z:AV}(h:aSt x y=some z):x=z∧y=z:=by
 unfold aSt at h
 split at h
 ·rename_i he
  injection h with h
  subst h
  exact⟨rfl,(amd he).symm⟩
 ·contradiction
def a8Y (p:AV×AV):List (AV×AV)→Option (List (AV×AV))
 | []=>none
 |q::l=>if aj3 p.1 q.1&&aj3 p.2 q.2 then some l else match a8Y p l with
  |some m=>some (q::m)
  |none=>none
def aLg:List (AV×AV)→List (AV×AV)→Bool
 | [],[]=>true
 |p::l,m=>match a8Y p m with
  |some m'=>aLg l m'
  |none=>false
 |_,_=>false
theorem aLm {p:AV×AV}:∀{l m:List (AV×AV)},a8Y p l=some m→l.Perm (p::m)
 | [],m,h=>by simp[a8Y]at h
 |q::l,m,h=>by
  simp only[a8Y]at h
  split at h
  ·rename_i he
   rw[aa6]at he
   injection h with h
   subst h
   have:p=q:=Prod.ext (amd he.1) (amd he.2)
   rw[this]
  ·split at h
   ·rename_i m' hm
    injection h with h
    subst h
    exact((aLm hm).cons q).trans (List.Perm.swap p q m')
   ·contradiction
theorem awV:∀{l m:List (AV×AV)},aLg l m=true→l.Perm m
 | [],m,h=>by cases m<;>simp_all[aLg]
 |p::l,m,h=>by
  simp only[aLg]at h
  split at h
  ·rename_i m' hm
   exact((awV h).cons p).trans (aLm hm).symm
  ·cases h
def avR (x y:afp):Prop:=∀(P:Program)(φ:Nat→Loc)(dm:Nat→Prop)(w:World)(l:Loc),anh P φ dm w l x→anh P φ dm w l y
theorem avR.cells {n el s z:Nat}{f:Bool}{t t':T AV}(h:∀i v,t'.get i=some v→t.get i=some v):avR (.cells n t el f s z) (.cells n t' el f s z):=by
 rintro P φ dm w l ⟨c,zz,h1,h2,h3,h4,h5⟩
 exact⟨c,zz,h1,h2,h3,h4,fun i v hv=>h5 i v (h i v hv)⟩
theorem avR.map {l m:List (AV×AV)}(h:l.Perm m):avR (.map l) (.map m):=by
 rintro P φ dm w lc ⟨es,cl,h1,h2,h3,h4,h5,h6⟩
 exact⟨es,cl,h1,h2.trans (h.map _),(h.map _).nodup_iff.1 h3,fun p hp=>h4 p (h.mem_iff.2 hp),h5,h6⟩
theorem avR.loop {ρ ρ':T AV}{nt fn st d:Nat}{ps:List Nat}{a b:PC}{p:Option PC}(h:∀i v,ρ'.get i=some v→ρ.get i=some v):avR (.loop ρ nt fn ps a b st p d) (.loop ρ' nt fn ps a b st p d):=by
 rintro P φ dm w lc ⟨L,h1,h0,h00,h2,h3,h4⟩
 exact⟨L,h1,h0,h00,h2,fun t v hv=>h3 t v (h t v hv),h4⟩
def a8Z:afp→afp→Option afp
 | .cells n v e f s z,.cells n' v' e' f' s' z'=>if n=n'∧e=e'∧f=f'∧s=s'∧z=z' then some (.cells n (aqI aSt v v') e f s z) else none
 | .map l,.map l'=>if aLg l l' then some (.map l) else none
 | .dfd a,.dfd b=>if a=b then some (.dfd a) else none
 | .loop ρ nt fn ps a b st p d,.loop ρ' nt' fn' ps' a' b' st' p' d'=>if nt=nt'∧fn=fn'∧ps=ps'∧st=st'∧d=d'∧a=a'∧b=b'∧p=p' then some (.loop (aqI aSt ρ ρ') nt fn ps a b st p d) else none
 |_,_=>none
theorem ar4 {x y z:afp}(h:a8Z x y=some z):avR x z∧avR y z∧∀m l c,z≠ .iter m l c:=by
 unfold a8Z at h
 split at h
 ·split at h
  ·rename_i hc
   obtain⟨rfl,rfl,rfl,rfl,rfl⟩:=hc
   injection h with h
   subst h
   refine⟨.cells fun i v hv=>?_,.cells fun i v hv=>?_,by intros;simp⟩
   ·obtain⟨a,b,h1,h2,h3⟩:=akh _ _ _ _ _ hv
    rw[h1,(aon h3).1]
   ·obtain⟨a,b,h1,h2,h3⟩:=akh _ _ _ _ _ hv
    rw[h2,(aon h3).2]
  ·contradiction
 ·split at h
  ·rename_i hp
   injection h with h
   subst h
   exact⟨fun _ _ _ _ _ h=>h,.map (awV hp).symm,by intros;simp⟩
  ·contradiction
 ·split at h
  ·rename_i he
   subst he
   injection h with h
   subst h
   exact⟨fun _ _ _ _ _ h=>h,fun _ _ _ _ _ h=>h,by intros;simp⟩
  ·contradiction
 ·split at h
  ·rename_i hc
   obtain⟨rfl,rfl,rfl,rfl,rfl,rfl,rfl,rfl⟩:=hc
   injection h with h
   subst h
   refine⟨.loop fun i v hv=>?_,.loop fun i v hv=>?_,by intros;simp⟩
   ·obtain⟨a,b,h1,h2,h3⟩:=akh _ _ _ _ _ hv
    rw[h1,(aon h3).1]
   ·obtain⟨a,b,h1,h2,h3⟩:=akh _ _ _ _ _ hv
    rw[h2,(aon h3).2]
  ·contradiction
 ·contradiction
def aLo (H K:AH):Prop:=(∀k y,K.bl.get k=some y→(∃x,H.bl.get k=some x∧avR x y)∧∀m l c,y≠ .iter m l c)∧H.next≤K.next
theorem aLo.trans {H K L:AH}(h:aLo H K)(h':aLo K L):aLo H L:=by
 refine⟨fun k y hy=>?_,aa7 h.2 h'.2⟩
 obtain⟨⟨x,h1,h2⟩,h3⟩:=h'.1 k y hy
 obtain⟨⟨z,h4,h5⟩,_⟩:=h.1 k x h1
 exact⟨⟨z,h4,fun P φ dm w l hz=>h2 P φ dm w l (h5 P φ dm w l hz)⟩,h3⟩
theorem Rel.bEW {P:Program}{φ:Nat→Loc}{dm:Nat→Prop}{H K:AH}{w:World}(hr:Rel P φ dm H w)(h:aLo H K)(lo:Nat):Rel P φ dm K w∧GrowS lo φ dm H w φ dm K w:=by
 refine⟨⟨fun k y hy hd=>?_,fun k k' y y' hy hy' hd hd' he=>?_,fun k hk=>acG (hr.next k hk) h.2,hr.glob,fun k m l c hk hd=>?_,fun k m l c k' l' c' hk _ _ _=>?_⟩,⟨fun _ h=>h,fun _ _=>rfl,rfl,rfl,rfl,aai _,fun _ _ _=>rfl,fun i ⟨k,y,hk,hd,he⟩=> .inr ?_,h.2,fun _ h=> .inl h⟩⟩
 ·obtain⟨⟨x,h1,h2⟩,_⟩:=h.1 k y hy
  exact h2 _ _ _ _ _ (hr.blk k x h1 hd)
 ·obtain⟨⟨x,h1,_⟩,_⟩:=h.1 k y hy
  obtain⟨⟨x',h1',_⟩,_⟩:=h.1 k' y' hy'
  exact hr.inj k k' x x' h1 h1' hd hd' he
 ·exact absurd rfl ((h.1 k _ hk).2 m l c)
 ·exact absurd rfl ((h.1 k _ hk).2 m l c)
 ·obtain⟨⟨x,h1,_⟩,_⟩:=h.1 k y hk
  exact⟨k,x,h1,hd,he⟩
def atO (a r:AF):Prop:=r=a∨(a.dr=none∧r={a with ρ:=r.ρ}∧∀t v,r.ρ.get t=some v→a.ρ.get t=some v)
theorem atO.lo {a r:AF}(h:atO a r):r.lo=a.lo:=by
 rcases h with h|h
 ·rw[h]
 ·rw[h.2.1]
theorem atO.trans {a b c:AF}(h:atO a b)(h':atO b c):atO a c:=by
 rcases h with rfl|h
 ·exact h'
 rcases h' with rfl|h'
 ·exact .inr h
 refine .inr ⟨h.1,?_,fun t v hv=>h.2.2 t v (h'.2.2 t v hv)⟩
 rw[h'.2.1,h.2.1]
theorem akQ.weak {P:Program}{φ:Nat→Loc}{dm:Nat→Prop}{a r:AF}{fr:Frame}(h:akQ P φ dm a fr)(hw:atO a r):akQ P φ dm r fr:=by
 rcases hw with rfl|⟨h1,h2,h3⟩
 ·exact h
 rw[h2]
 exact⟨h.fn,h.apl,h.size,fun t v hv=>h.reg t v (h3 t v hv),h.todo,h.ds,h.mode,h.kind,h.round,h.nd⟩
theorem FrX.weak {P:Program}{φ:Nat→Loc}{dm:Nat→Prop}{hi:Nat}{a r:AF}{fr:Frame}(h:FrX P φ dm hi a fr)(hw:atO a r):FrX P φ dm hi r fr:=by
 rcases hw with rfl|hw
 ·exact h
 have hd:r.dr=none:=by rw[hw.2.1];exact hw.1
 exact((h.nd hw.1).weak (.inr hw)).x
def aHJ:List AF→List AF→Prop
 | [],[]=>True
 |a::l,r::m=>atO a r∧aHJ l m
 |_,_=>False
theorem Stk.weak {P:Program}{φ:Nat→Loc}{dm:Nat→Prop}:∀{hi:Nat}{l m:List AF}{fs:List Frame},Stk P φ dm hi l fs→aHJ l m→Stk P φ dm hi m fs
 |_,[],[],_,h,_=>h
 |_,a::l,r::m,_,.cons h hl t,hw=>by
  have hlo:r.lo=a.lo:=hw.1.lo
  exact .cons (h.weak hw.1) (by rw[hlo];exact hl) (by rw[hlo];exact t.weak hw.2)
 |_,[],_::_,_,_,hw=>hw.elim
 |_,_::_,[],_,_,hw=>hw.elim
def avT (a r:AS):Prop:=atO a.fr r.fr∧aHJ a.cs r.cs∧aLo a.H r.H
section
variable {P:Program}{C:T PF}{φ:Nat→Loc}{dm:Nat→Prop}{bs:List Frame}{s s':AS}{fr:Frame}{frs cs:List Frame}{w w':World}
theorem ais.weak {r:AS}(R:ais P φ dm bs s fr frs w)(h:avT s r):ais P φ dm bs r fr frs w∧GrowS s.fr.lo φ dm s.H w φ dm r.H w:=by
 obtain⟨h1,h2,h3⟩:=h
 obtain⟨r1,r2⟩:=R.heap.bEW h3 s.fr.lo
 have hlo:r.fr.lo=s.fr.lo:=h1.lo
 exact⟨⟨(R.fr.weak h1).aHc h3.2,by rw[hlo];exact aa7 R.hlo h3.2,by rw[hlo];exact R.cs.weak h2,r1⟩,r2⟩
def bj0:List AI→List AI→Bool
 | [],[]=>true
 |_::l,_::m=>bj0 l m
 |_,_=>false
def aBx (k:List AI)(s:AS):Bool:=
 match s.cs,s.fr.dr,s.fr.mode with
 | [],none,.run=>match bj0 s.fr.todo k with
   |true=>decide (s.fr.todo=k)
   |false=>false
 |_,_,_=>false
def ayC (f:AS→Option AS)(lo:Nat)(k:List AI):Nat→AS→Option AS
 |0,_=>none
 |n+1,s=>match aBx k s with
  |true=>some s
  |false=>match f s with
   |some s'=>match Nat.ble lo s'.fr.lo with
    |true=>ayC f lo k n s'
    |false=>none
   |none=>none
def a9l (a b:AS):Option AS:=
 match a.cs,b.cs,a.fr.dr,b.fr.dr,a.fr.mode,b.fr.mode with
 | [],[],none,none,.run,.run=>
   if a.fr.fn=b.fr.fn∧a.fr.nt=b.fr.nt∧a.fr.deferred=b.fr.deferred∧a.fr.round=b.fr.round∧a.fr.lo=b.fr.lo∧a.fr.ds=b.fr.ds∧a.fr.todo=b.fr.todo then
    some {fr:={a.fr with ρ:=aqI aSt a.fr.ρ b.fr.ρ},cs:=[],H:=⟨aqI a8Z a.H.bl b.H.bl,max a.H.next b.H.next⟩}
   else none
 |_,_,_,_,_,_=>none
theorem aW5 {a b r:AS}(h:a9l a b=some r):avT a r∧avT b r:=by
 unfold a9l at h
 split at h
 ·rename_i h1 h2 h3 h4 h5 h6
  split at h
  ·rename_i hc
   obtain⟨c1,c2,c3,c4,c5,c6,c7⟩:=hc
   injection h with h
   subst h
   refine⟨⟨.inr ⟨h3,rfl,fun t v hv=>?_⟩,by rw[h1];trivial,fun k y hy=>?_,Nat.le_max_left _ _⟩,⟨.inr ⟨h4,?_,fun t v hv=>?_⟩,by rw[h2];trivial,fun k y hy=>?_,Nat.le_max_right _ _⟩⟩
   ·obtain⟨x,y,q1,q2,q3⟩:=akh _ _ _ _ _ hv
    rw[q1,(aon q3).1]
   ·obtain⟨x,z,q1,q2,q3⟩:=akh _ _ _ _ _ hy
    exact⟨⟨x,q1,(ar4 q3).1⟩,(ar4 q3).2.2⟩
   ·obtain⟨⟨fn,nt,ρ,todo,ds,mode,dfd,round,dr,lo⟩,cs,H⟩:=a
    obtain⟨⟨fn',nt',ρ',todo',ds',mode',bEX,round',dr',lo'⟩,cs',H'⟩:=b
    simp only at c1 c2 c3 c4 c5 c6 c7 h3 h4 h5 h6 ⊢
    subst c1 c2 c3 c4 c5 c6 c7 h3 h4 h5 h6
    rfl
   ·obtain⟨x,y,q1,q2,q3⟩:=akh _ _ _ _ _ hv
    rw[q2,(aon q3).2]
   ·obtain⟨x,z,q1,q2,q3⟩:=akh _ _ _ _ _ hy
    exact⟨⟨z,q2,(ar4 q3).2.1⟩,(ar4 q3).2.2⟩
  ·contradiction
 ·contradiction
def ayF (f:AS→Option AS):List AS→Option AS
 | []=>none
 |s::l=>match l with
  | []=>f s
  |_::_=>match f s with
   |some a=>match ayF f l with
    |some b=>a9l a b
    |none=>none
   |none=>none
theorem avT.trans {a b c:AS}(h:avT a b)(h':avT b c):avT a c:=by
 have key:∀(l m n:List AF),aHJ l m→aHJ m n→aHJ l n:=by
  intro l
  induction l with
  |nil=>intro m n h1 h2;cases m with
   |nil=>exact h2
   |cons _ _=>exact h1.elim
  |cons x l ih=>intro m n h1 h2;cases m with
   |nil=>exact h1.elim
   |cons y m=>cases n with
    |nil=>exact h2.elim
    |cons z n=>exact⟨h1.1.trans h2.1,ih m n h1.2 h2.2⟩
 exact⟨h.1.trans h'.1,key _ _ _ h.2.1 h'.2.1,h.2.2.trans h'.2.2⟩
theorem ar5 {f:AS→Option AS}:∀{l:List AS}{r:AS},ayF f l=some r→∀s∈l,∃a,f s=some a∧(a=r∨avT a r)
 | [],r,h,s,hs=>by cases hs
 |x::l,r,h,s,hs=>by
  unfold ayF at h
  split at h
  ·rw[aaW]at hs
   subst hs
   exact⟨r,h,.inl rfl⟩
  ·rename_i y l
   split at h
   ·rename_i a ha
    split at h
    ·rename_i b hb
     obtain⟨j1,j2⟩:=aW5 h
     rcases abb.1 hs with rfl|hs
     ·exact⟨a,ha,.inr j1⟩
     ·obtain⟨a',h1,h2⟩:=ar5 hb s hs
      refine⟨a',h1,.inr ?_⟩
      rcases h2 with rfl|h2
      ·exact j2
      ·exact h2.trans j2
    ·contradiction
   ·contradiction
def afterLoop:List AI→List AI
 | .inLoop _:: .inBlock _::k=>k
 | .inLoop _::k=>k
 |_::k=>afterLoop k
 | []=>[]
def amW (s:AS)(b:Nat):Nat→List AS
 |0=>[]
 |n+1=>match ard s.H b n with
  |some (v,H)=>match finish s.fr v with
   |some fr=>{fr,cs:=[],H}::amW s b n
   |none=>[]
  |none=>[]
def bEY (H:AH)(b:Nat)(k:List AI):List AI:=
 match H.bl.get b with
 |some (.iter m _ _)=>match H.bl.get m with
  |some (.apa (_::_::_::_))=>match k with
   | .code (.seq _ y)::kk=> .code y::kk
   |k=>k
  |_=>k
 |_=>k
def aqc (s:AS):Option (List AS×List AI):=
 match s.fr.dr,s.fr.mode with
 |none,.run=>match s.fr.todo with
  | .code (.fork ls)::k=>some (ls.map fun l=>{s with fr:={s.fr with todo:= .afm l::k},cs:=[]},k.tail)
  | .afm (o::_l)::k=>match o.ir with
    | .aGA x=>match x.ev s.fr.ρ.get,o.guard with
      |some (.ptr b 0),none=>if anv s.H b≤1∨(amW s b (anv s.H b)).length≠anv s.H b then none else some (amW s b (anv s.H b),bEY s.H b (afterLoop k))
      |_,_=>none
    |_=>none
  |_=>none
 |_,_=>none
def big (C:T PF):Nat→AS→Option AS
 |0,s=>asx C s
 |d+1,s=>match aqc s with
  |none=>asx C s
  |some (ws,k)=>match ayF (ayC (big C d) s.fr.lo k 1000000) ws with
   |some r=>if r.fr.lo=s.fr.lo then some {r with cs:=s.cs} else none
   |none=>none
def aBA (P:Program)(f:AS→Option AS):Prop:=∀(φ:Nat→Loc)(dm:Nat→Prop)(bs:List Frame)(s s':AS)(fr:Frame)(frs:List Frame)(w:World),ais P φ dm bs s fr frs w→f s=some s'→Sim P φ dm bs s s' fr frs w
end
end
end Ex
namespace Ex
noncomputable section
variable {P:Program}{C:T PF}{φ:Nat→Loc}{dm:Nat→Prop}{bs:List Frame}{s s' s1 s2:AS}{fr:Frame}{frs cs:List Frame}{w w':World}
def aOu (lo:Nat)(P:Program)(φ:Nat→Loc)(dm:Nat→Prop)(bs:List Frame)(s s':AS)(fr:Frame)(frs:List Frame)(w:World):Prop:=
 ∃φ' dm' fr' aWA w',Steps P (lone fr (frs++bs) w) (lone fr' (aWA++bs) w')∧ais P φ' dm' bs s' fr' aWA w'∧GrowS lo φ dm s.H w φ' dm' s'.H w'
theorem GrowS.low {lo lo':Nat}{φ φ':Nat→Loc}{dm dm':Nat→Prop}{H H':AH}{w w':World}(h:GrowS lo φ dm H w φ' dm' H' w')(hl:lo'≤lo):GrowS lo' φ dm H w φ' dm' H' w':=
 ⟨h.dms,h.ph,h.os,h.tape,h.output,h.size,h.frame,h.range,h.next,fun b hb=>(h.fresh b hb).imp id (aa7 hl)⟩
theorem aOu.bind {lo:Nat}(h:aOu lo P φ dm bs s s1 fr frs w)(h':∀{φ:Nat→Loc}{dm:Nat→Prop}{fr:Frame}{frs:List Frame}{w:World},ais P φ dm bs s1 fr frs w→aOu lo P φ dm bs s1 s2 fr frs w):aOu lo P φ dm bs s s2 fr frs w:=by
 obtain⟨φ1,dm1,fr1,aW7,w1,a1,a2,a3⟩:=h
 obtain⟨φ2,dm2,fr2,btQ,w2,b1,b2,b3⟩:=h' a2
 exact⟨φ2,dm2,fr2,btQ,w2,a1.trans b1,b2,a3.trans b3 (aai _)⟩
theorem Sim.low (h:Sim P φ dm bs s s' fr frs w){lo:Nat}(hl:lo≤s.fr.lo):aOu lo P φ dm bs s s' fr frs w:=by
 obtain⟨φ1,dm1,fr1,aW7,w1,a1,a2,a3⟩:=h
 exact⟨φ1,dm1,fr1,aW7,w1,a1,a2,a3.low hl⟩
theorem aCZ {f:AS→Option AS}(hf:aBA P f){lo:Nat}{k:List AI}:∀(n:Nat){s s':AS}{φ:Nat→Loc}{dm:Nat→Prop}{fr:Frame}{frs:List Frame}{w:World},ais P φ dm bs s fr frs w→lo≤s.fr.lo→ayC f lo k n s=some s'→aOu lo P φ dm bs s s' fr frs w∧aBx k s'=true
 |0,s,s',φ,dm,fr,frs,w,R,hl,h=>by simp[ayC]at h
 |n+1,s,s',φ,dm,fr,frs,w,R,hl,h=>by
  simp only[ayC]at h
  split at h
  ·rename_i hj
   injection h with h
   subst h
   exact⟨⟨φ,dm,fr,frs,w,akU P _,R,.refl _ _ _ _ _⟩,hj⟩
  ·split at h
   ·rename_i s1 h1
    split at h
    ·rename_i hle
     have hle':lo≤s1.fr.lo:=agQ hle
     have:=(hf _ _ _ _ _ _ _ _ R h1).low hl
     obtain⟨φ1,dm1,fr1,aW7,w1,a1,a2,a3⟩:=this
     obtain⟨⟨φ2,dm2,fr2,btQ,w2,b1,b2,b3⟩,hj⟩:=aCZ hf n a2 hle' h
     exact⟨⟨φ2,dm2,fr2,btQ,w2,a1.trans b1,b2,a3.trans b3 (aai _)⟩,hj⟩
    ·contradiction
   ·contradiction
theorem Stk.aOv {hi:Nat}{l:List Frame}(h:Stk P φ dm hi [] l):l= []:=by cases h;rfl
theorem aSD {f:AS→Option AS}(hf:aBA P f){k:List AI}{n:Nat}{s0 r a:AS}{fr0:Frame}{φ0:Nat→Loc}{dm0:Nat→Prop}{w0:World}(R:ais P φ dm bs s fr frs w)
 (hst:Steps P (lone fr (frs++bs) w) (lone fr0 (frs++bs) w0))(R0:ais P φ0 dm0 (frs++bs) s0 fr0 [] w0)(g0:GrowS s.fr.lo φ dm s.H w φ0 dm0 s0.H w0)(hlo:s0.fr.lo=s.fr.lo)(ha:ayC f s.fr.lo k n s0=some a)(hr:a=r∨avT a r)
 (aBH:r.fr.lo=s.fr.lo):Sim P φ dm bs s {r with cs:=s.cs} fr frs w:=by
 obtain⟨⟨φ1,dm1,fr1,aW7,w1,a1,a2,a3⟩,hj⟩:=aCZ hf n R0 (by rw[hlo];exact aai _) ha
 have hcs:a.cs= []:=by
  unfold aBx at hj
  split at hj
  ·rename_i h _ _;exact h
  ·cases hj
 have aW1:aW7= []:=by
  have:=a2.cs
  rw[hcs]at this
  exact this.aOv
 subst aW1
 have hR:∃φ2 dm2,ais P φ2 dm2 (frs++bs) r fr1 [] w1∧GrowS s.fr.lo φ dm s.H w φ2 dm2 r.H w1:=by
  rcases hr with rfl|hw
  ·exact⟨φ1,dm1,a2,g0.trans a3 (aai _)⟩
  ·obtain⟨r1,r2⟩:=a2.weak hw
   have:r.fr.lo=a.fr.lo:=by rw[hw.1.lo]
   exact⟨φ1,dm1,r1,g0.trans (a3.trans (r2.low (by rw[←this,aBH];exact aai _)) (aai _)) (aai _)⟩
 obtain⟨φ2,dm2,R2,G2⟩:=hR
 refine⟨φ2,dm2,fr1,frs,w1,hst.trans a1,⟨R2.fr,R2.hlo,?_,R2.heap⟩,G2⟩
 show Stk P φ2 dm2 r.fr.lo s.cs frs
 rw[aBH]
 exact R.cs.mono G2.dms G2.ph G2.fresh
theorem aBI (ops:Array Oper):∀(fuel t:Nat)(listed:Array Bool),Region.linearise.go .any ops fuel t listed []∈atj ops fuel listed
 |0,t,listed=>by simp[Region.linearise.go,atj]
 |fuel+1,t,listed=>by
  simp only[Region.linearise.go]
  change(match (Region.ready .any ops listed)[t%(Region.ready .any ops listed).length]? with
   |some i=>Region.linearise.go .any ops fuel (t / (Region.ready .any ops listed).length) (listed.setIfInBounds i true) [i]
   |none=>[].reverse)∈_
  rw[atj]
  generalize Region.ready .any ops listed=rs
  cases rs with
  |nil=>simp
  |cons r rs=>
   have hlt:=akS t (show 0<(r::rs).length by simp)
   rw[aaw hlt]
   simp only
   rw[linearise_go_acc,List.reverse_singleton,ai5,List.mem_flatMap]
   exact⟨_,List.getElem_mem hlt,aaZ.2 ⟨_,aBI ops fuel _ _,rfl⟩⟩
theorem a9o (ops:Array Oper):∀(fuel t:Nat)(listed:Array Bool),∀i∈Region.linearise.go .any ops fuel t listed [],i<ops.size
 |0,t,listed,i,hi=>by simp[Region.linearise.go]at hi
 |fuel+1,t,listed,i,hi=>by
  simp only[Region.linearise.go]at hi
  change i∈(match (Region.ready .any ops listed)[t%(Region.ready .any ops listed).length]? with
   |some i=>Region.linearise.go .any ops fuel (t / (Region.ready .any ops listed).length) (listed.setIfInBounds i true) [i]
   |none=>[].reverse)at hi
  split at hi
  ·rename_i j hj
   rw[linearise_go_acc,List.reverse_singleton,ai5]at hi
   rcases abb.1 hi with rfl|hi
   ·obtain⟨_,o,ho,_⟩:=mem_ready.1 (aaH hj)
    exact(acK.1 ho).1
   ·exact a9o ops fuel _ _ i hi
  ·simp at hi
theorem aHK (ops:Array Oper):∀(idx:List Nat),(∀i∈idx,i<ops.size)→ap9 (POk P ops) (idx.filterMap fun i=>(ops[i]?).map (ate P ops 0)) idx
 | [],_=> .nil
 |i::l,h=>by
  have hi:ops[i]? =some (ops[i]'(h i (by simp))):=acE _
  rw[List.filterMap_cons,hi]
  simp only[adn]
  exact .cons ⟨_,hi,rfl,rfl,rfl⟩ (aHK ops l fun j hj=>h j (by simp[hj]))
theorem aLq {op:Op}{u:Od}(h:apg P op= .aGA u):∃it,op= .next it false∧adC it=some u:=by
 rcases anU h with⟨x,_,hx⟩|h'
 ·cases hx
 ·replace h:=h'
  clear h'
  cases op
  case next it b=>
   cases b with
   |true=>simp only[ag7]at h;cases h
   |false=>
    simp only[ag7]at h
    split at h
    ·rename_i v hv;injection h with h;subst h;exact⟨it,rfl,hv⟩
    ·cases h
  case slice t x lo hi mx=>
   cases mx<;>simp only[ag7]at h<;>repeat' split at h
   all_goals cases h
  case makeMap t r=>
   cases r<;>simp only[ag7]at h<;>repeat' split at h
   all_goals cases h
  all_goals
   simp only[ag7]at h
   repeat' split at h
   all_goals cases h
theorem anX {b:Nat}:∀(n:Nat),(amW s b n).length=n→∀i,i<n→∃v H fr,ard s.H b i=some (v,H)∧finish s.fr v=some fr∧(⟨fr,[],H⟩ :AS)∈amW s b n
 |0,_,i,hi=>by omega
 |n+1,h,i,hi=>by
  simp only[amW]at h ⊢
  split at h
  ·rename_i v H hv
   split at h
   ·rename_i fr hf
    by_cases hin:i=n
    ·subst hin;exact⟨v,H,fr,hv,hf,by simp⟩
    ·obtain⟨v',H',fr',h1,h2,h3⟩:=anX n (by simpa using h) i (by omega)
     exact⟨v',H',fr',h1,h2,abq _ h3⟩
   ·simp at h
  ·simp at h
theorem aBL (E:Ext P)(hC:Table P C):∀d,aBA P (big C d)
 |0=>fun _ _ _ _ _ _ _ _ R h=>aCX E hC R h
 |d+1=>fun φ dm bs s s' fr frs w R h=>by
  simp only[big]at h
  split at h
  ·exact aCX E hC R h
  ·rename_i ws k ak5
   split at h
   ·rename_i r bj3
    split at h
    ·rename_i hc
     injection h with h
     subst h
     have ih:=aBL E hC d
     unfold aqc at ak5
     split at ak5
     ·rename_i hd hm
      have R':=R.plain hd
      have hmode:fr.mode= .run:=by have:=R'.fr.mode;rw[hm]at this;exact this
      have htodo:=R'.fr.todo hm
      split at ak5
      ·rename_i ls kk hk
       injection ak5 with ak5
       injection ak5 with hws hkk
       rw[hk]at htodo
       cases ht:fr.todo with
       |nil=>rw[ht]at htodo;cases htodo
       |cons y ys=>
        rw[ht]at htodo
        cases htodo with
        |cons hy hys=>
         cases y with
         |code c'=>
          have hcc:ae8 P c'= .fork ls:=hy
          have aBq:∃id ops,c'= .region id ops true∧ali P ops= .fork ls:=by
           cases c' with
           |region id ops dr=>
            cases dr with
            |true=>exact⟨id,ops,rfl,by simpa only[ae8]using hcc⟩
            |false=>simp[ae8]at hcc
           |cond o x z=>simp only[ae8]at hcc;split at hcc<;>cases hcc
           |rangeFunc o x z u=>simp only[ae8]at hcc;split at hcc<;>cases hcc
           |_=>simp[ae8]at hcc
          obtain⟨id,ops,rfl,hpd⟩:=aBq
          rcases apm (P:=P) ops with⟨F,hF⟩|hF|hF
          ·rw[hF]at hpd;cases hpd
          ·rw[hF]at hpd;cases hpd
          rw[hF]at hpd
          injection hpd with hls
          obtain⟨t,hst⟩:=aHG (P:=P) (cs:=frs++bs) (w:=w) hmode ht E.mix
          obtain⟨r1,g1⟩:=R'.heap.same (w':=w.drew) rfl rfl rfl rfl
          have hmem:=aBI ops ops.size t (Array.replicate ops.size false)
          have hlt:=a9o ops ops.size t (Array.replicate ops.size false)
          obtain⟨idx,hidx⟩ :∃idx,idx=Region.linearise .any ops t:=⟨_,rfl⟩
          have hmem':idx∈atj ops ops.size (Array.replicate ops.size false):=by rw[hidx];exact hmem
          have hlt':∀i∈idx,i<ops.size:=by rw[hidx];exact hlt
          rw[←hidx]at hst
          obtain⟨s0,hs0⟩ :∃s0:AS,s0={s with fr:={s.fr with todo:= .afm (idx.filterMap fun i=>(ops[i]?).map (ate P ops 0))::kk},cs:=[]}:=⟨_,rfl⟩
          have hsm:s0∈ws:=by
           rw[←hws,←hls,hs0]
           exact aaZ.2 ⟨_,aaZ.2 ⟨idx,hmem',rfl⟩,rfl⟩
          obtain⟨a,ha,har⟩:=ar5 bj3 s0 hsm
          have R0:ais P φ dm (frs++bs) s0 {fr with todo:= .inRegion ops idx::ys} [] w.drew:=by
           rw[hs0]
           exact ajq.x ⟨⟨R'.fr.fn,R'.fr.apl,R'.fr.size,R'.fr.reg,fun _=> .cons (aHK ops idx hlt') hys,R'.fr.ds,R'.fr.mode,R'.fr.kind,R'.fr.round,R'.fr.nd⟩,R'.hlo,.nil,r1⟩
          exact aSD ih R (.one hst) R0 (by rw[hs0];exact g1.s R.hlo) (by rw[hs0]) ha har hc
         |_=>exact(by first|exact hy.elim|cases hy)
      ·rename_i o l kk hk
       split at ak5
       ·rename_i x hir
        split at ak5
        ·rename_i b hx hg
         split at ak5
         ·contradiction
         ·rename_i aKQ
          injection ak5 with ak5
          injection ak5 with hws hkk
          obtain⟨op,A⟩:=bty R' hm hk (by rw[hg];rfl)
          obtain⟨it,hop,hit⟩:=aLq (A.ir.symm.trans hir)
          obtain⟨ops,i,rest,k0,ht,ho,hw⟩:=A.at_
          obtain⟨e1,e2⟩:=abU R'.rr hit hx
          have hlen:(amW s b (anv s.H b)).length=anv s.H b:=by
           rcases Decidable.em ((amW s b (anv s.H b)).length=anv s.H b)with h|h
           ·exact h
           ·exact absurd (.inr h) aKQ
          obtain⟨j,v,H1,q1,q2,q3⟩:=awG (t:=op.type) R'.heap e2 (fun i hi=>by
           obtain⟨v,H,f1,p1,_⟩:=anX _ hlen i hi
           rw[p1];rfl)
          obtain⟨v',H',f1,p1,p2,p3⟩:=anX _ hlen j q1
          rw[q2]at p1
          injection p1 with p1
          injection p1 with p4 p5
          subst p4 p5
          rw[hws]at p3
          obtain⟨a,ha,har⟩:=ar5 bj3 _ p3
          obtain⟨φ1,dm1,w1,nx,n1,n2,n3,n4,n5⟩:=q3
          have hnd:∀c,op.op≠ .defer c:=by rw[hop];simp
          have hex:(execOp fr.eval op).run P w= .ok nx w1:=by
           rw[←n1,←aoh (s:=s) R'.fr,←e1]
           obtain⟨dst,opp,type,pos,after,guard⟩:=op
           simp only at hop
           subst hop
           rfl
          have hfx:=aqB p2 ((R'.fr.mono n5.dms n5.ph).x (hi:=s.H.next)) n3
          have hst:step P (lone fr (frs++bs) w)= .next (lone (fr.finish (abe φ1 v)) (frs++bs) w1):=by
           rcases n2 with rfl|⟨rfl,rfl⟩
           ·exact arp A.mode ht ho hw (.inr hnd) hex
           ·exact aol A.mode ht ho hw (.inr hnd) hex
          have R0:ais P φ1 dm1 (frs++bs) ⟨f1,[],H1⟩ (fr.finish (abe φ1 v)) [] w1:=⟨hfx.1.aHc n5.next,by show f1.lo≤H1.next;rw[hfx.2];exact aa7 R.hlo n5.next,.nil,n4⟩
          exact aSD ih R (.one hst) R0 (n5.s R.hlo) hfx.2 ha har hc
        ·contradiction
       ·contradiction
      ·contradiction
     ·contradiction
    ·contradiction
   ·contradiction
def a1Q (C:T PF)(d:Nat):Nat→AS→Option AS
 |0,s=>some s
 |n+1,s=>match big C d s with
  |some s'=>a1Q C d n s'
  |none=>none
theorem aHL (E:Ext P)(hC:Table P C)(d:Nat):∀(n:Nat){s s':AS}{φ:Nat→Loc}{dm:Nat→Prop}{fr:Frame}{frs:List Frame}{w:World},ais P φ dm bs s fr frs w→a1Q C d n s=some s'→aOu 0 P φ dm bs s s' fr frs w
 |0,s,s',φ,dm,fr,frs,w,R,h=>by injection h with h;subst h;exact⟨φ,dm,fr,frs,w,akU P _,R,.refl _ _ _ _ _⟩
 |n+1,s,s',φ,dm,fr,frs,w,R,h=>by
  simp only[a1Q]at h
  split at h
  ·rename_i s1 h1
   exact((aBL E hC d _ _ _ _ _ _ _ _ R h1).low (ab6 _)).bind fun R1=>aHL E hC d n R1 h
  ·contradiction
end
end Ex
namespace Ex
noncomputable section
def leT {α:Type}(f:α→α→Bool):T α→T α→Bool
 |_,.E=>true
 | .N v l r,.N v' l' r'=>(match v',v with|none,_=>true|some y,some x=>f x y|some _,none=>false)&&leT f l l'&&leT f r r'
 | .E,.N v' l' r'=>(match v' with|none=>true|some _=>false)&&leT f .E l'&&leT f .E r'
theorem ar7 {α:Type}(f:α→α→Bool):∀(t u:T α)(k:Nat)(y:α),leT f t u=true→u.get k=some y→∃x,t.get k=some x∧f x y=true
 |t,.E,k,y,_,h=>by rw[T.akl]at h;cases h
 | .N v l r,.N v' l' r',k,y,h,hu=>by
   simp only[leT,aa6]at h
   rw[T.aqs]at hu ⊢
   split at hu
   ·rename_i hk
    rw[if_pos hk]
    subst hu
    cases v with
    |none=>simp at h
    |some x=>exact⟨x,rfl,by simpa using h.1.1⟩
   ·rename_i hk
    rw[if_neg hk]
    split at hu
    ·rename_i hk2;rw[if_pos hk2];exact ar7 f l l' _ y h.1.2 hu
    ·rename_i hk2;rw[if_neg hk2];exact ar7 f r r' _ y h.2 hu
 | .E,.N v' l' r',k,y,h,hu=>by
   exfalso
   simp only[leT,aa6]at h
   rw[T.aqs]at hu
   split at hu
   ·subst hu;simp at h
   ·split at hu
    ·obtain⟨x,hx,_⟩:=ar7 f .E l' _ y h.1.2 hu;rw[T.akl]at hx;cases hx
    ·obtain⟨x,hx,_⟩:=ar7 f .E r' _ y h.2 hu;rw[T.akl]at hx;cases hx
def leB:afp→afp→Bool
 | .cells n v e f s z,.cells n' v' e' f' s' z'=>Nat.beq n n'&&Nat.beq e e'&&f==f'&&Nat.beq s s'&&Nat.beq z z'&&leT aj3 v v'
 | .map l,.map l'=>aLg l l'
 | .dfd a,.dfd b=>a==b
 | .loop ρ nt fn ps a b st p d,.loop ρ' nt' fn' ps' a' b' st' p' d'=>decide (nt=nt'∧fn=fn'∧ps=ps'∧st=st'∧d=d'∧a=a'∧b=b'∧p=p')&&leT aj3 ρ ρ'
 |_,_=>false
theorem aSF {x y:afp}(h:leB x y=true):avR x y∧∀m l c,y≠ .iter m l c:=by
 have avt:∀{t u:T AV},leT aj3 t u=true→∀i v,u.get i=some v→t.get i=some v:=by
  intro t u h i v hv
  obtain⟨x,h1,h2⟩:=ar7 _ _ _ _ _ h hv
  rw[h1,amd h2]
 unfold leB at h
 split at h
 ·simp only[aa6,beq_iff_eq]at h
  obtain⟨⟨⟨⟨⟨h1,h2⟩,h3⟩,h4⟩,h5⟩,h6⟩:=h
  rw[acF h1,acF h2,h3,acF h4,acF h5]
  exact⟨.cells (avt h6),by intros;simp⟩
 ·exact⟨.map (awV h),by intros;simp⟩
 ·rw[beq_iff_eq]at h;subst h;exact⟨fun _ _ _ _ _ h=>h,by intros;simp⟩
 ·rw[aa6,decide_eq_true_iff]at h
  obtain⟨⟨rfl,rfl,rfl,rfl,rfl,rfl,rfl,rfl⟩,h6⟩:=h
  exact⟨.loop (avt h6),by intros;simp⟩
 ·cases h
def bdC:AMd→AMd→Bool
 | .run,.run=>true
 | .returning,.returning=>true
 |_,_=>false
def teq:T AV→T AV→Bool
 | .E,.E=>true
 | .N v l r,.N v' l' r'=>(match v,v' with|none,none=>true|some x,some y=>aj3 x y|_,_=>false)&&teq l l'&&teq r r'
 |_,_=>false
theorem aOz:∀{t u:T AV},teq t u=true→t=u
 | .E,.E,_=>rfl
 | .N v l r,.N v' l' r',h=>by
   simp only[teq,aa6]at h
   obtain⟨⟨h1,h2⟩,h3⟩:=h
   rw[aOz h2,aOz h3]
   cases v<;>cases v'<;>simp only[reduceCtorEq]at h1
   ·rfl
   ·rw[amd h1]
 | .E,.N ..,h=>by simp[teq]at h
 | .N ..,.E,h=>by simp[teq]at h
def leF (a r:AF):Bool:=
 match a.dr,r.dr with
 |some d,some d'=>match d.pend,d'.pend with
  | [],[]=>Nat.beq a.fn r.fn&&Nat.beq a.nt r.nt&&decide (a.todo=r.todo)&&decide (a.ds=r.ds)&&bdC a.mode r.mode&&a.deferred==r.deferred&&decide (a.round=r.round)&&Nat.beq a.lo r.lo&&teq a.ρ r.ρ&&teq d.ρ d'.ρ&&decide (d.rest=d'.rest)&&decide (d.cur=d'.cur)
  |_,_=>false
 |none,none=>Nat.beq a.fn r.fn&&Nat.beq a.nt r.nt&&decide (a.todo=r.todo)&&decide (a.ds=r.ds)&&bdC a.mode r.mode&&a.deferred==r.deferred&&decide (a.round=r.round)&&Nat.beq a.lo r.lo&&leT aj3 a.ρ r.ρ
 |_,_=>false
theorem aSG {a r:AF}(h:leF a r=true):atO a r:=by
 unfold leF at h
 split at h
 ·rename_i d d' h1 h2
  left
  split at h
  ·rename_i p1 p2
   simp only[aa6,beq_iff_eq,decide_eq_true_iff]at h
   obtain⟨⟨⟨⟨⟨⟨⟨⟨⟨⟨⟨q1,q2⟩,q3⟩,q4⟩,q5⟩,q6⟩,q7⟩,q8⟩,q9⟩,q10⟩,q11⟩,q12⟩:=h
   obtain⟨fn,nt,ρ,todo,ds,mode,dfd,round,dr,lo⟩:=a
   obtain⟨fn',nt',ρ',todo',ds',mode',bEX,round',dr',lo'⟩:=r
   obtain⟨dρ,dp,dr1,dc⟩:=d
   obtain⟨bOr,dp',bOy,dc'⟩:=d'
   simp only at q1 q2 q3 q4 q5 q6 q7 q8 q9 q10 q11 q12 h1 h2 p1 p2 ⊢
   have e1:=acF q1
   have e2:=acF q2
   have e8:=acF q8
   have e9:=aOz q9
   have e10:=aOz q10
   have e5:mode=mode':=by unfold bdC at q5;split at q5<;>first|rfl|cases q5
   subst e1 e2 e8 e5 q3 q4 q6 q7 e9 e10 q11 q12 p1 p2 h1 h2
   rfl
  ·cases h
 ·rename_i h1 h2
  right
  simp only[aa6,beq_iff_eq,decide_eq_true_iff]at h
  obtain⟨⟨⟨⟨⟨⟨⟨⟨q1,q2⟩,q3⟩,q4⟩,q5⟩,q6⟩,q7⟩,q8⟩,q9⟩:=h
  refine⟨h1,?_,fun t v hv=>?_⟩
  ·obtain⟨fn,nt,ρ,todo,ds,mode,dfd,round,dr,lo⟩:=a
   obtain⟨fn',nt',ρ',todo',ds',mode',bEX,round',dr',lo'⟩:=r
   simp only at q1 q2 q3 q4 q5 q6 q7 q8 h1 h2 ⊢
   have e1:=acF q1
   have e2:=acF q2
   have e8:=acF q8
   have e5:mode=mode':=by unfold bdC at q5;split at q5<;>first|rfl|cases q5
   subst e1 e2 e8 e5 q3 q4 q6 q7 h1 h2
   rfl
  ·obtain⟨x,h3,h4⟩:=ar7 _ _ _ _ _ q9 hv
   rw[h3,amd h4]
 ·cases h
def leC:List AF→List AF→Bool
 | [],[]=>true
 |a::l,r::m=>leF a r&&leC l m
 |_,_=>false
theorem aSH:∀{l m:List AF},leC l m=true→aHJ l m
 | [],[],_=>trivial
 |a::l,r::m,h=>by
  simp only[leC,aa6]at h
  exact⟨aSG h.1,aSH h.2⟩
 | [],_::_,h=>by simp[leC]at h
 |_::_,[],h=>by simp[leC]at h
def leS (a r:AS):Bool:=leF a.fr r.fr&&leC a.cs r.cs&&leT leB a.H.bl r.H.bl&&Nat.ble a.H.next r.H.next
theorem aSK {a r:AS}(h:leS a r=true):avT a r:=by
 simp only[leS,aa6]at h
 obtain⟨⟨⟨h1,h2⟩,h3⟩,h4⟩:=h
 refine⟨aSG h1,aSH h2,fun k y hy=>?_,agQ h4⟩
 obtain⟨x,q1,q2⟩:=ar7 _ _ _ _ _ h3 hy
 exact⟨⟨x,q1,(aSF q2).1⟩,(aSF q2).2⟩
section
variable {P:Program}{C:T PF}{φ:Nat→Loc}{dm:Nat→Prop}{bs:List Frame}{s s' s1 s2:AS}{fr:Frame}{frs cs:List Frame}{w w':World}
def Reach (P:Program)(s s':AS):Prop:=∀(φ:Nat→Loc)(dm:Nat→Prop)(bs:List Frame)(fr:Frame)(frs:List Frame)(w:World),ais P φ dm bs s fr frs w→aOu 0 P φ dm bs s s' fr frs w
theorem Reach.trans (h:Reach P s s1)(h':Reach P s1 s2):Reach P s s2:=fun φ dm bs fr frs w R=>(h φ dm bs fr frs w R).bind fun R'=>h' _ _ _ _ _ _ R'
def chk (C:T PF)(d n:Nat)(s r:AS):Bool:=match a1Q C d n s with
 |some a=>leS a r
 |none=>false
theorem a0O (E:Ext P)(hC:Table P C){d n:Nat}{r:AS}(h:chk C d n s r=true):Reach P s r:=by
 intro φ dm bs fr frs w R
 unfold chk at h
 split at h
 ·rename_i a ha
  refine(aHL E hC d n R ha).bind fun R1=>?_
  obtain⟨r1,r2⟩:=R1.weak (aSK h)
  exact⟨_,_,_,_,_,akU P _,r1,r2.low (ab6 _)⟩
 ·cases h
def a5v (C:T PF)(f:Nat)(s:AS):Option AV:=
 match s.cs,s.fr.mode,s.fr.ds,s.fr.dr,C.get s.fr.fn with
 | [],.returning,[],none,some pf=>if s.fr.fn=f∧s.fr.deferred=false then a7v pf s.fr.ρ s.H else none
 |_,_,_,_,_=>none
theorem aGe (hC:Table P C){f lo:Nat}{args:List AV}{H:AH}{af:AF}{v:AV}(he:asY C f args false lo=some af)(hn:Reach P ⟨af,[],H⟩ s)(hd:a5v C f s=some v)
 (hlo:lo≤H.next)(hr:Rel P φ dm H w)(ha:scL dm args):
 Calls P f (ab2 φ args).toArray w fun e w'=>∃φ' dm',e= .returned (abe φ' v)∧sc dm' v∧Rel P φ' dm' s.H w'∧GrowS 0 φ dm H w φ' dm' s.H w':=by
 intro cs
 obtain⟨e1,_,e3,e4,e5,e6⟩:=arR (φ:=φ) hC he ha
 obtain⟨φ',dm',fr',aWA,w',h1,h2,h3⟩:=hn φ dm cs (Frame.enter P f (ab2 φ args).toArray .normal) [] w (ajq.x ⟨e1,by show af.lo≤H.next;omega,.nil,hr⟩)
 unfold a5v at hd
 split at hd
 ·rename_i pf q1 q2 q3 q0 q4
  split at hd
  ·rename_i hf
   obtain⟨hf1,hf2⟩:=hf
   have bMo:aWA= []:=by
    have:=h2.cs
    rw[q1]at this
    exact this.aOv
   subst bMo
   have h2':=h2.plain q0
   obtain⟨fn,cc,t1,t2,t3,t4⟩:=hC _ _ q4
   rw[t4]at hd
   obtain⟨r1,r2⟩:=avQ (tmps:=fr'.tmps) h2'.fr.reg h2.heap hd
   have hmode:fr'.mode= .returning:=by have:=h2'.fr.mode;rw[q2]at this;exact this
   have hdef:fr'.defers= []:=by
    have:=h2'.fr.ds
    rw[q3]at this
    cases hd:fr'.defers with
    |nil=>rfl
    |cons y ys=>rw[hd]at this;cases this
   have hkind:fr'.kind= .normal:=by have:=h2'.fr.kind;rw[hf2]at this;exact this
   have hfn:fr'.fn=f:=by rw[h2'.fr.fn,hf1]
   refine⟨.returned (abe φ' v),w',fr',⟨φ',dm',rfl,r2,h2.heap,h3⟩,h1,hfn,hmode,hdef,hkind,fn,?_,r1⟩
   rw[h2'.fr.fn];exact t1
  ·contradiction
 ·contradiction
end
end
end Ex
end Go.Proofs.YtfehlbepjmmkeaaGreatDoor
