/-
  DERIVED. An abstract machine, and that its runs are runs of the model: part 8 of 11. No condition.
-/
import Derived.Test.YtfehlbepjmmkeaaGreatDoorXg
namespace Go.Proofs.YtfehlbepjmmkeaaGreatDoor
set_option linter.unusedSimpArgs false
set_option linter.unusedVariables false
open Go.RowKit
namespace Ex
noncomputable section
def btV (ρ:Nat→Option AV)(x:Od):Option AV:=x.ev ρ
def bdD (ρ:Nat→Option AV)(c:Od)(a:Od)(b:Od):Option AV:=match c.ev ρ with
 |some (.bool true)=>a.ev ρ
 |some (.bool false)=>b.ev ρ
 |_=>none
def bt0 (ρ:Nat→Option AV)(op:BinOp)(x:Od)(y:Od):Option AV:=match x.ev ρ with
 |some u=>match y.ev ρ with
  |some v=>bcK op u v
  |none=>none
 |none=>none
def bt1 (ρ:Nat→Option AV)(neg:Bool)(d:Nat)(cst:Bool)(x:Od)(y:Od):Option AV:=match x.ev ρ with
 |some u=>match y.ev ρ with
  |some v=>match aeq d cst u v with
   |some b=>some (.bool (if neg then !b else b))
   |none=>none
  |none=>none
 |none=>none
def bt2 (ρ:Nat→Option AV)(neg:Bool)(ts:List Nat)(x:Od)(y:Od):Option AV:=match x.ev ρ with
 |some u=>match y.ev ρ with
  |some v=>match ieq ts u v with
   |some b=>some (.bool (if neg then !b else b))
   |none=>none
  |none=>none
 |none=>none
def bt5 (ρ:Nat→Option AV)(x:Od):Option AV:=match x.ev ρ with
 |some (.bool b)=>some (.bool !b)
 |_=>none
def bdG (ρ:Nat→Option AV)(k:IntKind)(x:Od):Option AV:=match x.ev ρ with
 |some (.int _ n)=>some (.int k (k.wrap n))
 |_=>none
def bt7 (ρ:Nat→Option AV)(t:Nat)(x:Od):Option AV:=match x.ev ρ with
 |some v=>some (.iface t v)
 |none=>none
def bua (ρ:Nat→Option AV)(f:Nat)(u:List Od)(v:List Od):Option AV:=match evs ρ u with
 |some a=>match evs ρ v with
  |some b=>some (.func f a b)
  |none=>none
 |none=>none
def a9q (ρ:Nat→Option AV)(s:Nat)(x:Od)(lo:Option Od)(hi:Option Od):Option AV:=match x.ev ρ with
 |some (.slice b o d n c)=>match bnd ρ hi n c with
  |some h=>match bnd ρ lo 0 h with
   |some l=>if l≤c then some (.slice b (o+l*s) (if c=0 then d else o) (h - l) (c - l)) else none
   |none=>none
  |none=>none
 |some .acB=>match bnd ρ hi 0 0 with
  |some _=>match bnd ρ lo 0 0 with
   |some _=>some .acB
   |none=>none
  |none=>none
 |_=>none
def a1R (ρ:Nat→Option AV)(x:Od)(lo:Option Od)(hi:Option Od):Option AV:=match x.ev ρ with
 |some (.str ln n)=>match bnd ρ hi ln ln with
  |some h=>match bnd ρ lo 0 h with
   |some l=>some (.str (h - l) (n / 256^l))
   |none=>none
  |none=>none
 |_=>none
def a1T (ρ:Nat→Option AV)(k:Nat)(x:Od):Option AV:=match x.ev ρ with
 |some (.ptr b o)=>some (.ptr b (o+k))
 |_=>none
def a9r (ρ:Nat→Option AV)(agg:Option Nat)(off:Nat)(x:Od):Option AV:=match x.ev ρ with
 |some (.agg l)=>aGs agg off l
 |_=>none
def bdH (ρ:Nat→Option AV)(s:Nat)(x:Od)(i:Od):Option AV:=match x.ev ρ with
 |some (.slice b o _ n c)=>match i.ev ρ with
  |some (.int _ j)=>if 0≤j∧j<n∧0<c then some (.ptr b (o+j.toNat*s)) else none
  |_=>none
 |_=>none
def bdK (ρ:Nat→Option AV)(ln:Nat)(s:Nat)(x:Od)(i:Od):Option AV:=match x.ev ρ with
 |some (.ptr b o)=>match i.ev ρ with
  |some (.int _ j)=>if 0≤j∧j<ln then some (.ptr b (o+j.toNat*s)) else none
  |_=>none
 |_=>none
def bue (ρ:Nat→Option AV)(x:Od)(i:Od):Option AV:=match x.ev ρ with
 |some (.str ln n)=>match i.ev ρ with
  |some (.int _ j)=>if 0≤j∧j<ln then some (.int .u8 (((n / 256^j.toNat%256:Nat)):Int)) else none
  |_=>none
 |_=>none
def bul (ρ:Nat→Option AV)(ln:Nat)(s:Nat)(g:Bool)(x:Od)(i:Od):Option AV:=match x.ev ρ with
 |some (.agg l)=>match i.ev ρ with
  |some (.int _ j)=>if 0≤j∧j<ln then aGs (if g then some s else none) (j.toNat*s) l else none
  |_=>none
 |_=>none
def buq (ρ:Nat→Option AV)(i:Nat)(x:Od):Option AV:=match x.ev ρ with
 |some (.tup l)=>l[i]?
 |_=>none
def bdN (ρ:Nat→Option AV)(t:Nat)(ok:Bool)(z:AV)(x:Od):Option AV:=match x.ev ρ with
 |some .arD=>if ok then some (.tup [z,.bool false]) else none
 |some (.iface u v)=>if u=t then some (if ok then .tup [v,.bool true] else v) else if ok then some (.tup [z,.bool false]) else none
 |_=>none
def bdQ (ρ:Nat→Option AV)(x:Od):Option AV:=match x.ev ρ with
 |some (.ptr b o)=>some (.ptr b o)
 |some (.func f a c)=>some (.func f a c)
 |_=>none
def bur (ρ:Nat→Option AV)(x:Od):Option AV:=match x.ev ρ with
 |some (.slice _ _ _ n _)=>some (.int .i64 n)
 |some .acB=>some (.int .i64 0)
 |_=>none
def bdR (ρ:Nat→Option AV)(x:Od):Option AV:=match x.ev ρ with
 |some (.str l _)=>some (.int .i64 l)
 |_=>none
def a9t (ρ:Nat→Option AV)(z:List AV)(parts:List (Nat×Nat×Od)):Option AV:=match aGr ρ z parts with
 |some l=>some (.agg l)
 |none=>none
def bE6 (ρ:Nat→Option AV)(mx:Bool)(x:Od)(y:Od):Option AV:=match x.ev ρ with
 |some (.int k a)=>match y.ev ρ with
  |some (.int _ b)=>some (.int k (if mx then (if b>a then b else a) else (if b<a then b else a)))
  |_=>none
 |_=>none
def bE9 (ρ:Nat→Option AV)(x:PIR):Option AV:=
 PIR.casesOn (motive:=fun _=>Option AV) x (btV ρ) (bdD ρ) (bt0 ρ) (bt1 ρ) (bt2 ρ) (bt5 ρ) (bdG ρ) (bt7 ρ) (bua ρ) (a9q ρ) (a1R ρ) (a1T ρ) (a9r ρ) (bdH ρ) (bdK ρ) (bue ρ) (bul ρ) (buq ρ) (bdN ρ) (bdQ ρ) (bur ρ) (bdR ρ) (a9t ρ) (bE6 ρ)
theorem bdS (ρ:Nat→Option AV)(x:PIR):bE9 ρ x=x.ev ρ:=by cases x<;>rfl
def aOB (g:Nat→Option AV)(H:AH)(x:PIR):Option (AV×AH):=match bE9 g x with
 |some v=>some (v,H)
 |none=>none
def aLt (g:Nat→Option AV)(H:AH)(n:Option Nat)(x:Od):Option (AV×AH):=match x.ev g with
 |some (.ptr b o)=>match aGI H b o n with
  |some v=>some (v,H)
  |none=>none
 |_=>none
def aHM (g:Nat→Option AV)(H:AH)(n:Nat)(x:Od)(v:Od):Option (AV×AH):=match x.ev g with
 |some (.ptr b o)=>match v.ev g with
  |some v=>if v.cells.length=n then match alv H b o v.cells with
    |some H'=>some (.tup [],H')
    |none=>none
   else none
  |none=>none
 |_=>none
def aSQ (_g:Nat→Option AV)(H:AH)(e:Nat)(l:List AV):Option (AV×AH):=match ara H e l false 0 0 with
 |some (b,H')=>some (.ptr b 0,H')
 |none=>none
def aSX (g:Nat→Option AV)(H:AH)(e:Nat)(_u0:Nat)(x:Od):Option (AV×AH):=match x.ev g with
 |some v=>match ara H e v.cells false 0 0 with
  |some (b,H')=>some (.ptr b 0,H')
  |none=>none
 |none=>none
def aSY (g:Nat→Option AV)(H:AH)(e:Nat)(n:Nat)(z:List AV)(ps:List (Nat×Nat×Od)):Option (AV×AH):=match aGr g z ps with
 |some l=>match ara H e l false 0 0 with
  |some (b,H')=>some (.slice b 0 0 n n,H')
  |none=>none
 |none=>none
def aHQ (g:Nat→Option AV)(H:AH)(e:Nat)(s:Nat)(bytes:Nat)(z:List AV)(l:Od)(c:Od):Option (AV×AH):=match l.ev g with
 |some (.int _ l)=>match c.ev g with
  |some (.int _ c)=>if 0≤l∧l≤c∧c<1000000∧bytes<1000000∧s<1000 then
    match ara H e (List.replicate c.toNat z).flatten false 0 0 with
    |some (b,H')=>some (.slice b 0 0 l.toNat c.toNat,H')
    |none=>none
   else none
  |_=>none
 |_=>none
def aC4 (g:Nat→Option AV)(H:AH)(e:Nat)(s:Nat)(bytes:Nat)(x:Od)(y:Od):Option (AV×AH):=match x.ev g with
 |some x=>match y.ev g with
  |some y=>aNY H e s bytes x y
  |none=>none
 |none=>none
def aLu (g:Nat→Option AV)(H:AH)(size:Nat)(d:Od)(s:Od):Option (AV×AH):=match s.ev g with
 |some x=>match elemsOf H size x with
  |some (m,new)=>match d.ev g with
   |some .acB=>some (.int .i64 0,H)
   |some (.slice b o _ n c)=>if c=0 then none else match alv H b o (new.take (min m n*size))with
    |some H'=>some (.int .i64 ((min m n:Nat):Int),H')
    |none=>none
   |_=>none
  |none=>none
 |none=>none
def aHS (g:Nat→Option AV)(H:AH)(a0:Option Od):Option (AV×AH):=match a0 with
 |none=>if H.next<LIM then some (.map H.next,H.add (.map [])) else none
 |(some r)=>match r.ev g with
  |some (.int _ _)=>if H.next<LIM then some (.map H.next,H.add (.map [])) else none
  |_=>none
def aC7 (g:Nat→Option AV)(H:AH)(kd:Nat)(z:AV)(ok:Bool)(m:Od)(k:Od):Option (AV×AH):=match k.ev g with
 |some k=>match m.ev g with
  |some .aqk=>if keyOf kd k then some (if ok then .tup [z,.bool false] else z,H) else none
  |some (.map b)=>match H.bl.get b with
   |some (.map l)=>if atn H kd k l&&keyOf kd k then
     match aGO H kd k l with
     |some v=>some (if ok then .tup [v,.bool true] else v,H)
     |none=>some (if ok then .tup [z,.bool false] else z,H)
    else none
   |_=>none
  |_=>none
 |none=>none
def aDg (g:Nat→Option AV)(H:AH)(kd:Nat)(m:Od)(k:Od)(v:Od):Option (AV×AH):=match k.ev g with
 |some k=>match v.ev g with
  |some v=>match m.ev g with
   |some (.map b)=>match H.bl.get b with
    |some (.map l)=>if atn H kd k l&&keyOf kd k&&decide (b<LIM) then some (.tup [],H.put b (some (.map (a1f H kd k v l)))) else none
    |_=>none
   |_=>none
  |none=>none
 |none=>none
def aDi (g:Nat→Option AV)(H:AH)(kd:Nat)(m:Od)(k:Od):Option (AV×AH):=match k.ev g with
 |some k=>match m.ev g with
  |some .aqk=>if keyOf kd k then some (.tup [],H) else none
  |some (.map b)=>match H.bl.get b with
   |some (.map l)=>if atn H kd k l&&keyOf kd k&&decide (b<LIM) then some (.tup [],H.put b (some (.map (a1i H kd k l)))) else none
   |_=>none
  |_=>none
 |none=>none
def aLv (g:Nat→Option AV)(H:AH)(m:Od):Option (AV×AH):=match m.ev g with
 |some .aqk=>some (.int .i64 0,H)
 |some (.map b)=>match H.bl.get b with
  |some (.map l)=>some (.int .i64 (l.length:Int),H)
  |_=>none
 |_=>none
def aS2 (g:Nat→Option AV)(H:AH)(x:Od):Option (AV×AH):=match x.ev g with
 |some .acB=>some (.int .i64 0,H)
 |some (.slice b _ _ _ c)=>match H.bl.get b with
  |some (.cells _ _ _ false _ _)=>some (.int .i64 (c:Int),H)
  |_=>none
 |_=>none
def aS3 (g:Nat→Option AV)(H:AH)(neg:Bool)(x:Od)(y:Od):Option (AV×AH):=match x.ev g with
 |some (.ptr b o)=>match y.ev g with
  |some (.ptr b' o')=>match ptrEq H b o b' o' with
   |some r=>some (.bool (if neg then !r else r),H)
   |none=>none
  |some .aqh=>some (.bool neg,H)
  |_=>none
 |some .aqh=>match y.ev g with
  |some (.ptr _ _)=>some (.bool neg,H)
  |some .aqh=>some (.bool !neg,H)
  |_=>none
 |_=>none
def aDk (g:Nat→Option AV)(H:AH)(n:Nat)(s:Nat)(x:Od)(lo:Option Od)(hi:Option Od):Option (AV×AH):=match x.ev g with
 |some (.ptr b o)=>match bnd g hi n n with
  |some h=>match bnd g lo 0 h with
   |some l=>match H.bl.get b with
    |some (.cells _ _ _ false _ _)=>some (.slice b (o+l*s) o (h - l) (n - l),H)
    |_=>none
   |none=>none
  |none=>none
 |_=>none
def aS6 (g:Nat→Option AV)(H:AH)(e:Nat)(x:Od):Option (AV×AH):=match x.ev g with
 |some (.str l n)=>if l<1000000 then match ara H e (akP n l) true 1 1 with
   |some (b,H')=>some (.slice b 0 0 l l,H')
   |none=>none
  else none
 |_=>none
def aHW (g:Nat→Option AV)(H:AH)(x:Od):Option (AV×AH):=match x.ev g with
 |some .acB=>some (.aqh,H)
 |some (.slice b o _ _ c)=>if c=0 then none else some (.ptr b o,H)
 |_=>none
def aLw (g:Nat→Option AV)(H:AH)(e:Nat)(x:Od)(n:Od):Option (AV×AH):=match n.ev g with
 |some (.int .i64 n)=>if 0<n∧n<1000000 then match x.ev g with
   |some (.ptr b o)=>match H.bl.get b with
    |some (.cells nc t el f s z)=>if el=e∧o+n.toNat≤nc∧b<LIM∧z=0 then
      match getCells t o n.toNat with
      |some l=>match awD l with
       |some k=>some (.str n.toNat k,H.put b (some (.cells nc t el f s 2)))
       |none=>none
      |none=>none
     else none
    |_=>none
   |_=>none
  else none
 |_=>none
def aDl (g:Nat→Option AV)(H:AH)(m:Od):Option (AV×AH):=match m.ev g with
 |some .aqk=>if H.next<LIM then some (.ptr H.next 0,H.add .axW) else none
 |some (.map b)=>match H.bl.get b with
  |some (.map l)=>if H.next<LIM∧b<LIM then some (.ptr H.next 0,(H.put b (some (.apa l))).add (.iter b l none)) else none
  |_=>none
 |_=>none
def aHX (g:Nat→Option AV)(H:AH)(x:Od):Option (AV×AH):=match x.ev g with
 |some (.ptr b 0)=>if anv H b=1 then ard H b 0 else none
 |_=>none
def aDo (g:Nat→Option AV)(H:AH)(x:Od):Option (AV×AH):=match x.ev g with
 |some (.ptr b 0)=>match H.bl.get b with
  |some (.iter _ _ (some e))=>some (.tup [e.1,e.2],H)
  |_=>none
 |_=>none
def aS7 (g:Nat→Option AV)(H:AH)(x:Od):Option (AV×AH):=match x.ev g with
 |some (.ptr b o)=>match H.bl.get b with
  |some (.cells n _ _ false _ _)=>if o<n then some (.ptr b o,H) else none
  |_=>none
 |_=>none
def aTc (g:Nat→Option AV)(H:AH)(u:Nat)(n:Nat)(x:Od):Option (AV×AH):=match x.ev g with
 |some (.ptr b 0)=>match H.bl.get b with
  |some (.cells nc _ el false _ _)=>if el=u∧nc=n then some (.ptr b 0,H) else none
  |_=>none
 |_=>none
def aLx (g:Nat→Option AV)(H:AH)(k:Nat)(args:List Od):Option (AV×AH):=match k,evs g args with
 |0,some [.str l n,.int .u8 c]=>if c.toNat<256 then some (.int .i64 (match aoO c.toNat l n 0 with|some i=>(i:Int)|none=> -1),H) else none
 |1,some [.str l n,.int .u8 c]=>if c.toNat<256 then some (.int .i64 (axX c.toNat l n:Int),H) else none
 |2,some [x]=>some (x,H)
 |_,_=>none
def ayK (g:Nat→Option AV)(H:AH)(x:IR):Option (AV×AH):=
 IR.casesOn (motive:=fun _=>Option (AV×AH)) x (aOB g H) (aLt g H) (aHM g H) (aSQ g H) (aSX g H) (aSY g H) (aHQ g H) (aC4 g H) (aLu g H) (aHS g H) (aC7 g H) (aDg g H) (aDi g H) (aLv g H) (aS2 g H) (aS3 g H) (aDk g H) (aS6 g H) (aHW g H) (aLw g H) (aDl g H) (aHX g H) (aDo g H) (aS7 g H) (aTc g H) (aLx g H) (fun _ _=>none) (fun _ _=>none) (fun _ _ _=>none) (fun _ _=>none) (fun _=>none) (none) (none)
theorem atQ (g:Nat→Option AV)(H:AH)(x:IR):ayK g H x=acA g H x:=by
 cases x
 case p x=>show aOB g H x=_;simp only[aOB,bdS];rfl
 case asl r=>cases r<;>rfl
 all_goals rfl
end
end Ex
end Go.Proofs.YtfehlbepjmmkeaaGreatDoor
