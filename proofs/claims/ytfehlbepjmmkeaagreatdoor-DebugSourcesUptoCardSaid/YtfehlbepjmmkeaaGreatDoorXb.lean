/-
  DERIVED. An abstract machine, and that its runs are runs of the model: part 2 of 11. No condition.
-/
import Derived.Test.YtfehlbepjmmkeaaGreatDoorXa
import Derived.Laws.IdiomCopy
import Derived.Laws.Append
import Derived.MapKept
namespace Go.Proofs.YtfehlbepjmmkeaaGreatDoor
set_option linter.unusedSimpArgs false
set_option linter.unusedVariables false
section
open Go.RowKit
namespace Ex
noncomputable section
inductive IR where
 |p (x:PIR)
 |load (n:Option Nat)(x:Od)
 |store (n:Nat)(x v:Od)
 |new (elem:Nat)(cells:List AV)
 |box (elem n:Nat)(x:Od)
 |row (elem n:Nat)(cells:List AV)(parts:List (Nat×Nat×Od))
 |aKB (elem size bytes:Nat)(zero:List AV)(l c:Od)
 |append (elem size bytes:Nat)(s x:Od)
 |copy (size:Nat)(d s:Od)
 |asl (r:Option Od)
 |lookup (kd:Nat)(zero:AV)(ok:Bool)(m k:Od)
 |update (kd:Nat)(m k v:Od)
 |delete (kd:Nat)(m k:Od)
 |a6C (m:Od)
 |cap (x:Od)
 |eqP (neg:Bool)(x y:Od)
 |aGy (n size:Nat)(x:Od)(lo hi:Option Od)
 |s2b (elem:Nat)(x:Od)
 |aRI (x:Od)
 |bcU (elem:Nat)(x n:Od)
 |aNB (m:Od)
 |aGA (it:Od)
 |aGC (it:Od)
 |p2u (x:Od)
 |u2p (u n:Nat)(x:Od)
 |aVX (k:Nat)(args:List Od)
 |call (f:Nat)(args:List Od)
 |atb (f:Od)(args:List Od)
 |inv (r:Od)(tab:List (Nat×Nat×Option (Nat×Option Nat)))(args:List Od)
 |defer (f:Od)(args:List Od)
 |panic (x:Od)
 |recover
 |bad
 deriving Inhabited,DecidableEq
def arE (P:Program)(t:TypeId):Nat:=((P.info? t).map (·.bytes)).getD 0
def aNC (P:Program)(t:TypeId):Option (Nat×TypeId):=
 match P.underlying t with
 |some (.map k e)=>match P.underlying k with
  |some (.int _)=>some (0,e)
  |some .string=>some (1,e)
  |some .bool=>some (2,e)
  |some (.pointer x)=>match sizeT P x with
   |some n=>if n=0 then none else some (3,e)
   |none=>none
  |_=>none
 |_=>none
def atc:TypeDesc→Bool
 | .int _=>true
 |_=>false
def aNH:String:=String.singleton (Char.ofNat 47)
def a5k:String:= "internal" ++aNH++ "bytealg.IndexByteString"
def a5l:String:= "internal" ++aNH++ "bytealg.CountString"
def a5n:String:= "internal" ++aNH++ "abi.NoEscape"
def atd (P:Program)(n:String)(i:Nat):Option (Nat×Nat×Option (Nat×Option Nat)):=
 match P.info? i with
 |some ti=>match ti.methods.find? (·.name==n)with
  |some m=>match m.func with
   |some (f,ptr)=>if m.path.isEmpty then (match P.underlying i with
     |some (.pointer _)=>if ptr then some (i,f,none) else none
     |some _=>if ptr then none else some (i,f,none)
     |none=>none)
    else match m.path.toList,ptr with
     | [st],false=>if st.deref then match P.underlying st.struct with
       |some (.struct fs)=>match fs[st.index]? with
        |some fd=>match P.underlying fd.type with
         |some (.pointer _)=>none
         |some _=>match aEA P fd.type,sizeT P fd.type with
          |some true,some n=>if n=0 then none else some (i,f,some (fd.offset,some n))
          |some false,some n=>if n=0 then none else some (i,f,some (fd.offset,none))
          |_,_=>none
         |none=>none
        |none=>none
       |_=>none
       else none
     |_,_=>none
   |none=>none
  |none=>none
 |none=>none
def ag7 (P:Program):Op→IR
 | .load t x=>match aEA P t,sizeT P t,adC x with
   |some true,some n,some u=> .load (some n) u
   |some false,some _,some u=> .load none u
   |_,_,_=> .bad
 | .store t x v=>match sizeT P t,adC x,adC v with
   |some n,some u,some v=> .store n u v
   |_,_,_=> .bad
 | .alloc t=>match zeroOf P t with
   |some z=> .new t z
   |none=> .bad
 | .box t x=>match adC x with
   |some u=> .box t 0 u
   |none=> .bad
 | .buildSlice t len parts=>match P.underlying t with
   |some (.slice e)=>match sizeT P e,zeroOf P e with
    |some s,some z=>match awx s parts.toList with
     |some ps=>if z.length=s∧0<s∧len*s<1000000 then .row e len (List.replicate len z).flatten ps else .bad
     |none=> .bad
    |_,_=> .bad
   |_=> .bad
 | .makeSlice t l c=>match P.underlying t with
   |some (.slice e)=>match sizeT P e,zeroOf P e,adC l,adC c with
    |some s,some z,some l,some c=>if z.length=s∧0<s then .aKB e s (arE P e) z l c else .bad
    |_,_,_,_=> .bad
   |_=> .bad
 | .makeMap _ none=> .asl none
 | .makeMap t (some r)=>match P.underlying t,adC r with
   |some (.map _ _),some u=> .asl (some u)
   |_,_=> .bad
 | .lookup t m k ok=>match aNC P t with
   |some (kd,e)=>match aAX P e,adC m,adC k with
    |some z,some m,some k=> .lookup kd z ok m k
    |_,_,_=> .bad
   |none=> .bad
 | .mapUpdate t m k v=>match aNC P t,adC m,adC k,adC v with
   |some (kd,_),some m,some k,some v=> .update kd m k v
   |_,_,_,_=> .bad
 | .insert t m k v=>match aNC P t,adC m,adC k,adC v with
   |some (kd,_),some m,some k,some v=> .update kd m k v
   |_,_,_,_=> .bad
 | .binOp op t x y _=>match adC x,adC y with
   |some u,some v=>match P.underlying t with
    |some (.pointer e)=>match sizeT P e with
     |some n=>if n=0 then .bad else if op== .eql then .eqP false u v else if op== .neq then .eqP true u v else .bad
     |none=> .bad
    |_=> .bad
   |_,_=> .bad
 | .slice t x lo hi none=>match adC x,odO lo,odO hi,P.underlying t with
   |some u,some l,some h,some (.array n e)=>match sizeT P e with
    |some s=> .aGy n s u l h
    |none=> .bad
   |_,_,_,_=> .bad
 | .call c=>match c.callee with
   | .value (.func f)=>match ajY c.args.toList,P.funcs[f]? with
     |some l,some fn=>if fn.body.isSome∧fn.name≠ "runtime.NumGoroutine" then .call f l
       else if fn.name=a5k then .aVX 0 l
       else if fn.name=a5l then .aVX 1 l
       else if fn.name=a5n then .aVX 2 l else .bad
     |_,_=> .bad
   | .value f=>match ajY c.args.toList,adC f with
     |some l,some u=> .atb u l
     |_,_=> .bad
   | .invoke r n=>match adC r,ajY c.args.toList with
     |some r,some l=> .inv r ((List.range P.types.size).filterMap (atd P n)) l
     |_,_=> .bad
   | .builtin .append=>match ajY c.args.toList,(c.argTypes[0]?).bind P.underlying,(c.argTypes[1]?).bind P.underlying with
     |some [s,x],some (.slice e),some d=>match sizeT P e with
      |some n=>if 0<n∧atc d=false∧(zeroOf P e).map List.length=some n then .append e n (arE P e) s x else .bad
      |none=> .bad
     |_,_,_=> .bad
   | .builtin .copy=>match ajY c.args.toList,(c.argTypes[0]?).bind P.underlying with
     |some [s,x],some (.slice e)=>match sizeT P e with
      |some n=> .copy n s x
      |none=> .bad
     |_,_=> .bad
   | .builtin .delete=>match ajY c.args.toList,(c.argTypes[0]?).bind (aNC P)with
     |some [m,k],some (kd,_)=> .delete kd m k
     |_,_=> .bad
   | .builtin .len=>match ajY c.args.toList,(c.argTypes[0]?).bind P.underlying with
     |some [m],some (.map _ _)=> .a6C m
     |_,_=> .bad
   | .builtin .cap=>match ajY c.args.toList,(c.argTypes[0]?).bind P.underlying with
     |some [m],some (.slice _)=> .cap m
     |_,_=> .bad
   | .builtin .unsafeSliceData=>match ajY c.args.toList with
     |some [x]=> .aRI x
     |_=> .bad
   | .builtin .unsafeString=>match ajY c.args.toList,(c.argTypes[0]?).bind P.underlying with
     |some [x,n],some (.pointer e)=>if P.cellsOf e=1 then .bcU e x n else .bad
     |_,_=> .bad
   | .builtin .recover=>if c.args.isEmpty then .recover else .bad
   | .builtin .panic=>match ajY c.args.toList with
     |some [x]=> .panic x
     |_=> .bad
   |_=> .bad
 | .convert src dst x=>match P.underlying src,P.underlying dst,adC x with
   |some .string,some (.slice e),some u=>match P.underlying e with
    |some (.int .u8)=> .s2b e u
    |_=> .bad
   |some (.pointer t),some .unsafePointer,some u=>match sizeT P t with
    |some n=>if n=0 then .bad else .p2u u
    |none=> .bad
   |some .unsafePointer,some (.pointer t),some u=>match sizeT P t with
    |some n=>if n≠0∧P.cellsOf t=n∧liesAt P P.depth t 1 0 t 1=true then .u2p t n u else .bad
    |none=> .bad
   |_,_,_=> .bad
 | .range t x=>match P.underlying t,adC x with
   |some (.map _ _),some u=> .aNB u
   |_,_=> .bad
 | .next it false=>match adC it with
   |some u=> .aGA u
   |none=> .bad
 | .entry it=>match adC it with
   |some u=> .aGC u
   |none=> .bad
 | .defer c=>match c.callee,ajY c.args.toList with
   | .value f,some l=>match adC f with
     |some u=> .defer u l
     |none=> .bad
   |_,_=> .bad
 | .panic x=>match adC x with
   |some u=> .panic u
   |none=> .bad
 |_=> .bad
def apg (P:Program)(op:Op):IR:=
 match aqw P op with
 |some (.eqk n 1 false x y)=>match ag7 P op with
  | .eqP n' x' y'=> .eqP n' x' y'
  |_=> .p (.eqk n 1 false x y)
 |some x=> .p x
 |none=>ag7 P op
structure PO where
 dst:Option Nat
 guard:Option (Option Nat×Bool)
 ir:IR
 after:Nat
 deriving Inhabited,DecidableEq
def IR.cls:IR→Nat
 | .p _=>0
 | .load .. | .lookup .. | .cap .. | .eqP .. | .aGy .. =>1
 | .a6C _=>1
 | .aRI _=>1
 | .aGC _| .p2u _| .u2p .. =>1
 | .new .. | .box .. | .row .. | .aKB .. =>3
 | .asl _=>3
 |_=>2
def Od.rg (l:List Nat):Od→List Nat
 | .t n=>n::l
 | .c _=>l
def odR (l:List Nat):List Od→List Nat
 | []=>l
 |x::xs=>x.rg (odR l xs)
def aV8 (l:List Nat):Option Od→List Nat
 |none=>l
 |some x=>x.rg l
def aWb (l:List Nat):List (Nat×Nat×Od)→List Nat
 | []=>l
 |(_,_,x)::xs=>x.rg (aWb l xs)
def PIR.rg:PIR→List Nat
 | .mov x=>x.rg []
 | .pick c a b=>c.rg (a.rg (b.rg []))
 | .bin _ x y=>x.rg (y.rg [])
 | .eqk _ _ _ x y=>x.rg (y.rg [])
 | .eqI _ _ x y=>x.rg (y.rg [])
 | .not x=>x.rg []
 | .conv _ x=>x.rg []
 | .mkI _ x=>x.rg []
 | .mkF _ a b=>odR (odR [] b) a
 | .slice _ x lo hi=>x.rg (aV8 (aV8 [] hi) lo)
 | .aGp x lo hi=>x.rg (aV8 (aV8 [] hi) lo)
 | .abP _ x=>x.rg []
 | .field _ _ x=>x.rg []
 | .alW _ x i=>x.rg (i.rg [])
 | .bcL _ _ x i=>x.rg (i.rg [])
 | .ixS x i=>x.rg (i.rg [])
 | .ixA _ _ _ x i=>x.rg (i.rg [])
 | .ext _ x=>x.rg []
 | .bcM _ _ _ x=>x.rg []
 | .afD x=>x.rg []
 | .len x=>x.rg []
 | .a05 x=>x.rg []
 | .build _ ps=>aWb [] ps
 | .mm _ x y=>x.rg (y.rg [])
def IR.rg:IR→List Nat
 | .p x=>x.rg
 | .load _ x=>x.rg []
 | .store _ x v=>x.rg (v.rg [])
 | .new _ _=>[]
 | .box _ _ x=>x.rg []
 | .row _ _ _ ps=>aWb [] ps
 | .aKB _ _ _ _ l c=>l.rg (c.rg [])
 | .append _ _ _ s x=>s.rg (x.rg [])
 | .copy _ d s=>d.rg (s.rg [])
 | .asl r=>aV8 [] r
 | .lookup _ _ _ m k=>m.rg (k.rg [])
 | .update _ m k v=>m.rg (k.rg (v.rg []))
 | .delete _ m k=>m.rg (k.rg [])
 | .a6C m=>m.rg []
 | .cap x=>x.rg []
 | .eqP _ x y=>x.rg (y.rg [])
 | .aGy _ _ x lo hi=>x.rg (aV8 (aV8 [] hi) lo)
 | .s2b _ x=>x.rg []
 | .aRI x=>x.rg []
 | .bcU _ x n=>x.rg (n.rg [])
 | .aNB x=>x.rg []
 | .aGA x=>x.rg []
 | .aGC x=>x.rg []
 | .p2u x=>x.rg []
 | .u2p _ _ x=>x.rg []
 | .aVX _ args=>odR [] args
 | .call _ args=>odR [] args
 | .atb f args=>f.rg (odR [] args)
 | .inv r _ args=>r.rg (odR [] args)
 | .defer f args=>f.rg (odR [] args)
 | .panic x=>x.rg []
 | .recover=>[]
 | .bad=>[]
structure DO where
 i:Nat
 o:PO
 rs:List Nat
 deriving Inhabited,DecidableEq
def PO.rg (o:PO):List Nat:=match o.guard with
 |some (some t,_)=>t::o.ir.rg
 |_=>o.ir.rg
inductive PC where
 |skip|ret|bad
 |seq (a b:PC)
 |cond (c:Od)(a b:PC)
 |block (id:Nat)(b:PC)
 |loop (b:PC)
 |exit (id:Nat)
 |region (ops:List PO)
 |drawn (ops:List DO)
 |fork (ls:List (List PO))
 |aNn (f:Od)(ps:List Nat)(asg body:PC)
 deriving Inhabited,DecidableEq
def guardOf (ops:Array Oper)(o:Oper):Option (Option Nat×Bool):=
 match o.guard with
 |some (g,w)=>some ((ops[g]?).bind (·.dst),w)
 |none=>none
def ate (P:Program)(ops:Array Oper)(b:Nat)(o:Oper):PO:={dst:=o.dst,guard:=guardOf ops o,ir:=apg P o.op,after:=b}
def aX5 (P:Program)(ops:Array Oper):List PO:=
 ops.toList.map fun o=>ate P ops 0 o
def aNR (acc:List Nat):List Edge→Nat
 | []=>0
 |e::l=>if Region.binds .any e then (2^e.on|||acc.getD e.on 0)|||aNR acc l else aNR acc l
def a6F:List Oper→List Nat→List Nat
 | [],acc=>acc
 |o::l,acc=>a6F l (acc++ [aNR acc o.after.toList])
def axS:List Oper→Nat→Bool
 | [],_=>true
 |o::l,j=>(o.after.toList.all fun e=>!Region.binds .any e||decide (e.on<j))&&axS l (j+1)
def mkD (P:Program)(ops:Array Oper):List Oper→List Nat→Nat→List DO
 |o::l,b::bs,i=>⟨i,ate P ops b o,(ate P ops b o).rg⟩::mkD P ops l bs (i+1)
 |_,_,_=>[]
def atg (M:Nat)(e:DO):Bool:=e.o.after&&& M==e.o.after
def aKD (M:Nat)(q:Bool):List DO→Option (DO×List DO)
 | []=>none
 |e::l=>if atg M e&&(!q||e.o.ir.cls !=2) then some (e,l) else match aKD M q l with
  |some (x,l')=>some (x,e::l')
  |none=>none
def aGD:Nat→Nat→List DO→List DO
 |0,_,l=>l
 |f+1,M,l=>match aKD M true l with
  |some (e,l')=>e::aGD f (M|||2^e.i) l'
  |none=>match aKD M false l with
   |some (e,l')=>e::aGD f (M|||2^e.i) l'
   |none=>l
def IR.isStore:IR→Bool
 | .store .. =>true
 |_=>false
def alh (e:DO):List DO→Bool
 | [y]=>e.o.ir.isStore&&y.o.ir.isStore
 |_=>false
def aNS (l:List Nat)(d:Option Nat):Bool:=match d with
 |some d=>l.contains d
 |none=>false
def axT (x y:DO):Bool:=
 (!(aNS y.rs x.o.dst||aNS x.rs y.o.dst)||y.o.after.testBit x.i)&&(x.o.dst.isNone||x.o.dst !=y.o.dst)
def awC:Nat→List DO→Bool
 |_,[]=>true
 |M,e::l=>atg M e&& !M.testBit e.i&&(e.o.ir.cls !=2||alh e l||l.all fun y=>!atg M y)&&l.all (axT e)&&awC (M|||2^e.i) l
def atj (ops:Array Oper):Nat→Array Bool→List (List Nat)
 |0,_=>[[]]
 |f+1,L=>match Region.ready .any ops L with
  | []=>[[]]
  |r::rs=>(r::rs).flatMap fun i=>(atj ops f (L.setIfInBounds i true)).map (i:: ·)
def ali (P:Program)(ops:Array Oper):PC:=
 let F:=aGD ops.size 0 (mkD P ops ops.toList (a6F ops.toList []) 0)
 if axS ops.toList 0&&awC 0 F&&(List.range ops.size).all fun i=>F.any fun e=>e.i==i then .drawn F
 else if ops.size≤4 then .fork ((atj ops ops.size (Array.replicate ops.size false)).map fun idx=>idx.filterMap fun i=>(ops[i]?).map (ate P ops 0)) else .bad
def ae8 (P:Program):Code→PC
 | .skip=> .skip
 | .label _=> .skip
 | .ret=> .ret
 | .seq a b=> .seq (ae8 P a) (ae8 P b)
 | .cond c a b=>match adC c with
   |some c=> .cond c (ae8 P a) (ae8 P b)
   |none=> .bad
 | .block i c=> .block i (ae8 P c)
 | .loop c=> .loop (ae8 P c)
 | .exit i=> .exit i
 | .region _ ops true=>ali P ops
 | .region _ ops false=> .region (aX5 P ops)
 | .rangeFunc f ps a b=>match adC f with
   |some f=> .aNn f ps.toList (ae8 P a) (ae8 P b)
   |none=> .bad
 | .scope c=> .seq (ae8 P c) (.region [])
 | .goto _=> .bad
 | .refuse _=> .bad
inductive afp where
 |cells (n:Nat)(vals:T AV)(elem:Nat)(flex:Bool)(esz fz:Nat)
 |map (ents:List (AV×AV))
 |apa (ents:List (AV×AV))
 |iter (m:Nat)(left:List (AV×AV))(cur:Option (AV×AV))
 |axW
 |loop (ρ:T AV)(nt fn:Nat)(ps:List Nat)(asg body:PC)(st:Nat)(pend:Option PC)(ds:Nat)
 |dfd (opn:Bool)
 deriving Inhabited
structure AH where
 bl:T afp
 next:Nat
 deriving Inhabited
abbrev FUEL:Nat:=24
abbrev LIM:Nat:=1000000
theorem akb {α:Type}(x:Option α)(t:T α)(k j:Nat)(h:k<LIM):(T.set x FUEL t k).get j=if j=k then x else t.get j:=
 T.aMZ x FUEL t k j (by unfold LIM at h;show k+1<2^24;omega)
def AH.put (H:AH)(b:Nat)(x:Option afp):AH:={H with bl:=T.set x FUEL H.bl b}
def AH.add (H:AH)(x:afp):AH:={bl:=T.set (some x) FUEL H.bl H.next,next:=H.next+1}
def putCells:List AV→Nat→T AV→T AV
 | [],_,t=>t
 |v::l,i,t=>putCells l (i+1) (T.set (some v) FUEL t i)
def getCells (t:T AV)(o:Nat):Nat→Option (List AV)
 |0=>some []
 |n+1=>match t.get o with
  |some v=>match getCells t (o+1) n with
   |some l=>some (v::l)
   |none=>none
  |none=>none
def aGI (H:AH)(b o:Nat)(n:Option Nat):Option AV:=
 match H.bl.get b with
 |some (.cells _ t _ _ _ _)=>match n with
  |some n=>match getCells t o n with
   |some l=>some (.agg l)
   |none=>none
  |none=>t.get o
 |_=>none
def alv (H:AH)(b o:Nat)(l:List AV):Option AH:=
 match H.bl.get b with
 |some (.cells n t e f s z)=>if o+l.length≤n∧n<LIM∧z<2∧b<LIM∧l.all AV.one=true then some (H.put b (some (.cells n (putCells l o t) e f s z))) else none
 |_=>none
def ara (H:AH)(e:Nat)(l:List AV)(flex:Bool)(esz fz:Nat):Option (Nat×AH):=
 if H.next<LIM∧l.length<LIM then some (H.next,H.add (.cells l.length (putCells l 0 .E) e flex esz fz)) else none
def aNU (H:AH)(b:Nat):Bool:=
 match H.bl.get b with
 |some (.cells _ _ _ _ _ 0)=>true
 |_=>false
def ptrEq (H:AH)(b o b' o':Nat):Option Bool:=if b=b' then some (o==o') else if aNU H b&&aNU H b' then some false else none
def anZ (H:AH)(kd:Nat)(x y:AV):Option Bool:=
 match kd,x,y with
 |0,.int k a,.int k' b=>if k=k' then some (a==b) else none
 |1,.str l n,.str l' n'=>some (strEq l n l' n')
 |2,.bool a,.bool b=>some (a==b)
 |3,.ptr b o,.ptr b' o'=>ptrEq H b o b' o'
 |_,_,_=>none
def atn (H:AH)(kd:Nat)(k:AV)(l:List (AV×AV)):Bool:=l.all fun p=>(anZ H kd k p.1).isSome
def aGO (H:AH)(kd:Nat)(k:AV):List (AV×AV)→Option AV
 | []=>none
 |(x,v)::l=>if anZ H kd k x=some true then some v else aGO H kd k l
def a1f (H:AH)(kd:Nat)(k v:AV):List (AV×AV)→List (AV×AV)
 | []=>[(k,v)]
 |(x,u)::l=>if anZ H kd k x=some true then (k,v)::l else (x,u)::a1f H kd k v l
def a1i (H:AH)(kd:Nat)(k:AV):List (AV×AV)→List (AV×AV)
 | []=>[]
 |(x,u)::l=>if anZ H kd k x=some true then l else (x,u)::a1i H kd k l
def keyOf (kd:Nat)(k:AV):Bool:=
 match kd,k with
 |0,.int _ _=>true
 |1,.str _ _=>true
 |2,.bool _=>true
 |3,.ptr _ _=>true
 |_,_=>false
def akP (n:Nat):Nat→List AV
 |0=>[]
 |l+1=> .int .u8 ((n%256:Nat):Int)::akP (n / 256) l
def elemsOf (H:AH)(size:Nat):AV→Option (Nat×List AV)
 | .acB=>some (0,[])
 | .slice b o _ n c=>if n=0 then some (0,[]) else match H.bl.get b with
   |some (.cells _ t _ _ _ _)=>if c=0 then none else match getCells t o (n*size)with
    |some l=>some (n,l)
    |none=>none
   |_=>none
 | .str l n=>if size=1 then some (l,akP n l) else none
 |_=>none
def aNY (H:AH)(elem size bytes:Nat)(s x:AV):Option (AV×AH):=
 match elemsOf H size x with
 |none=>none
 |some (m,new)=>
  match s with
  | .acB=>if m=0 then some (.acB,H) else
    if m<LIM∧bytes<LIM then
     match ara H elem new true size 0 with
     |some (b,H')=>some (.slice b 0 0 m m,H')
     |none=>none
    else none
  | .slice b o d n c=>if m=0 then (if n≤c then some (.slice b o d n c,H) else none) else
    match H.bl.get b with
    |some (.cells nc _ el flex esz fz)=>
     if n+m≤c then
      match alv H b (o+n*size) new with
      |some H'=>some (.slice b o d (n+m) c,H')
      |none=>none
     else if n+m<LIM∧bytes<LIM∧b<LIM∧n≤c∧new.all AV.one=true then
      match elemsOf H size s with
      |some (_,old)=>
       match flex with
       |true=>if esz=size∧el=elem∧o+c*size=nc∧(fz<2∨n=c)∧H.next<LIM∧(old++new).length<LIM then
         some (.slice H.next 0 0 (n+m) (n+m),(H.put b none).add (.cells (old++new).length (putCells (old++new) 0 .E) elem true size fz)) else none
       |false=>match ara H elem (old++new) true size 0 with
        |some (b',H')=>some (.slice b' 0 0 (n+m) (n+m),H')
        |none=>none
      |none=>none
     else none
    |_=>none
  |_=>none
def aoO (c:Nat):Nat→Nat→Nat→Option Nat
 |0,_,_=>none
 |l+1,n,i=>if n%256=c then some i else aoO c l (n / 256) (i+1)
def axX (c:Nat):Nat→Nat→Nat
 |0,_=>0
 |l+1,n=>(if n%256=c then 1 else 0)+axX c l (n / 256)
def awD:List AV→Option Nat
 | []=>some 0
 | .int .u8 b::l=>match awD l with
   |some n=>if 0≤b∧b<256 then some (b.toNat+256*n) else none
   |none=>none
 |_::_=>none
def aKE:Nat→List (AV×AV)→Option ((AV×AV)×List (AV×AV))
 |_,[]=>none
 |0,e::l=>some (e,l)
 |i+1,e::l=>match aKE i l with
  |some (x,l')=>some (x,e::l')
  |none=>none
def ard (H:AH)(b i:Nat):Option (AV×AH):=
 match H.bl.get b with
 |some .axW=>some (.tup [.bool false],H)
 |some (.iter m [] _)=>match H.bl.get m with
  |some (.apa l)=>if m<LIM∧b<LIM then some (.tup [.bool false],(H.put b none).put m (some (.map l))) else none
  |_=>none
 |some (.iter m left _)=>match aKE i left with
  |some (e,left')=>if b<LIM then some (.tup [.bool true,e.1,e.2],H.put b (some (.iter m left' (some e)))) else none
  |none=>none
 |_=>none
def anv (H:AH)(b:Nat):Nat:=
 match H.bl.get b with
 |some (.iter _ (_::l) _)=>l.length+1
 |_=>1
def acA (g:Nat→Option AV)(H:AH):IR→Option (AV×AH)
 | .p x=>match x.ev g with
   |some v=>some (v,H)
   |none=>none
 | .load n x=>match x.ev g with
   |some (.ptr b o)=>match aGI H b o n with
    |some v=>some (v,H)
    |none=>none
   |_=>none
 | .store n x v=>match x.ev g with
   |some (.ptr b o)=>match v.ev g with
    |some v=>if v.cells.length=n then match alv H b o v.cells with
      |some H'=>some (.tup [],H')
      |none=>none
     else none
    |none=>none
   |_=>none
 | .new e l=>match ara H e l false 0 0 with
   |some (b,H')=>some (.ptr b 0,H')
   |none=>none
 | .box e _ x=>match x.ev g with
   |some v=>match ara H e v.cells false 0 0 with
    |some (b,H')=>some (.ptr b 0,H')
    |none=>none
   |none=>none
 | .row e n z ps=>match aGr g z ps with
   |some l=>match ara H e l false 0 0 with
    |some (b,H')=>some (.slice b 0 0 n n,H')
    |none=>none
   |none=>none
 | .aKB e s bytes z l c=>match l.ev g with
   |some (.int _ l)=>match c.ev g with
    |some (.int _ c)=>if 0≤l∧l≤c∧c<1000000∧bytes<1000000∧s<1000 then
      match ara H e (List.replicate c.toNat z).flatten false 0 0 with
      |some (b,H')=>some (.slice b 0 0 l.toNat c.toNat,H')
      |none=>none
     else none
    |_=>none
   |_=>none
 | .append e s bytes x y=>match x.ev g with
   |some x=>match y.ev g with
    |some y=>aNY H e s bytes x y
    |none=>none
   |none=>none
 | .copy size d s=>match s.ev g with
   |some x=>match elemsOf H size x with
    |some (m,new)=>match d.ev g with
     |some .acB=>some (.int .i64 0,H)
     |some (.slice b o _ n c)=>if c=0 then none else match alv H b o (new.take (min m n*size))with
      |some H'=>some (.int .i64 ((min m n:Nat):Int),H')
      |none=>none
     |_=>none
    |none=>none
   |none=>none
 | .asl none=>if H.next<LIM then some (.map H.next,H.add (.map [])) else none
 | .asl (some r)=>match r.ev g with
   |some (.int _ _)=>if H.next<LIM then some (.map H.next,H.add (.map [])) else none
   |_=>none
 | .lookup kd z ok m k=>match k.ev g with
   |some k=>match m.ev g with
    |some .aqk=>if keyOf kd k then some (if ok then .tup [z,.bool false] else z,H) else none
    |some (.map b)=>match H.bl.get b with
     |some (.map l)=>if atn H kd k l&&keyOf kd k then
       match aGO H kd k l with
       |some v=>some (if ok then .tup [v,.bool true] else v,H)
       |none=>some (if ok then .tup [z,.bool false] else z,H)
      else none
     |_=>none
    |_=>none
   |none=>none
 | .update kd m k v=>match k.ev g with
   |some k=>match v.ev g with
    |some v=>match m.ev g with
     |some (.map b)=>match H.bl.get b with
      |some (.map l)=>if atn H kd k l&&keyOf kd k&&decide (b<LIM) then some (.tup [],H.put b (some (.map (a1f H kd k v l)))) else none
      |_=>none
     |_=>none
    |none=>none
   |none=>none
 | .delete kd m k=>match k.ev g with
   |some k=>match m.ev g with
    |some .aqk=>if keyOf kd k then some (.tup [],H) else none
    |some (.map b)=>match H.bl.get b with
     |some (.map l)=>if atn H kd k l&&keyOf kd k&&decide (b<LIM) then some (.tup [],H.put b (some (.map (a1i H kd k l)))) else none
     |_=>none
    |_=>none
   |none=>none
 | .a6C m=>match m.ev g with
   |some .aqk=>some (.int .i64 0,H)
   |some (.map b)=>match H.bl.get b with
    |some (.map l)=>some (.int .i64 (l.length:Int),H)
    |_=>none
   |_=>none
 | .cap x=>match x.ev g with
   |some .acB=>some (.int .i64 0,H)
   |some (.slice b _ _ _ c)=>match H.bl.get b with
    |some (.cells _ _ _ false _ _)=>some (.int .i64 (c:Int),H)
    |_=>none
   |_=>none
 | .eqP neg x y=>match x.ev g with
   |some (.ptr b o)=>match y.ev g with
    |some (.ptr b' o')=>match ptrEq H b o b' o' with
     |some r=>some (.bool (if neg then !r else r),H)
     |none=>none
    |some .aqh=>some (.bool neg,H)
    |_=>none
   |some .aqh=>match y.ev g with
    |some (.ptr _ _)=>some (.bool neg,H)
    |some .aqh=>some (.bool !neg,H)
    |_=>none
   |_=>none
 | .aGy n s x lo hi=>match x.ev g with
   |some (.ptr b o)=>match bnd g hi n n with
    |some h=>match bnd g lo 0 h with
     |some l=>match H.bl.get b with
      |some (.cells _ _ _ false _ _)=>some (.slice b (o+l*s) o (h - l) (n - l),H)
      |_=>none
     |none=>none
    |none=>none
   |_=>none
 | .s2b e x=>match x.ev g with
   |some (.str l n)=>if l<1000000 then match ara H e (akP n l) true 1 1 with
     |some (b,H')=>some (.slice b 0 0 l l,H')
     |none=>none
    else none
   |_=>none
 | .aRI x=>match x.ev g with
   |some .acB=>some (.aqh,H)
   |some (.slice b o _ _ c)=>if c=0 then none else some (.ptr b o,H)
   |_=>none
 | .aVX k args=>match k,evs g args with
   |0,some [.str l n,.int .u8 c]=>if c.toNat<256 then some (.int .i64 (match aoO c.toNat l n 0 with|some i=>(i:Int)|none=> -1),H) else none
   |1,some [.str l n,.int .u8 c]=>if c.toNat<256 then some (.int .i64 (axX c.toNat l n:Int),H) else none
   |2,some [x]=>some (x,H)
   |_,_=>none
 | .bcU e x n=>match n.ev g with
   |some (.int .i64 n)=>if 0<n∧n<1000000 then match x.ev g with
     |some (.ptr b o)=>match H.bl.get b with
      |some (.cells nc t el f s z)=>if el=e∧o+n.toNat≤nc∧b<LIM∧z=0 then
        match getCells t o n.toNat with
        |some l=>match awD l with
         |some k=>some (.str n.toNat k,H.put b (some (.cells nc t el f s 2)))
         |none=>none
        |none=>none
       else none
      |_=>none
     |_=>none
    else none
   |_=>none
 | .aNB m=>match m.ev g with
   |some .aqk=>if H.next<LIM then some (.ptr H.next 0,H.add .axW) else none
   |some (.map b)=>match H.bl.get b with
    |some (.map l)=>if H.next<LIM∧b<LIM then some (.ptr H.next 0,(H.put b (some (.apa l))).add (.iter b l none)) else none
    |_=>none
   |_=>none
 | .aGA x=>match x.ev g with
   |some (.ptr b 0)=>if anv H b=1 then ard H b 0 else none
   |_=>none
 | .aGC x=>match x.ev g with
   |some (.ptr b 0)=>match H.bl.get b with
    |some (.iter _ _ (some e))=>some (.tup [e.1,e.2],H)
    |_=>none
   |_=>none
 | .p2u x=>match x.ev g with
   |some (.ptr b o)=>match H.bl.get b with
    |some (.cells n _ _ false _ _)=>if o<n then some (.ptr b o,H) else none
    |_=>none
   |_=>none
 | .u2p u n x=>match x.ev g with
   |some (.ptr b 0)=>match H.bl.get b with
    |some (.cells nc _ el false _ _)=>if el=u∧nc=n then some (.ptr b 0,H) else none
    |_=>none
   |_=>none
 |_=>none
end
end Ex
end
section
open Go.RowKit
namespace Ex
noncomputable section
def a6G (fz:Nat)(z:Nat×Nat)(size top:Nat):Prop:=
 match fz with
 |0=>z=(0,0)
 |1=>∀i,i<size→¬(z.1≤i∧i<z.2)
 |_=>∀i,top≤i→i<size→¬(z.1≤i∧i<z.2)
def bsU:LoopState→Nat
 | .ready=>0
 | .busy=>1
 | .done=>2
 | .exhausted=>3
def anh (P:Program)(φ:Nat→Loc)(dm:Nat→Prop)(w:World)(l:Loc):afp→Prop
 | .cells n vals elem flex esz fz=>∃c z,w.heap[l.blk]? =some (.cells c elem z)∧a6G fz z c.size (l.base+n)∧(flex=false→l.base=0∧l.ext=0∧c.size=n)∧
    (flex=true→c.size=l.base+n+l.ext*esz)∧∀i v,vals.get i=some v→i<n∧sc dm v∧c[l.base+i]? =some (abe φ v)
 | .map ents=>∃es clock,w.heap[l.blk]? =some (.map es clock)∧
    (es.toList.map fun e=>(e.key,e.val)).Perm (ents.map fun p=>(abe φ p.1,abe φ p.2))∧(ents.map fun p=>abe φ p.1).Nodup∧
    (∀p∈ents,sc dm p.1∧sc dm p.2)∧(es.toList.map (·.born)).Nodup∧∀e∈es.toList,e.born<clock
 | .apa ents=>∃es clock,w.heap[l.blk]? =some (.map es clock)∧
    (es.toList.map fun e=>(e.key,e.val)).Perm (ents.map fun p=>(abe φ p.1,abe φ p.2))∧(ents.map fun p=>abe φ p.1).Nodup∧
    (∀p∈ents,sc dm p.1∧sc dm p.2)∧(es.toList.map (·.born)).Nodup∧∀e∈es.toList,e.born<clock
 | .iter m left cur=>dm m∧l.base=0∧∃es clock seen,w.heap[(φ m).blk]? =some (.map es clock)∧w.heap[l.blk]? =some (.mapIter (some (φ m).blk) clock seen clock)∧
    ((es.toList.filter fun e=>!seen.contains e.born).map fun e=>(e.key,e.val)).Perm (left.map fun p=>(abe φ p.1,abe φ p.2))∧
    (∀p∈left,sc dm p.1∧sc dm p.2)∧(∀p,cur=some p→sc dm p.1∧sc dm p.2∧∃e∈es.toList,seen.back?=some e.born∧e.key=abe φ p.1∧e.val=abe φ p.2)
 | .axW=>l.base=0∧∃a b c,w.heap[l.blk]? =some (.mapIter none a b c)
 | .loop ρ nt fn ps asg body st pend ds=>∃L:Loop,w.heap[l.blk]? =some (.loop L)∧nt≤L.tmps.size∧(∃f,P.funcs[fn]? =some f)∧L.fn=fn∧(∀t v,ρ.get t=some v→sc dm v∧L.tmps.getD t undef=abe φ v)∧
    L.params.toList=ps∧ae8 P L.assign=asg∧ae8 P L.body=body∧bsU L.state=st∧L.pending.map (ae8 P)=pend∧dm ds∧(φ ds).blk=L.defers
 | .dfd opn=>w.heap[l.blk]? =some (.deferred (if opn then some [] else none))
def aKH (φ:Nat→Loc)(dm:Nat→Prop)(H:AH)(i:Nat):Prop:=∃b x,H.bl.get b=some x∧dm b∧(φ b).blk=i
structure Rel (P:Program)(φ:Nat→Loc)(dm:Nat→Prop)(H:AH)(w:World):Prop where
 blk:∀b x,H.bl.get b=some x→dm b→anh P φ dm w (φ b) x
 inj:∀b b' x x',H.bl.get b=some x→H.bl.get b'=some x'→dm b→dm b'→(φ b).blk=(φ b').blk→b=b'
 next:∀b,dm b→b<H.next
 glob:∀g,g<a5t→dm g∧φ g=⟨g,0,0⟩
 aEp:∀b m left cur,H.bl.get b=some (.iter m left cur)→dm b→∃ents,H.bl.get m=some (.apa ents)
 uniq:∀b m left cur b' left' cur',H.bl.get b=some (.iter m left cur)→dm b→H.bl.get b'=some (.iter m left' cur')→dm b'→b=b'
def afp.quiet:afp→Bool
 | .apa _| .iter .. =>false
 |_=>true
theorem afp.aWc {x:afp}(h:x.quiet=true)(m:Nat)(left:List (AV×AV))(cur:Option (AV×AV)):x≠ .iter m left cur:=by rintro rfl;cases h
structure Grow (φ:Nat→Loc)(dm:Nat→Prop)(H:AH)(w:World)(φ':Nat→Loc)(dm':Nat→Prop)(H':AH)(w':World):Prop where
 dms:∀b,dm b→dm' b
 ph:∀b,dm b→φ' b=φ b
 os:w'.os=w.os
 tape:w'.tape=w.tape
 output:w'.output=w.output
 size:w.heap.size≤w'.heap.size
 frame:∀i,i<w.heap.size→¬aKH φ dm H i→w'.heap[i]? =w.heap[i]?
 range:∀i,aKH φ' dm' H' i→w.heap.size≤i∨aKH φ dm H i
 next:H.next≤H'.next
 fresh:∀b,dm' b→dm b∨H.next≤b
theorem Grow.refl (φ:Nat→Loc)(dm:Nat→Prop)(H:AH)(w:World):Grow φ dm H w φ dm H w:=
 ⟨fun _ h=>h,fun _ _=>rfl,rfl,rfl,rfl,aai _,fun _ _ _=>rfl,fun _ h=> .inr h,aai _,fun _ h=> .inl h⟩
theorem Grow.trans {φ φ' a6I:Nat→Loc}{dm dm' a6M:Nat→Prop}{H H' H'':AH}{w w' w'':World}
 (h:Grow φ dm H w φ' dm' H' w')(h':Grow φ' dm' H' w' a6I a6M H'' w''):Grow φ dm H w a6I a6M H'' w'' where
 dms b hb:=h'.dms b (h.dms b hb)
 ph b hb:=(h'.ph b (h.dms b hb)).trans (h.ph b hb)
 os:=h'.os.trans h.os
 tape:=h'.tape.trans h.tape
 output:=h'.output.trans h.output
 size:=aa7 h.size h'.size
 frame i hi hn:=by
  refine(h'.frame i (acG hi h.size) fun ho=>?_).trans (h.frame i hi hn)
  rcases h.range i ho with hr|hr
  ·omega
  ·exact hn hr
 range i ho:=by
  rcases h'.range i ho with hr|hr
  ·exact .inl (aa7 h.size hr)
  ·exact h.range i hr
 next:=aa7 h.next h'.next
 fresh b hb:=by
  rcases h'.fresh b hb with hr|hr
  ·exact h.fresh b hr
  ·exact .inr (aa7 h.next hr)
structure GrowS (lo:Nat)(φ:Nat→Loc)(dm:Nat→Prop)(H:AH)(w:World)(φ':Nat→Loc)(dm':Nat→Prop)(H':AH)(w':World):Prop where
 dms:∀b,dm b→dm' b
 ph:∀b,dm b→φ' b=φ b
 os:w'.os=w.os
 tape:w'.tape=w.tape
 output:w'.output=w.output
 size:w.heap.size≤w'.heap.size
 frame:∀i,i<w.heap.size→¬aKH φ dm H i→w'.heap[i]? =w.heap[i]?
 range:∀i,aKH φ' dm' H' i→w.heap.size≤i∨aKH φ dm H i
 next:H.next≤H'.next
 fresh:∀b,dm' b→dm b∨lo≤b
theorem Grow.s {lo:Nat}{φ φ':Nat→Loc}{dm dm':Nat→Prop}{H H':AH}{w w':World}(h:Grow φ dm H w φ' dm' H' w')(hl:lo≤H.next):GrowS lo φ dm H w φ' dm' H' w':=
 ⟨h.dms,h.ph,h.os,h.tape,h.output,h.size,h.frame,h.range,h.next,fun b hb=>(h.fresh b hb).imp id (aa7 hl)⟩
theorem GrowS.refl (lo:Nat)(φ:Nat→Loc)(dm:Nat→Prop)(H:AH)(w:World):GrowS lo φ dm H w φ dm H w:=
 ⟨fun _ h=>h,fun _ _=>rfl,rfl,rfl,rfl,aai _,fun _ _ _=>rfl,fun _ h=> .inr h,aai _,fun _ h=> .inl h⟩
theorem GrowS.trans {lo lo':Nat}{φ φ' a6I:Nat→Loc}{dm dm' a6M:Nat→Prop}{H H' H'':AH}{w w' w'':World}
 (h:GrowS lo φ dm H w φ' dm' H' w')(h':GrowS lo' φ' dm' H' w' a6I a6M H'' w'')(hl:lo≤lo'):GrowS lo φ dm H w a6I a6M H'' w'' where
 dms b hb:=h'.dms b (h.dms b hb)
 ph b hb:=(h'.ph b (h.dms b hb)).trans (h.ph b hb)
 os:=h'.os.trans h.os
 tape:=h'.tape.trans h.tape
 output:=h'.output.trans h.output
 size:=aa7 h.size h'.size
 frame i hi hn:=by
  refine(h'.frame i (acG hi h.size) fun ho=>?_).trans (h.frame i hi hn)
  rcases h.range i ho with hr|hr
  ·omega
  ·exact hn hr
 range i ho:=by
  rcases h'.range i ho with hr|hr
  ·exact .inl (aa7 h.size hr)
  ·exact h.range i hr
 next:=aa7 h.next h'.next
 fresh b hb:=by
  rcases h'.fresh b hb with hr|hr
  ·exact h.fresh b hr
  ·exact .inr (aa7 hl hr)
theorem anh.lt {P:Program}{φ:Nat→Loc}{dm:Nat→Prop}{w:World}{l:Loc}{x:afp}(h:anh P φ dm w l x):l.blk<w.heap.size:=by
 have key:∀o,w.heap[l.blk]? =some o→l.blk<w.heap.size:=fun o ho=>(acK.1 ho).1
 cases x with
 |cells n vals elem flex esz fz=>obtain⟨c,z,hc,_⟩:=h;exact key _ hc
 |map ents=>obtain⟨es,cl,hc,_⟩:=h;exact key _ hc
 |apa ents=>obtain⟨es,cl,hc,_⟩:=h;exact key _ hc
 |iter m left cur=>obtain⟨_,_,es,cl,seen,_,hc,_⟩:=h;exact key _ hc
 |axW=>obtain⟨_,a,b,c,hc⟩:=h;exact key _ hc
 |loop ρ nt fn ps asg body st pend ds=>obtain⟨L,hc,_⟩:=h;exact key _ hc
 |dfd opn=>exact key _ h
theorem Rel.lt {P:Program}{φ:Nat→Loc}{dm:Nat→Prop}{H:AH}{w:World}(h:Rel P φ dm H w){k:Nat}{y:afp}(hk:H.bl.get k=some y)(hd:dm k):(φ k).blk<w.heap.size:=
 (h.blk k y hk hd).lt
theorem anh.mono {P:Program}{φ φ':Nat→Loc}{dm dm':Nat→Prop}{w w':World}{l:Loc}{x:afp}(h:anh P φ dm w l x)
 (hd:∀b,dm b→dm' b)(hp:∀b,dm b→φ' b=φ b)(hw:w'.heap[l.blk]? =w.heap[l.blk]?)
 (hi:∀m left cur,x= .iter m left cur→w'.heap[(φ m).blk]? =w.heap[(φ m).blk]?):anh P φ' dm' w' l x:=by
 have hmap:∀ents:List (AV×AV),(∃es clock,w.heap[l.blk]? =some (.map es clock)∧
  (es.toList.map fun e=>(e.key,e.val)).Perm (ents.map fun p=>(abe φ p.1,abe φ p.2))∧(ents.map fun p=>abe φ p.1).Nodup∧
  (∀p∈ents,sc dm p.1∧sc dm p.2)∧(es.toList.map (·.born)).Nodup∧∀e∈es.toList,e.born<clock)→(∃es clock,w'.heap[l.blk]? =some (.map es clock)∧
  (es.toList.map fun e=>(e.key,e.val)).Perm (ents.map fun p=>(abe φ' p.1,abe φ' p.2))∧(ents.map fun p=>abe φ' p.1).Nodup∧
  (∀p∈ents,sc dm' p.1∧sc dm' p.2)∧(es.toList.map (·.born)).Nodup∧∀e∈es.toList,e.born<clock):=by
  intro ents h
  obtain⟨es,cl,h1,h2,h3,h4,h5,h6⟩:=h
  have he:∀p∈ents,abe φ' p.1=abe φ p.1∧abe φ' p.2=abe φ p.2:=fun p hp'=>⟨ahS hp _ (h4 p hp').1,ahS hp _ (h4 p hp').2⟩
  refine⟨es,cl,hw.trans h1,?_,?_,fun p hp'=>⟨ajD hd _ (h4 p hp').1,ajD hd _ (h4 p hp').2⟩,h5,h6⟩
  ·have e:(ents.map fun p=>(abe φ' p.1,abe φ' p.2))=ents.map fun p=>(abe φ p.1,abe φ p.2):=aec fun p hp'=>by rw[(he p hp').1,(he p hp').2]
   rw[e];exact h2
  ·have e:(ents.map fun p=>abe φ' p.1)=ents.map fun p=>abe φ p.1:=aec fun p hp'=>(he p hp').1
   rw[e];exact h3
 cases x with
 |cells n vals elem flex esz fz=>
  obtain⟨c,z,h1,h0,h2,h3,h4⟩:=h
  refine⟨c,z,hw.trans h1,h0,h2,h3,fun i v hv=>?_⟩
  obtain⟨ha,hb,hc⟩:=h4 i v hv
  exact⟨ha,ajD hd v hb,by rw[ahS hp v hb];exact hc⟩
 |map ents=>exact hmap ents h
 |apa ents=>exact hmap ents h
 |iter m left cur=>
  obtain⟨hm,hbase,es,cl,seen,h1,h2,h3,h4,h5⟩:=h
  have hi':=hi m left cur rfl
  have e:(left.map fun p=>(abe φ' p.1,abe φ' p.2))=left.map fun p=>(abe φ p.1,abe φ p.2):=aec fun p hp'=>by rw[ahS hp _ (h4 p hp').1,ahS hp _ (h4 p hp').2]
  refine⟨hd m hm,hbase,es,cl,seen,by rw[hp m hm,hi'];exact h1,by rw[hp m hm,hw];exact h2,by rw[e];exact h3,fun p hp'=>⟨ajD hd _ (h4 p hp').1,ajD hd _ (h4 p hp').2⟩,fun p hp'=>?_⟩
  obtain⟨q1,q2,x,q3,q4,q5,q6⟩:=h5 p hp'
  exact⟨ajD hd _ q1,ajD hd _ q2,x,q3,q4,by rw[ahS hp _ q1];exact q5,by rw[ahS hp _ q2];exact q6⟩
 |axW=>obtain⟨hbase,a,b,c,hc⟩:=h;exact⟨hbase,a,b,c,hw.trans hc⟩
 |loop ρ nt fn ps asg body st pend ds=>
  obtain⟨L,h1,h0,h00,h2,h3,h4,h5,h6,h7,h8,h9,h10⟩:=h
  refine⟨L,hw.trans h1,h0,h00,h2,fun t v hv=>?_,h4,h5,h6,h7,h8,hd _ h9,by rw[hp _ h9];exact h10⟩
  obtain⟨ha,hb⟩:=h3 t v hv
  exact⟨ajD hd v ha,by rw[ahS hp v ha];exact hb⟩
 |dfd opn=>exact hw.trans h
theorem Rel.iterAt {P:Program}{φ:Nat→Loc}{dm:Nat→Prop}{H:AH}{w:World}(h:Rel P φ dm H w){b m:Nat}{left:List (AV×AV)}{cur:Option (AV×AV)}(hb:H.bl.get b=some (.iter m left cur))(hd:dm b):
 dm m∧∃ents,H.bl.get m=some (.apa ents):=⟨(h.blk b _ hb hd).1,h.aEp _ _ _ _ hb hd⟩
theorem Rel.aWd {P:Program}{φ:Nat→Loc}{dm:Nat→Prop}{H:AH}{w:World}(h:Rel P φ dm H w){b:Nat}(hb:¬dm b){o:Obj}{x:afp}{l:Loc}
 (hl:l.blk=w.heap.size){H':AH}(hg:∀k,H'.bl.get k=if k=b then some x else H.bl.get k)(hn:H.next≤H'.next)(hn':b<H'.next)
 (hx:anh P φ dm (w.alloc o) l x){lo:Nat}(hlo:lo≤b)
 (hq:∀m left cur,x= .iter m left cur→(∃ents,H.bl.get m=some (.apa ents))∧∀b' l' c',H.bl.get b'=some (.iter m l' c')→¬dm b':=by intro _ _ _ h;cases h):
 Rel P (fun k=>if k=b then l else φ k) (fun k=>dm k∨k=b) H' (w.alloc o)∧
 GrowS lo φ dm H w (fun k=>if k=b then l else φ k) (fun k=>dm k∨k=b) H' (w.alloc o):=by
 have hph:∀k,dm k→(if k=b then l else φ k)=φ k:=fun k hk=>if_neg (by rintro rfl;exact hb hk)
 have hheap:∀i,i<w.heap.size→(w.alloc o).heap[i]? =w.heap[i]? :=fun i hi=>ajZ w o i hi
 have hmb:∀m left cur,x= .iter m left cur→m≠b:=fun m left cur hxi=>by subst hxi;intro e;exact hb (e▸hx.1)
 refine⟨⟨fun k y hk hd=>?_,fun k k' y y' hk hk' hd hd' he=>?_,fun k hk=>?_,fun g hg'=>?_,fun k m left cur hk hd=>?_,fun k m left cur k' left' cur' hk hd hk' hd'=>?_⟩,?_⟩
 ·rw[hg]at hk
  by_cases hkb:k=b
  ·subst hkb
   rw[if_pos rfl]at hk
   injection hk with hk
   subst hk
   simp only[if_true]
   exact hx.mono (fun _ h=> .inl h) hph rfl fun _ _ _ _=>rfl
  ·rw[if_neg hkb]at hk
   have hdk:dm k:=hd.resolve_right hkb
   simp only[if_neg hkb]
   refine(h.blk k y hk hdk).mono (fun _ h=> .inl h) hph (hheap _ (h.lt hk hdk)) fun m left cur hy=>?_
   subst hy
   obtain⟨q1,ents,q2⟩:=h.iterAt hk hdk
   exact hheap _ (h.lt q2 q1)
 ·rw[hg]at hk hk'
  by_cases h1:k=b<;>by_cases h2:k'=b
  ·rw[h1,h2]
  ·rw[if_neg h2]at hk'
   have:=h.lt hk' (hd'.resolve_right h2)
   simp only[h1,h2,if_true,if_false]at he
   omega
  ·rw[if_neg h1]at hk
   have:=h.lt hk (hd.resolve_right h1)
   simp only[h1,h2,if_true,if_false]at he
   omega
  ·rw[if_neg h1]at hk
   rw[if_neg h2]at hk'
   simp only[h1,h2,if_false]at he
   exact h.inj k k' y y' hk hk' (hd.resolve_right h1) (hd'.resolve_right h2) he
 ·rcases hk with hk|rfl
  ·exact acG (h.next k hk) hn
  ·exact hn'
 ·obtain⟨h1,h2⟩:=h.glob g hg'
  exact⟨.inl h1,(hph g h1).trans h2⟩
 ·rw[hg]at hk
  by_cases hkb:k=b
  ·rw[if_pos hkb]at hk
   injection hk with hk
   obtain⟨⟨ents,q⟩,_⟩:=hq m left cur hk
   exact⟨ents,by rw[hg,if_neg (hmb _ _ _ hk)];exact q⟩
  ·rw[if_neg hkb]at hk
   obtain⟨q1,ents,q2⟩:=h.iterAt hk (hd.resolve_right hkb)
   exact⟨ents,by rw[hg,if_neg (show ¬m=b from fun e=>hb (e▸q1))];exact q2⟩
 ·rw[hg]at hk hk'
  by_cases h1:k=b<;>by_cases h2:k'=b
  ·rw[h1,h2]
  ·rw[if_pos h1]at hk
   rw[if_neg h2]at hk'
   injection hk with hk
   exact absurd (hd'.resolve_right h2) ((hq m left cur hk).2 _ _ _ hk')
  ·rw[if_neg h1]at hk
   rw[if_pos h2]at hk'
   injection hk' with hk'
   exact absurd (hd.resolve_right h1) ((hq m left' cur' hk').2 _ _ _ hk)
  ·rw[if_neg h1]at hk
   rw[if_neg h2]at hk'
   exact h.uniq k m left cur k' left' cur' hk (hd.resolve_right h1) hk' (hd'.resolve_right h2)
 ·refine⟨fun _ h=> .inl h,hph,rfl,rfl,rfl,by simp,fun i hi _=>hheap i hi,fun i ⟨k,y,hk,hd,he⟩=>?_,hn,fun b' hb'=>hb'.elim .inl fun e=> .inr (by rw[e];exact hlo)⟩
  rw[hg]at hk
  simp only[]at he
  by_cases hkb:k=b
  ·refine .inl ?_
   rw[if_pos hkb,hl]at he
   omega
  ·rw[if_neg hkb]at hk
   rw[if_neg hkb]at he
   exact .inr ⟨k,y,hk,hd.resolve_right hkb,he⟩
theorem GrowS.g {φ φ':Nat→Loc}{dm dm':Nat→Prop}{H H':AH}{w w':World}(h:GrowS H.next φ dm H w φ' dm' H' w'):Grow φ dm H w φ' dm' H' w':=
 ⟨h.dms,h.ph,h.os,h.tape,h.output,h.size,h.frame,h.range,h.next,h.fresh⟩
theorem Rel.alloc {P:Program}{φ:Nat→Loc}{dm:Nat→Prop}{H:AH}{w:World}(h:Rel P φ dm H w){b:Nat}(hb:H.next≤b){o:Obj}{x:afp}{l:Loc}
 (hl:l.blk=w.heap.size){H':AH}(hg:∀k,H'.bl.get k=if k=b then some x else H.bl.get k)(hn:H.next≤H'.next)(hn':b<H'.next)
 (hx:anh P φ dm (w.alloc o) l x)
 (hq:∀m left cur,x= .iter m left cur→(∃ents,H.bl.get m=some (.apa ents))∧∀b' l' c',H.bl.get b'=some (.iter m l' c')→¬dm b':=by intro _ _ _ h;cases h):
 Rel P (fun k=>if k=b then l else φ k) (fun k=>dm k∨k=b) H' (w.alloc o)∧
 Grow φ dm H w (fun k=>if k=b then l else φ k) (fun k=>dm k∨k=b) H' (w.alloc o):=by
 obtain⟨h1,h2⟩:=h.aWd (b:=b) (fun hd=>absurd (h.next _ hd) (by omega)) hl hg hn hn' hx hb hq
 exact⟨h1,h2.g⟩
theorem Rel.turn {P:Program}{φ:Nat→Loc}{dm:Nat→Prop}{H:AH}{w w':World}(h:Rel P φ dm H w){b:Nat}{x0 x:afp}(hb:H.bl.get b=some x0)(hdb:dm b)
 (hos:w'.os=w.os)(htape:w'.tape=w.tape)(hout:w'.output=w.output)(hsize:w'.heap.size=w.heap.size)
 (hheap:∀i,i≠(φ b).blk→w'.heap[i]? =w.heap[i]?){H':AH}(hg:∀k,H'.bl.get k=if k=b then some x else H.bl.get k)(hn:H'.next=H.next)
 (hx:anh P φ dm w' (φ b) x)(h0:∀ents,x0= .apa ents→False:=by intro _ h;cases h)
 (hq:∀m left cur,x= .iter m left cur→m≠b∧(∃ents,H.bl.get m=some (.apa ents))∧∀b' l' c',H.bl.get b'=some (.iter m l' c')→dm b'→b'=b:=by intro _ _ _ h;cases h):
 Rel P φ dm H' w'∧Grow φ dm H w φ dm H' w':=by
 have hmb:∀k m left cur,H.bl.get k=some (.iter m left cur)→dm k→m≠b:=fun k m left cur hk hd e=>by
  obtain⟨ents,q⟩:=h.aEp _ _ _ _ hk hd
  rw[e,hb]at q
  injection q with q
  exact h0 _ q
 refine⟨⟨fun k y hk hd=>?_,fun k k' y y' hk hk' hd hd' he=>?_,fun k hk=>hn▸h.next k hk,h.glob,fun k m left cur hk hd=>?_,fun k m left cur k' left' cur' hk hd hk' hd'=>?_⟩,
  ⟨fun _ h=>h,fun _ _=>rfl,hos,htape,hout,by omega,fun i _ hno=>hheap i fun he=>hno ⟨b,x0,hb,hdb,he.symm⟩,fun i ⟨k,y,hk,hd,he⟩=>?_,Nat.le_of_eq hn.symm,fun _ h=> .inl h⟩⟩
 ·rw[hg]at hk
  by_cases hkb:k=b
  ·subst hkb
   rw[if_pos rfl]at hk
   injection hk with hk
   subst hk
   exact hx
  ·rw[if_neg hkb]at hk
   refine(h.blk k y hk hd).mono (fun _ h=>h) (fun _ _=>rfl) (hheap _ fun he=>hkb (h.inj k b y x0 hk hb hd hdb he)) fun m left cur hy=>?_
   subst hy
   obtain⟨q1,ents,q2⟩:=h.iterAt hk hd
   exact hheap _ fun he=>hmb k m left cur hk hd (h.inj m b _ x0 q2 hb q1 hdb he)
 ·rw[hg]at hk hk'
  have ex:∀k y,(if k=b then some x else H.bl.get k)=some y→∃y,H.bl.get k=some y:=fun k y hk=>by
   by_cases hkb:k=b
   ·exact⟨x0,hkb▸hb⟩
   ·rw[if_neg hkb]at hk;exact⟨y,hk⟩
  obtain⟨z,hz⟩:=ex k y hk
  obtain⟨z',hz'⟩:=ex k' y' hk'
  exact h.inj k k' z z' hz hz' hd hd' he
 ·rw[hg]at hk
  by_cases hkb:k=b
  ·rw[if_pos hkb]at hk
   injection hk with hk
   obtain⟨q1,⟨ents,q2⟩,_⟩:=hq m left cur hk
   exact⟨ents,by rw[hg,if_neg q1];exact q2⟩
  ·rw[if_neg hkb]at hk
   obtain⟨ents,q2⟩:=h.aEp _ _ _ _ hk hd
   exact⟨ents,by rw[hg,if_neg (hmb _ _ _ _ hk hd)];exact q2⟩
 ·rw[hg]at hk hk'
  by_cases h1:k=b<;>by_cases h2:k'=b
  ·rw[h1,h2]
  ·rw[if_pos h1]at hk
   rw[if_neg h2]at hk'
   injection hk with hk
   exact absurd ((hq m left cur hk).2.2 _ _ _ hk' hd') h2
  ·rw[if_neg h1]at hk
   rw[if_pos h2]at hk'
   injection hk' with hk'
   exact absurd ((hq m left' cur' hk').2.2 _ _ _ hk hd) h1
  ·rw[if_neg h1]at hk
   rw[if_neg h2]at hk'
   exact h.uniq k m left cur k' left' cur' hk hd hk' hd'
 ·rw[hg]at hk
  by_cases hkb:k=b
  ·exact .inr ⟨b,x0,hb,hdb,by rw[←he,hkb]⟩
  ·rw[if_neg hkb]at hk
   exact .inr ⟨k,y,hk,hd,he⟩
theorem Rel.weaken {P:Program}{φ:Nat→Loc}{dm:Nat→Prop}{K H:AH}{w:World}(h:Rel P φ dm H w)(hk:∀b x,K.bl.get b=some x→H.bl.get b=some x)(hn:H.next≤K.next)
 (hl:∀b m left cur ents,K.bl.get b=some (.iter m left cur)→H.bl.get m=some (.apa ents)→K.bl.get m=some (.apa ents)):Rel P φ dm K w∧Grow φ dm H w φ dm K w:=
 ⟨⟨fun b x hb=>h.blk b x (hk b x hb),fun b b' x x' hb hb'=>h.inj b b' x x' (hk _ _ hb) (hk _ _ hb'),fun b hb=>acG (h.next b hb) hn,h.glob,
  fun b m left cur hb hd=>by obtain⟨ents,q⟩:=h.aEp _ _ _ _ (hk _ _ hb) hd;exact⟨ents,hl _ _ _ _ _ hb q⟩,
  fun b m left cur b' left' cur' hb hd hb' hd'=>h.uniq b m left cur b' left' cur' (hk _ _ hb) hd (hk _ _ hb') hd'⟩,
  ⟨fun _ h=>h,fun _ _=>rfl,rfl,rfl,rfl,aai _,fun _ _ _=>rfl,fun i ⟨b,x,hb,hd,he⟩=> .inr ⟨b,x,hk b x hb,hd,he⟩,hn,fun _ h=> .inl h⟩⟩
theorem Rel.move {P:Program}{φ:Nat→Loc}{dm:Nat→Prop}{H:AH}{w w':World}(h:Rel P φ dm H w){b0 b:Nat}{x0 x:afp}(hb0:H.bl.get b0=some x0)(hd0:dm b0)(hbn:H.next≤b){l:Loc}
 (hl:l.blk=(φ b0).blk)(hos:w'.os=w.os)(htape:w'.tape=w.tape)(hout:w'.output=w.output)(hsize:w'.heap.size=w.heap.size)
 (hheap:∀i,i≠(φ b0).blk→w'.heap[i]? =w.heap[i]?){H':AH}(hg:∀k,H'.bl.get k=if k=b then some x else if k=b0 then none else H.bl.get k)(hn:H.next≤H'.next)(hn':b<H'.next)
 (hx:anh P φ dm w' l x)(h0:∀ents,x0= .apa ents→False:=by intro _ h;cases h)(hq:∀m left cur,x= .iter m left cur→False:=by intro _ _ _ h;cases h):
 Rel P (fun k=>if k=b then l else φ k) (fun k=>dm k∨k=b) H' w'∧
 Grow φ dm H w (fun k=>if k=b then l else φ k) (fun k=>dm k∨k=b) H' w':=by
 have hb:¬dm b:=fun hd=>absurd (h.next _ hd) (by omega)
 have hph:∀k,dm k→(if k=b then l else φ k)=φ k:=fun k hk=>if_neg (by rintro rfl;exact hb hk)
 have hne:b≠b0:=fun e=>hb (e▸hd0)
 have hmb:∀k m left cur,H.bl.get k=some (.iter m left cur)→dm k→m≠b0:=fun k m left cur hk hd e=>by
  obtain⟨ents,q⟩:=h.aEp _ _ _ _ hk hd
  rw[e,hb0]at q
  injection q with q
  exact h0 _ q
 refine⟨⟨fun k y hk hd=>?_,fun k k' y y' hk hk' hd hd' he=>?_,fun k hk=>?_,fun g hg'=>?_,fun k m left cur hk hd=>?_,fun k m left cur k' left' cur' hk hd hk' hd'=>?_⟩,?_⟩
 ·rw[hg]at hk
  by_cases hkb:k=b
  ·subst hkb
   rw[if_pos rfl]at hk
   injection hk with hk
   subst hk
   simp only[if_true]
   exact hx.mono (fun _ h=> .inl h) hph rfl fun m left cur hy=>(hq _ _ _ hy).elim
  ·rw[if_neg hkb]at hk
   by_cases hk0:k=b0
   ·rw[if_pos hk0]at hk;cases hk
   ·rw[if_neg hk0]at hk
    have hdk:dm k:=hd.resolve_right hkb
    simp only[if_neg hkb]
    refine(h.blk k y hk hdk).mono (fun _ h=> .inl h) hph (hheap _ fun he=>hk0 (h.inj k b0 y x0 hk hb0 hdk hd0 he)) fun m left cur hy=>?_
    subst hy
    obtain⟨q1,ents,q2⟩:=h.iterAt hk hdk
    exact hheap _ fun he=>hmb k m left cur hk hdk (h.inj m b0 _ x0 q2 hb0 q1 hd0 he)
 ·rw[hg]at hk hk'
  have other:∀k y,k≠b→(if k=b then some x else if k=b0 then none else H.bl.get k)=some y→k≠b0∧H.bl.get k=some y:=fun k y hkb hk=>by
   rw[if_neg hkb]at hk
   by_cases hk0:k=b0
   ·rw[if_pos hk0]at hk;cases hk
   ·rw[if_neg hk0]at hk;exact⟨hk0,hk⟩
  try simp only at he
  by_cases h1:k=b<;>by_cases h2:k'=b
  ·rw[h1,h2]
  ·obtain⟨q1,q2⟩:=other k' y' h2 hk'
   rw[if_pos h1,if_neg h2,hl]at he
   exact absurd (h.inj k' b0 y' x0 q2 hb0 (hd'.resolve_right h2) hd0 he.symm) q1
  ·obtain⟨q1,q2⟩:=other k y h1 hk
   rw[if_neg h1,if_pos h2,hl]at he
   exact absurd (h.inj k b0 y x0 q2 hb0 (hd.resolve_right h1) hd0 he) q1
  ·rw[if_neg h1,if_neg h2]at he
   exact h.inj k k' y y' (other k y h1 hk).2 (other k' y' h2 hk').2 (hd.resolve_right h1) (hd'.resolve_right h2) he
 ·rcases hk with hk|rfl
  ·exact acG (h.next k hk) hn
  ·exact hn'
 ·obtain⟨h1,h2⟩:=h.glob g hg'
  exact⟨.inl h1,(hph g h1).trans h2⟩
 ·rw[hg]at hk
  by_cases hkb:k=b
  ·rw[if_pos hkb]at hk
   injection hk with hk
   exact(hq _ _ _ hk).elim
  ·rw[if_neg hkb]at hk
   by_cases hk0:k=b0
   ·rw[if_pos hk0]at hk;cases hk
   ·rw[if_neg hk0]at hk
    have hdk:dm k:=hd.resolve_right hkb
    obtain⟨q1,ents,q2⟩:=h.iterAt hk hdk
    exact⟨ents,by rw[hg,if_neg (show ¬m=b from fun e=>hb (e▸q1)),if_neg (hmb _ _ _ _ hk hdk)];exact q2⟩
 ·rw[hg]at hk hk'
  have other:∀k m left cur,(if k=b then some x else if k=b0 then none else H.bl.get k)=some (.iter m left cur)→k≠b∧H.bl.get k=some (.iter m left cur):=fun k m left cur hk=>by
   by_cases hkb:k=b
   ·rw[if_pos hkb]at hk
    injection hk with hk
    exact(hq _ _ _ hk).elim
   ·rw[if_neg hkb]at hk
    by_cases hk0:k=b0
    ·rw[if_pos hk0]at hk;cases hk
    ·rw[if_neg hk0]at hk;exact⟨hkb,hk⟩
  obtain⟨p1,p2⟩:=other _ _ _ _ hk
  obtain⟨q1,q2⟩:=other _ _ _ _ hk'
  exact h.uniq k m left cur k' left' cur' p2 (hd.resolve_right p1) q2 (hd'.resolve_right q1)
 ·refine⟨fun _ h=> .inl h,hph,hos,htape,hout,by omega,fun i _ hno=>hheap i fun he=>hno ⟨b0,x0,hb0,hd0,he.symm⟩,fun i ⟨k,y,hk,hd,he⟩=>?_,hn,fun b' hb'=>hb'.elim .inl fun e=> .inr (by rw[e];exact hbn)⟩
  rw[hg]at hk
  try simp only at he
  by_cases hkb:k=b
  ·rw[if_pos hkb,hl]at he
   exact .inr ⟨b0,x0,hb0,hd0,he⟩
  ·rw[if_neg hkb]at hk he
   by_cases hk0:k=b0
   ·rw[if_pos hk0]at hk;cases hk
   ·rw[if_neg hk0]at hk
    exact .inr ⟨k,y,hk,hd.resolve_right hkb,he⟩
theorem Rel.same {P:Program}{φ:Nat→Loc}{dm:Nat→Prop}{H:AH}{w w':World}(h:Rel P φ dm H w)(hos:w'.os=w.os)(htape:w'.tape=w.tape)(hout:w'.output=w.output)
 (hheap:w'.heap=w.heap):Rel P φ dm H w'∧Grow φ dm H w φ dm H w':=
 ⟨⟨fun b x hb hd=>(h.blk b x hb hd).mono (fun _ h=>h) (fun _ _=>rfl) (by rw[hheap]) (fun _ _ _ _=>by rw[hheap]),h.inj,h.next,h.glob,h.aEp,h.uniq⟩,
  ⟨fun _ h=>h,fun _ _=>rfl,hos,htape,hout,by rw[hheap];exact aai _,fun i _ _=>by rw[hheap],fun _ h=> .inr h,aai _,fun _ h=> .inl h⟩⟩
end
end Ex
end
section
open Go.RowKit
namespace Ex
noncomputable section
theorem amR (w:World)(o:Obj):(w.alloc o).heap[w.heap.size]? =some o:=by show(w.heap.push o)[w.heap.size]? =some o;exact Array.getElem?_push_size
theorem aED (w:World){g k:Nat}{c:Array Value}{t:TypeId}{z:Nat×Nat}(v:Value)(hg:w.heap[g]? =some (.cells c t z)):
 (w.setCell ⟨g,k,none⟩ v).heap[g]? =some (.cells (c.setIfInBounds k v) t z):=by
 simp[World.setCell,ah5,hg]
theorem anj {P:Program}(g o:Nat)(t:TypeId)(z:Nat×Nat):∀(vs:List Value)(i:Nat)(c:Array Value)(w:World),w.heap[g]? =some (.cells c t z)→
 (∀j,j<vs.length→¬(z.1≤o+i+j∧o+i+j<z.2))→o+i+vs.length≤c.size→(∀v∈vs,v.oneCell'=true)→
 ∃w' c',(storeCells ⟨g,o,none⟩ vs i).run P w= .ok () w'∧w'.os=w.os∧w'.tape=w.tape∧w'.output=w.output∧w'.heap.size=w.heap.size∧(∀k,k≠g→w'.heap[k]? =w.heap[k]?)∧
  w'.heap[g]? =some (.cells c' t z)∧c'.size=c.size∧∀k,c'[k]? =if o+i≤k∧k<o+i+vs.length then vs[k - (o+i)]? else c[k]?
 | [],i,c,w,hg,_,_,_=>⟨w,c,rfl,rfl,rfl,rfl,rfl,fun _ _=>rfl,hg,rfl,fun k=>by rw[if_neg (by simp)]⟩
 |v::r,i,c,w,hg,hz,hl,h1=>by
  have hi:o+i<c.size:=by simp at hl;omega
  have hadd:(⟨g,o,none⟩ :Addr).add i=⟨g,o+i,none⟩:=by unfold Addr.add;split<;>simp_all
  have hcell:w.cell? ⟨g,o+i,none⟩=some c[o+i]:=by simp[World.cell?,hg,hi]
  have hfro:w.frozen? ⟨g,o+i,none⟩=false:=by
   have h0:=hz 0 (by simp)
   obtain⟨lo,hi'⟩:=z
   simp only[World.frozen?,hg,Bool.and_eq_false_iff,decide_eq_false_iff_not]
   simp only[adK]at h0
   omega
  have hst:(store ((⟨g,o,none⟩ :Addr).add i) v).run P w= .ok () (w.setCell ⟨g,o+i,none⟩ v):=by
   rw[hadd,run_store P w _ v _ (h1 v (by simp)),hcell]
   simp[hfro]
  obtain⟨w',c',e1,e2,e3,e4,e5,e6,e7,e8,e9⟩:=anj (P:=P) g o t z r (i+1) (c.setIfInBounds (o+i) v) (w.setCell ⟨g,o+i,none⟩ v) (aED w v hg)
   (fun j hj=>by have:=hz (j+1) (by simp;omega);rwa [show o+i+(j+1)=o+(i+1)+j by omega]at this) (by simp at hl ⊢;omega) (fun x hx=>h1 x (by simp[hx]))
  refine⟨w',c',?_,e2,e3,e4,by rw[e5];simp[World.setCell],fun k hk=>by rw[e6 k hk,Below.heap_setCell _ _ _ _ hk],e7,by rw[e8];simp,fun k=>?_⟩
  ·simp only[storeCells,aa0,hst,aay,e1]
  ·rw[e9]
   simp only[abJ]
   by_cases hk:o+(i+1)≤k∧k<o+(i+1)+r.length
   ·rw[if_pos hk,if_pos (by omega),show k - (o+i)=(k - (o+(i+1)))+1 by omega];rfl
   ·rw[if_neg hk]
    by_cases he:k=o+i
    ·subst he
     rw[if_pos (by omega),abk hi]
     simp
    ·rw[if_neg (by omega),abN (by omega)]
theorem ahj:∀(l:List AV)(o:Nat)(t:T AV)(j:Nat),o+l.length≤LIM→(putCells l o t).get j=if o≤j∧j<o+l.length then l[j - o]? else t.get j
 | [],o,t,j,_=>by rw[if_neg (by simp only[aeM];omega)];rfl
 |v::l,o,t,j,h=>by
  simp only[abJ]at h ⊢
  rw[putCells,ahj l (o+1) _ j (by omega),akb _ _ _ _ (by omega)]
  by_cases hj:o+1≤j∧j<o+1+l.length
  ·rw[if_pos hj,if_pos (by omega),show j - o=(j - (o+1))+1 by omega];rfl
  ·rw[if_neg hj]
   by_cases he:j=o
   ·subst he;rw[if_pos rfl,if_pos (by omega)];simp
   ·rw[if_neg he,if_neg (by omega)]
theorem anQ:∀(n o:Nat)(t:T AV)(l:List AV),getCells t o n=some l→l.length=n∧∀j v,l[j]? =some v→t.get (o+j)=some v
 |0,o,t,l,h=>by injection h with h;subst h;exact⟨rfl,fun j v hv=>by simp at hv⟩
 |n+1,o,t,l,h=>by
  simp only[getCells]at h
  split at h
  ·rename_i v hv
   split at h
   ·rename_i r hr
    injection h with h
    subst h
    obtain⟨h1,h2⟩:=anQ n (o+1) t r hr
    refine⟨by simp[h1],fun j u hu=>?_⟩
    cases j with
    |zero=>simp only[ac3,aej]at hu;subst hu;exact hv
    |succ j=>have:=h2 j u (by simpa using hu);rwa [show o+1+j=o+(j+1) by omega]at this
   ·contradiction
  ·contradiction
def GoodS (lo nb:Nat)(P:Program)(φ:Nat→Loc)(dm:Nat→Prop)(H:AH)(w:World)(r:Result Next)(v:AV)(H':AH):Prop:=
 ∃φ' dm' w' nx,r= .ok nx w'∧(nx= .value (abe φ' v)∨(nx= .skip∧v= .tup []))∧sc dm' v∧Rel P φ' dm' H' w'∧GrowS lo φ dm H w φ' dm' H' w'∧∀c,dm' c→dm c∨c=nb
structure arj (dm:Nat→Prop)(K K' H H':AH):Prop where
 hb:¬dm K.next
 get:∀k,H'.bl.get k=if k=K.next then K'.bl.get K.next else H.bl.get k
 hn:H.next≤H'.next
 lt:K.next<H'.next
def Good (P:Program)(φ:Nat→Loc)(dm:Nat→Prop)(H:AH)(w:World)(r:Result Next)(v:AV)(H':AH):Prop:=
 ∃φ' dm' w' nx,r= .ok nx w'∧(nx= .value (abe φ' v)∨(nx= .skip∧v= .tup []))∧sc dm' v∧Rel P φ' dm' H' w'∧Grow φ dm H w φ' dm' H' w'
section
variable {P:Program}{φ:Nat→Loc}{dm:Nat→Prop}{g:Nat→Option AV}{a:Act}{H:AH}{w:World}
theorem Good.still {r:Result Next}{v:AV}(h:r= .ok (.value (abe φ v)) w)(hs:sc dm v)(hr:Rel P φ dm H w):Good P φ dm H w r v H:=
 ⟨φ,dm,w,_,h,.inl rfl,hs,hr,Grow.refl _ _ _ _⟩
theorem Rel.cell (hr:Rel P φ dm H w){b o n elem esz fz:Nat}{t:T AV}{flex:Bool}{v:AV}(hb:H.bl.get b=some (.cells n t elem flex esz fz))(hd:dm b)(hv:t.get o=some v):
 sc dm v∧w.cell? ⟨(φ b).blk,(φ b).base+o,none⟩=some (abe φ v):=by
 obtain⟨c,z,h1,_,_,_,h5⟩:=hr.blk b _ hb hd
 obtain⟨_,h6,h7⟩:=h5 o v hv
 exact⟨h6,by simp[World.cell?,h1,h7]⟩
def loadT (P:Program)(t:TypeId):Option Nat→Prop
 |some k=>aEA P t=some true∧sizeT P t=some k
 |none=>aEA P t=some false
theorem atp (hr:Rel P φ dm H w){b o:Nat}{n:Option Nat}{v:AV}{t:TypeId}(h:aGI H b o n=some v)(hd:dm b)
 (hn:loadT P t n):
 (loadVar t ⟨(φ b).blk,(φ b).base+o,none⟩).run P w= .ok (abe φ v) w∧sc dm v:=by
 unfold aGI at h
 split at h
 ·rename_i nn tt ee ff ss zz hb
  cases n with
  |some k=>
   simp only at h
   split at h
   ·rename_i l hl
    injection h with h
    subst h
    obtain⟨h1,h2⟩:=anQ k o tt l hl
    have hc:∀j v,(ab2 φ l)[j]? =some v→w.cell? ((⟨(φ b).blk,(φ b).base+o,none⟩ :Addr).add j)=some v:=by
     intro j v hv
     rw[agL]at hv
     cases hlj:l[j]? with
     |none=>rw[hlj]at hv;cases hv
     |some u=>
      rw[hlj]at hv
      injection hv with hv
      subst hv
      have:=(hr.cell hb hd (h2 j u hlj)).2
      rw[agO,agI]
      exact this
    have hload:=run_loadCells_list (P:=P) w _ _ hc
    rw[adP,h1]at hload
    refine⟨?_,(agH dm l).2 fun u hu=>?_⟩
    ·simp only[loadVar,aa0,auR hn.1,aay,if_true,aeb hn.2,hload,abA,abe]
    ·obtain⟨j,hj⟩:=abM.1 hu
     exact(hr.cell hb hd (h2 j u hj)).1
   ·contradiction
  |none=>
   obtain⟨h1,h2⟩:=hr.cell hb hd h
   refine⟨?_,h1⟩
   simp only[loadVar,aa0,auR hn,aay,acf,if_false,run_load,h2]
 ·contradiction
theorem arG (hr:Rel P φ dm H w){b o:Nat}{l:List AV}{H':AH}(h:alv H b o l=some H')(hd:dm b)(hl:scL dm l):
 ∃w',(storeCells ⟨(φ b).blk,(φ b).base+o,none⟩ (ab2 φ l)).run P w= .ok () w'∧Rel P φ dm H' w'∧Grow φ dm H w φ dm H' w':=by
 unfold alv at h
 split at h
 ·rename_i n t e f s z hb
  split at h
  ·rename_i hc
   obtain⟨h1,h2,h3,h4,h5⟩:=hc
   injection h with h
   subst h
   obtain⟨c,zz,k1,k2,k3,k4,k5⟩:=hr.blk b _ hb hd
   have hcs:(φ b).base+n≤c.size:=by
    cases f with
    |false=>obtain⟨q1,q2,q3⟩:=k3 rfl;omega
    |true=>have:=k4 rfl;omega
   have hfz:∀j,j<(ab2 φ l).length→¬(zz.1≤(φ b).base+o+0+j∧(φ b).base+o+0+j<zz.2):=by
    intro j hj
    rw[adP]at hj
    have:z=0∨z=1:=by omega
    rcases this with rfl|rfl
    ·have hzz:zz=(0,0):=k2
     rw[hzz]
     simp
    ·exact k2 _ (by omega)
   obtain⟨w',c',e1,e2,e3,e4,e5,e6,e7,e8,e9⟩:=anj (P:=P) (φ b).blk ((φ b).base+o) e zz (ab2 φ l) 0 c w k1 hfz
    (by rw[adP];omega) (by
      intro v hv
      rw[anl]at hv
      obtain⟨u,hu,rfl⟩:=aaZ.1 hv
      exact aRy φ u (acg.1 h5 u hu))
   refine⟨w',e1,hr.turn hb hd e2 e3 e4 e5 e6 (fun k=>akb _ _ _ _ h4) rfl ?_⟩
   refine⟨c',zz,e7,by rw[e8];exact k2,fun hf=>by rw[e8];exact k3 hf,fun hf=>by rw[e8];exact k4 hf,fun i v hv=>?_⟩
   rw[ahj _ _ _ _ (by omega)]at hv
   by_cases hi:o≤i∧i<o+l.length
   ·rw[if_pos hi]at hv
    refine⟨by omega,aoL hl hv,?_⟩
    rw[e9,adP,if_pos (by omega),agL,show(φ b).base+i - ((φ b).base+o+0)=i - o by omega,hv]
    rfl
   ·rw[if_neg hi]at hv
    obtain⟨q1,q2,q3⟩:=k5 i v hv
    refine⟨q1,q2,?_⟩
    rw[e9,adP,if_neg (by omega)]
    exact q3
  ·contradiction
 ·contradiction
theorem GoodS.good {r:Result Next}{v:AV}{H':AH}{nb:Nat}(h:GoodS H.next nb P φ dm H w r v H'):Good P φ dm H w r v H':=by
 obtain⟨φ',dm',w',nx,h1,h2,h3,h4,h5,_⟩:=h
 exact⟨φ',dm',w',nx,h1,h2,h3,h4,h5.g⟩
theorem arj.self (hr:Rel P φ dm H w){x:afp}(hl:H.next<LIM):arj dm H (H.add x) H (H.add x):=
 ⟨fun hd=>af9 _ (hr.next _ hd),fun k=>by
  show(T.set _ FUEL H.bl H.next).get k=if k=H.next then (T.set _ FUEL H.bl H.next).get H.next else _
  rw[akb _ _ _ _ hl,akb _ _ _ _ hl,if_pos rfl],ab5 _,aeQ _⟩
theorem aWf (hr:Rel P φ dm H w){K K' H':AH}{e b esz lo:Nat}{l:List AV}(h:ara K e l false esz 0=some (b,K'))(hl:scL dm l)(A:arj dm K K' H H')(hlo:lo≤K.next):
 ∃φ' dm',(φ' b)=⟨w.heap.size,0,0⟩∧dm' b∧Rel P φ' dm' H' (w.alloc (.cells (ab2 φ l).toArray e))∧GrowS lo φ dm H w φ' dm' H' (w.alloc (.cells (ab2 φ l).toArray e))∧∀c,dm' c→dm c∨c=K.next:=by
 unfold ara at h
 split at h
 ·rename_i hc
  injection h with h
  injection h with hb hH
  subst hb
  subst hH
  have:=hr.aWd (b:=K.next) A.hb (o:= .cells (ab2 φ l).toArray e) (x:= .cells l.length (putCells l 0 .E) e false esz 0) (l:=⟨w.heap.size,0,0⟩) rfl
   (H':=H') (fun k=>by rw[A.get k,show(K.add (afp.cells l.length (putCells l 0 .E) e false esz 0)).bl.get K.next=some (.cells l.length (putCells l 0 .E) e false esz 0) from by
     show(T.set _ FUEL K.bl K.next).get K.next=_;rw[akb _ _ _ _ hc.1,if_pos rfl]]) A.hn A.lt ?_ hlo
  ·exact⟨_,_,if_pos rfl,.inr rfl,this.1,this.2,fun c hc=>hc⟩
  ·refine⟨(ab2 φ l).toArray,(0,0),amR w _,rfl,fun _=>⟨rfl,rfl,by simp[adP]⟩,(fun hf=>by cases hf),fun i v hv=>?_⟩
   rw[ahj _ _ _ _ (by omega)]at hv
   split at hv
   ·rename_i hi
    refine⟨by omega,aoL hl hv,?_⟩
    simp only[adI,adY,agL]
    rw[alp]at hv
    rw[hv];rfl
   ·rw[T.akl]at hv;cases hv
 ·contradiction
theorem aod {ir:IR}{v:AV}{K':AH}(h:acA g H ir=some (v,K'))(hc:ir.cls=3):∃x,H.next<LIM∧K'=H.add x:=by
 have key:∀{e b esz fz:Nat}{l:List AV}{fl:Bool}{K':AH},ara H e l fl esz fz=some (b,K')→∃x,H.next<LIM∧K'=H.add x:=by
  intro e b esz fz l fl K' h
  unfold ara at h
  split at h
  ·rename_i hc;injection h with h;injection h with _ h;exact⟨_,hc.1,h.symm⟩
  ·contradiction
 cases ir<;>first|(simp[IR.cls]at hc;done)|skip
 case asl r=>
  cases r with
  |none=>
   simp only[acA]at h
   split at h
   ·rename_i hl;injection h with h;injection h with _ h;exact⟨_,hl,h.symm⟩
   ·contradiction
  |some r=>
   simp only[acA]at h
   split at h
   ·split at h
    ·rename_i hl;injection h with h;injection h with _ h;exact⟨_,hl,h.symm⟩
    ·contradiction
   ·contradiction
 all_goals
  simp only[acA]at h
  repeat' split at h
  all_goals first
   |contradiction
   |(rename_i hn;injection h with h;injection h with _ h;subst h;exact key hn)
end
end
end Ex
end
section
open Go.RowKit
namespace Ex
noncomputable section
variable {P:Program}{φ:Nat→Loc}{dm:Nat→Prop}{g:Nat→Option AV}{a:Act}{H H':AH}{w:World}{v:AV}
theorem afs (s:Sem Value){w w':World}{v:Value}(h:s.run P w= .ok v w'):(do pure (Next.value (←s)):Sem Next).run P w= .ok (.value v) w':=by
 simp[h]
theorem aWg (s:Sem Unit){w w':World}(h:s.run P w= .ok () w'):(do s;pure Next.skip:Sem Next).run P w= .ok .skip w':=by
 simp[h]
theorem aX6 {n:Option Nat}{x:Operand}{u:Od}{t:TypeId}(hx:adC x=some u)(hn:loadT P t n)
 (hv:acA g H (.load n u)=some (v,H'))(R:RR φ dm g a)(hr:Rel P φ dm H w):
 Good P φ dm H w ((do pure (Next.value (←Instr.loadAt t (a.eval x))):Sem Next).run P w) v H':=by
 simp only[acA]at hv
 split at hv
 ·rename_i b o he
  split at hv
  ·rename_i r hl
   injection hv with hv
   injection hv with h1 h2
   subst h1
   subst h2
   obtain⟨e1,e2⟩:=abU R hx he
   obtain⟨l1,l2⟩:=atp hr hl e2 hn
   refine Good.still (afs _ ?_) l2 hr
   rw[e1]
   simp only[abe,Instr.loadAt,Instr.sureAddr,aa0,abA,aay]
   exact l1
  ·contradiction
 ·contradiction
theorem a6O {n:Nat}{x y:Operand}{u z:Od}{t:TypeId}(hx:adC x=some u)(hy:adC y=some z)(hn:sizeT P t=some n)
 (hv:acA g H (.store n u z)=some (v,H'))(R:RR φ dm g a)(hr:Rel P φ dm H w):
 Good P φ dm H w ((do Instr.storeAt t (a.eval x) (a.eval y);pure Next.skip:Sem Next).run P w) v H':=by
 simp only[acA]at hv
 split at hv
 ·rename_i b o he
  split at hv
  ·rename_i r hl
   split at hv
   ·rename_i hlen
    split at hv
    ·rename_i H1 hs
     injection hv with hv
     injection hv with h1 h2
     subst h1
     subst h2
     obtain⟨e1,e2⟩:=abU R hx he
     obtain⟨e3,e4⟩:=abU R hy hl
     obtain⟨w',s1,s2,s3⟩:=arG hr hs e2 (agS e4)
     refine⟨φ,dm,w',.skip,aWg _ ?_,.inr ⟨rfl,rfl⟩,by simp[sc,scL],s2,s3⟩
     rw[e1,e3]
     have hc:(abe φ r).cells=(ab2 φ r.cells).toArray:=awz r
     simp only[abe,Instr.storeAt,Instr.sureAddr,aa0,abA,aay,storeVar,aeb hn,hc]
     rw[if_neg (by simp[adP,hlen])]
     exact s1
    ·contradiction
   ·contradiction
  ·contradiction
 ·contradiction
theorem aEP {K K':AH}{e esz b lo:Nat}{l:List AV}(h:ara K e l false esz 0=some (b,K'))(hl:scL dm l)(hr:Rel P φ dm H w)(A:arj dm K K' H H')(hlo:lo≤K.next):
 ∃φ' dm',φ' b=⟨w.heap.size,0,0⟩∧dm' b∧Rel P φ' dm' H' (w.alloc (.cells (ab2 φ l).toArray e))∧(GrowS lo φ dm H w φ' dm' H' (w.alloc (.cells (ab2 φ l).toArray e))∧∀c,dm' c→dm c∨c=K.next)∧
  (newRow e (ab2 φ l).toArray).run P w= .ok ⟨w.heap.size,0,none⟩ (w.alloc (.cells (ab2 φ l).toArray e)):=by
 obtain⟨φ',dm',h1,h2,h3,h4⟩:=aWf hr h hl A hlo
 refine⟨φ',dm',h1,h2,h3,h4,?_⟩
 simp[newRow]
theorem a6R {t:TypeId}{l:List AV}(hz:zeroOf P t=some l){K K':AH}{lo:Nat}(A:arj dm K K' H H')(hlo:lo≤K.next)(hv:acA g K (.new t l)=some (v,K'))(hr:Rel P φ dm H w):
 GoodS lo K.next P φ dm H w ((do pure (Next.value (←Instr.alloc t true (.tuple #[]))):Sem Next).run P w) v H':=by
 simp only[acA]at hv
 split at hv
 ·rename_i b H1 hn
  injection hv with hv
  injection hv with h1 h2
  subst h1
  subst h2
  obtain⟨i,z,hi,hz0,hzz⟩:=ant hz
  obtain⟨hc,hsz,_⟩:=hzz φ dm
  obtain⟨φ',dm',k1,k2,k3,k4,k5⟩:=aEP hn hsz hr A hlo
  refine⟨φ',dm',_,_,afs _ ?_,.inl rfl,k2,k3,k4⟩
  simp only[Instr.alloc,zeroValue,typeInfo,aa0,run_program,aay,hi,abA,hz0,newVar,←hc,k5,abe,k1]
 ·contradiction
theorem bsV {t:TypeId}{l:List AV}(hz:zeroOf P t=some l)(hv:acA g H (.new t l)=some (v,H'))(hr:Rel P φ dm H w):
 Good P φ dm H w ((do pure (Next.value (←Instr.alloc t true (.tuple #[]))):Sem Next).run P w) v H':=by
 obtain⟨x,hl,rfl⟩:=aod hv rfl
 exact(a6R hz (.self hr hl) (aai _) hv hr).good
theorem a6W {t:TypeId}{x:Operand}{u:Od}{n:Nat}(hx:adC x=some u){K K':AH}{lo:Nat}(A:arj dm K K' H H')(hlo:lo≤K.next)(hv:acA g K (.box t n u)=some (v,K'))(R:RR φ dm g a)(hr:Rel P φ dm H w):
 GoodS lo K.next P φ dm H w ((do pure (Next.value (←Instr.box t (a.eval x))):Sem Next).run P w) v H':=by
 simp only[acA]at hv
 split at hv
 ·rename_i r he
  split at hv
  ·rename_i b H1 hn
   injection hv with hv
   injection hv with h1 h2
   subst h1
   subst h2
   obtain⟨e1,e2⟩:=abU R hx he
   obtain⟨φ',dm',k1,k2,k3,k4,k5⟩:=aEP hn (agS e2) hr A hlo
   refine⟨φ',dm',_,_,afs _ ?_,.inl rfl,k2,k3,k4⟩
   have hc:(abe φ r).cells=(ab2 φ r.cells).toArray:=awz r
   simp only[Instr.box,e1,newVar,hc,aa0,k5,aay,abA,abe,k1]
  ·contradiction
 ·contradiction
theorem bsY {t:TypeId}{x:Operand}{u:Od}{n:Nat}(hx:adC x=some u)(hv:acA g H (.box t n u)=some (v,H'))(R:RR φ dm g a)(hr:Rel P φ dm H w):
 Good P φ dm H w ((do pure (Next.value (←Instr.box t (a.eval x))):Sem Next).run P w) v H':=by
 obtain⟨x,hl,rfl⟩:=aod hv rfl
 exact(a6W hx (.self hr hl) (aai _) hv R hr).good
theorem aCv {α:Type}(z:List α)(hz:0<z.length):∀(n i:Nat),i<n*z.length→(List.replicate n z).flatten[i]? =z[i%z.length]?
 |0,i,h=>by simp at h
 |n+1,i,h=>by
  simp only[List.replicate_succ,List.flatten_cons]
  by_cases hi:i<z.length
  ·rw[aby hi,Nat.mod_eq_of_lt hi]
  ·rw[acN (by omega),aCv z hz n (i - z.length) (by rw[Nat.succ_mul]at h;omega),←Nat.mod_eq_sub_mod (by omega)]
theorem aRJ {α:Type}(z:List α)(n:Nat):(List.replicate n z).flatten.length=n*z.length:=by
 simp[List.length_flatten]
theorem aRK (z:List Value)(n:Nat)(hz:0<z.length):((Array.range (n*z.length)).map (fun i=>z.toArray[i%z.toArray.size]!))=(List.replicate n z).flatten.toArray:=by
 apply Array.ext_getElem?
 intro i
 have e:(List.replicate n z).flatten.toArray[i]? =(List.replicate n z).flatten[i]? :=by simp
 rw[e]
 by_cases hi:i<n*z.length
 ·rw[aCv z hz n i hi]
  have hm:i%z.length<z.length:=akS _ hz
  simp[hi,hm]
 ·rw[af6 (by rw[aRJ];omega)]
  simp[hi]
theorem avG (l:List AV)(n:Nat):ab2 φ (List.replicate n l).flatten=(List.replicate n (ab2 φ l)).flatten:=by
 simp[anl,List.map_flatten]
theorem aCw {l:List AV}(h:scL dm l)(n:Nat):scL dm (List.replicate n l).flatten:=by
 refine(agH dm _).2 fun v hv=>?_
 obtain⟨m,hm,hvm⟩:=List.mem_flatten.1 hv
 rw[List.eq_of_mem_replicate hm]at hvm
 exact(agH dm l).1 h v hvm
theorem a6Y {t e:TypeId}{s n:Nat}{z:List AV}{parts:Array (Nat×Operand)}{ps:List (Nat×Nat×Od)}(ht:P.underlying t=some (.slice e))(hs:sizeT P e=some s)(hz:zeroOf P e=some z)
 (hp:awx s parts.toList=some ps)(hc:z.length=s∧0<s∧n*s<1000000)
 {K K':AH}{lo:Nat}(A:arj dm K K' H H')(hlo:lo≤K.next)(hv:acA g K (.row e n (List.replicate n z).flatten ps)=some (v,K'))(R:RR φ dm g a)(hr:Rel P φ dm H w):
 GoodS lo K.next P φ dm H w ((do pure (Next.value (←Instr.buildSlice t n (parts.map fun(i,x)=>(i,a.eval x)))):Sem Next).run P w) v H':=by
 simp only[acA]at hv
 split at hv
 ·rename_i l hl
  split at hv
  ·rename_i b H1 hn
   injection hv with hv
   injection hv with h1 h2
   subst h1
   subst h2
   obtain⟨i,z0,hi,hz0,hzz⟩:=ant hz
   obtain⟨hcz,hsz,_⟩:=hzz φ dm
   obtain⟨hlen,hsp⟩:=ata s parts.toList ps hp
   have hfs:=auS (fun k=>some (k*s,s)) R parts.toList ps _ l
    ⟨hlen,fun k p q hp hq=>by
     obtain⟨⟨h1,h2⟩,h3⟩:=hsp k p q hp hq
     refine⟨?_,h3⟩
     rw[h1,h2]⟩ hl (aCw hsz n)
   obtain⟨φ',dm',k1,k2,k3,k4,k5⟩:=aEP hn hfs.2 hr A hlo
   refine⟨φ',dm',_,_,afs _ ?_,.inl rfl,k2,k3,k4⟩
   have hzl:(ab2 φ z).length=s:=by rw[adP];exact hc.1
   have hzero:((Array.range (n*s)).map (fun i=>(z0.cells)[i%(z0.cells).size]!))=(ab2 φ (List.replicate n z).flatten).toArray:=by
    rw[←hcz,avG]
    have:=aRK (ab2 φ z) n (by omega)
    rw[hzl]at this
    exact this
   have ep:(parts.map fun(x:Nat×Operand)=>(x.1,a.eval x.2)).toList=parts.toList.map fun(x:Nat×Operand)=>(x.1,a.eval x.2):=by simp
   have hf2:=hfs.1
   rw[←ep]at hf2
   have hng:¬n*s>2^24:=by omega
   by_cases h0:n*s=0
   ·have hn0:n=0:=by
     rcases Nat.mul_eq_zero.1 h0 with h|h
     ·exact h
     ·omega
    subst hn0
    have bLZ:¬(0:Nat)>2^24:=by decide
    have hA:∀(f:Nat→Value),Array.map f (Array.range 0)=(ab2 φ (List.replicate 0 z).flatten).toArray:=by intro f;simp[ab2]
    simp only[Instr.buildSlice,aa0,run_underlying ht,aay,aeb hs,Nat.zero_mul,if_neg bLZ,abA,if_true,hA]
    rw[hf2]
    simp only[aa0,k5,aay,abA,abe,k1]
    rfl
   ·simp only[Instr.buildSlice,aa0,run_underlying ht,aay,aeb hs,if_neg hng,abA,if_neg h0,zeroValue,typeInfo,run_program,hi,hz0]
    rw[hzero,hf2]
    simp only[aa0,k5,aay,abA,abe,k1]
    simp
  ·contradiction
 ·contradiction
theorem bsZ {t e:TypeId}{s n:Nat}{z:List AV}{parts:Array (Nat×Operand)}{ps:List (Nat×Nat×Od)}(ht:P.underlying t=some (.slice e))(hs:sizeT P e=some s)(hz:zeroOf P e=some z)
 (hp:awx s parts.toList=some ps)(hc:z.length=s∧0<s∧n*s<1000000)
 (hv:acA g H (.row e n (List.replicate n z).flatten ps)=some (v,H'))(R:RR φ dm g a)(hr:Rel P φ dm H w):
 Good P φ dm H w ((do pure (Next.value (←Instr.buildSlice t n (parts.map fun(i,x)=>(i,a.eval x)))):Sem Next).run P w) v H':=by
 obtain⟨x,hl,rfl⟩:=aod hv rfl
 exact(a6Y ht hs hz hp hc (.self hr hl) (aai _) hv R hr).good
end
end Ex
end
section
open Go.RowKit
namespace Ex
noncomputable section
variable {P:Program}{φ:Nat→Loc}{dm:Nat→Prop}{g:Nat→Option AV}{a:Act}{H H':AH}{w:World}{v:AV}
theorem anS:∀(l n:Nat),(akP n l).length=l
 |0,_=>rfl
 |l+1,n=>by simp[akP,anS l]
theorem atv:∀(l n:Nat),ab2 φ (akP n l)=(ai8 n l).map fun b=>Value.int .u8 b.toNat
 |0,_=>rfl
 |l+1,n=>by
  simp only[akP,ab2,abe,ai8,acv,atv l]
  have h1:=akS n (show 256>0 by omega)
  simp
theorem auT (l n:Nat):scL dm (akP n l):=by
 refine(agH dm _).2 ?_
 induction l generalizing n with
 |zero=>simp[akP]
 |succ l ih=>intro v hv;simp only[akP,abb]at hv;rcases hv with rfl|hv;·simp[sc]
             exact ih _ v hv
theorem aWi:∀(k n l:Nat),k≤l→(ai8 n l).take k=ai8 n k:=fun k n l h=>(aAO k n l h).symm
theorem aoQ (hr:Rel P φ dm H w){size m:Nat}{x:AV}{l:List AV}(h:elemsOf H size x=some (m,l))(hx:sc dm x):
 (∀k,k≤m→(Builtin.firstCells size k (abe φ x)).run P w= .ok (ab2 φ (l.take (k*size))).toArray w)∧scL dm l∧(Builtin.lenOf (abe φ x)).run P w= .ok m w∧l.length=m*size:=by
 cases x with
 |acB=>
  simp only[elemsOf,aej,Prod.mk.injEq]at h
  obtain⟨rfl,rfl⟩:=h
  exact⟨fun k _=>by simp[abe,ab2,Builtin.firstCells],trivial,by simp[abe,Builtin.lenOf],by simp⟩
 |slice b o d n c=>
  simp only[elemsOf]at h
  split at h
  ·rename_i hn
   injection h with h
   injection h with h1 h2
   subst h1 h2 hn
   exact⟨fun k hk=>by obtain rfl:k=0:=by omega
                      simp[abe,ab2,Builtin.firstCells,loadCells,loadCellsFrom],trivial,by simp[abe,Builtin.lenOf],by simp⟩
  ·rename_i hn
   split at h
   ·rename_i nn tt ee ff ss zz hb
    split at h
    ·contradiction
    ·rename_i hc
     split at h
     ·rename_i r hl
      injection h with h
      injection h with h1 h2
      subst h1 h2
      obtain⟨h1,h2⟩:=anQ _ o tt r hl
      refine⟨fun k hk=>?_,(agH dm r).2 fun u hu=>?_,by simp[abe,Builtin.lenOf],h1⟩
      ·have hcc:∀j v,(ab2 φ (r.take (k*size)))[j]? =some v→w.cell? ((⟨(φ b).blk,(φ b).base+o,none⟩ :Addr).add j)=some v:=by
        intro j v hv
        rw[agL,aiV]at hv
        split at hv
        ·cases hlj:r[j]? with
         |none=>rw[hlj]at hv;cases hv
         |some u=>
          rw[hlj]at hv
          injection hv with hv
          subst hv
          have:=(hr.cell hb hx (h2 j u hlj)).2
          rw[agO,agI]
          exact this
        ·cases hv
       simp only[abe]
       rw[if_neg (show ¬c+(φ b).ext=0 by omega)]
       have hkm:k*size≤n*size:=Nat.mul_le_mul_right _ hk
       exact run_firstCells_some (P:=P) w size k _ n _ _ (by rw[adP,ahW,h1];omega) hcc
      ·obtain⟨j,hj⟩:=abM.1 hu
       exact(hr.cell hb hx (h2 j u hj)).1
     ·contradiction
   ·contradiction
 |str q n=>
  simp only[elemsOf]at h
  split at h
  ·rename_i hs
   subst hs
   simp only[aej,Prod.mk.injEq]at h
   obtain⟨rfl,rfl⟩:=h
   refine⟨fun k hk=>?_,auT _ _,by simp[abe,Builtin.lenOf,aob],by rw[anS,aj0]⟩
   simp only[abe,Builtin.firstCells,abA]
   congr 1
   have:(aj9 q n).extract 0 k=aj9 k n:=by rw[axQ q n 0 k (ab6 _) hk];simp
   rw[this,aj0,aGw,atv,←List.map_take,aWi k n q hk]
   simp[aj9]
  ·contradiction
 |_=>simp[elemsOf]at h
theorem wrap_small {n:Int}(h0:0≤n)(h1:n<1000000):IntKind.i64.wrap n=n:=by
 simp[IntKind.wrap,IntKind.bits,IntKind.signed];omega
theorem aRL {t e:TypeId}{s:Nat}{z:List AV}{x y:Operand}{u q:Od}(ht:P.underlying t=some (.slice e))(hs:sizeT P e=some s)(hz:zeroOf P e=some z)
 (hx:adC x=some u)(hy:adC y=some q)(hc:z.length=s∧0<s)
 {K K':AH}{lo:Nat}(A:arj dm K K' H H')(hlo:lo≤K.next)(hv:acA g K (.aKB e s (arE P e) z u q)=some (v,K'))(R:RR φ dm g a)(hr:Rel P φ dm H w):
 GoodS lo K.next P φ dm H w ((do pure (Next.value (←Instr.makeSlice t (a.eval x) (a.eval y))):Sem Next).run P w) v H':=by
 simp only[acA]at hv
 split at hv
 ·rename_i k1 l he
  split at hv
  ·rename_i k2 c he2
   split at hv
   ·rename_i hb
    split at hv
    ·rename_i b H1 hn
     injection hv with hv
     injection hv with h1 h2
     subst h1
     subst h2
     obtain⟨i,z0,hi,hz0,hzz⟩:=ant hz
     obtain⟨hcz,hsz,_⟩:=hzz φ dm
     obtain⟨e1,_⟩:=abU R hx he
     obtain⟨e2,_⟩:=abU R hy he2
     obtain⟨φ',dm',k1',k2',k3,k4,k5⟩:=aEP hn (aCw hsz c.toNat) hr A hlo
     refine⟨φ',dm',_,_,afs _ ?_,.inl rfl,k2',k3,k4⟩
     have hbi:arE P e=i.bytes:=by simp[arE,hi]
     rw[hbi]at hb
     obtain⟨b1,b2,b3,b4,b5⟩:=hb
     have hprod:(i.bytes:Int)*c≤1000000*1000000:=Int.mul_le_mul (by omega) (by omega) (by omega) (by omega)
     have bL0:0≤(i.bytes:Int)*c:=Int.mul_nonneg (by omega) (by omega)
     have bL2:(i.bytes:Int)*l≤1000000*1000000:=Int.mul_le_mul (by omega) (by omega) (by omega) (by omega)
     have hzl:(ab2 φ z).length=s:=by rw[adP];exact hc.1
     have hcells:∀zz:Array Value,zz=(if c.toNat*s=0 then #[] else z0.cells)→((Array.range (c.toNat*s)).map (fun i=>zz[i%zz.size]!))=(ab2 φ (List.replicate c.toNat z).flatten).toArray:=by
      intro zz bL4
      by_cases h0:c.toNat*s=0
      ·have hn0:c.toNat=0:=by
        rcases Nat.mul_eq_zero.1 h0 with h|h
        ·exact h
        ·omega
       rw[hn0];simp[ab2]
      ·rw[bL4,if_neg h0,←hcz,avG]
       have:=aRK (ab2 φ z) c.toNat (by omega)
       rw[hzl]at this
       exact this
     rw[e1,e2]
     simp only[Instr.makeSlice,aa0,run_underlying ht,aay,abe,asInt,asIntOf,abA,typeInfo,run_program,hi,wrap_small b1 (by omega:l<1000000),wrap_small (by omega:0≤c) b3,aeb hs]
     have hc1:(c<0)=False:=by simp;omega
     have hc2:((i.bytes:Int)*c>2^48)=False:=by simp;omega
     have hc3:(l<0)=False:=by simp;omega
     have hc4:(l>c)=False:=by simp;omega
     simp only[hc1,hc2,hc3,hc4,decide_false,Bool.or_false,acf,if_false,or_self,aa0,run_askRoom,aay,aeb hs]
     by_cases h0:c.toNat*s=0
     ·rw[if_pos h0]
      simp only[abA,aa0,aay]
      rw[hcells #[] (by rw[if_pos h0])]
      simp only[k5,aay,abA,k1',abe]
      simp
     ·rw[if_neg h0]
      simp only[aa0,zeroValue,typeInfo,run_program,aay,hi,abA,hz0]
      rw[hcells z0.cells (by rw[if_neg h0])]
      simp only[k5,aay,abA,k1',abe]
      simp
    ·contradiction
   ·contradiction
  ·contradiction
 ·contradiction
theorem a6Z {t e:TypeId}{s:Nat}{z:List AV}{x y:Operand}{u q:Od}(ht:P.underlying t=some (.slice e))(hs:sizeT P e=some s)(hz:zeroOf P e=some z)
 (hx:adC x=some u)(hy:adC y=some q)(hc:z.length=s∧0<s)
 (hv:acA g H (.aKB e s (arE P e) z u q)=some (v,H'))(R:RR φ dm g a)(hr:Rel P φ dm H w):
 Good P φ dm H w ((do pure (Next.value (←Instr.makeSlice t (a.eval x) (a.eval y))):Sem Next).run P w) v H':=by
 obtain⟨x,hl,rfl⟩:=aod hv rfl
 exact(aRL ht hs hz hx hy hc (.self hr hl) (aai _) hv R hr).good
theorem bcX {t e:TypeId}{size:Nat}{x y:Operand}{u q:Od}{ts:Array TypeId}{ty:TypeId}(ht0:ts[0]? =some t)(ht:P.underlying t=some (.slice e))(hs:sizeT P e=some size)
 (hx:adC x=some u)(hy:adC y=some q)(hv:acA g H (.copy size u q)=some (v,H'))(R:RR φ dm g a)(hr:Rel P φ dm H w):
 Good P φ dm H w ((do pure (Next.value (←Builtin.copy_ ts ty #[a.eval x,a.eval y])):Sem Next).run P w) v H':=by
 simp only[acA]at hv
 split at hv
 ·rename_i src he
  split at hv
  ·rename_i m new hel
   obtain⟨e1,e2⟩:=abU R hy he
   obtain⟨l1,l2,l3,l4⟩:=aoQ hr hel e2
   split at hv
   ·rename_i hd
    injection hv with hv
    injection hv with h1 h2
    subst h1
    subst h2
    obtain⟨d1,d2⟩:=abU R hx hd
    refine Good.still (afs _ ?_) (by simp[sc]) hr
    have hf0:=l1 0 (ab6 _)
    rw[e1,d1]
    simp[Builtin.copy_,ht0,run_underlying ht,abe,l3,aeb hs,hf0,goInt]
   ·rename_i b o d n c hd
    split at hv
    ·contradiction
    ·rename_i hc0
     split at hv
     ·rename_i H1 hst
      injection hv with hv
      injection hv with h1 h2
      subst h1
      subst h2
      obtain⟨d1,d2⟩:=abU R hx hd
      obtain⟨w',s1,s2,s3⟩:=arG hr hst d2 (aX4 l2 fun v hv=>List.mem_of_mem_take hv)
      refine⟨φ,dm,w',_,afs _ ?_,.inl rfl,by simp[sc],s2,s3⟩
      have hfm:=l1 (min m n) (Nat.min_le_left _ _)
      rw[e1,d1]
      simp only[Builtin.copy_,ht0,aa0,run_underlying ht,aay,abe,l3,aeb hs]
      have hmin:Nat.min m n=min m n:=rfl
      simp only[adY,ac3,ad6,aa0,run_underlying ht,aay,l3,aeb hs,hmin,hfm]
      rw[if_neg (show ¬c+(φ b).ext=0 by omega)]
      simp only[aa0,s1,aay,abA,goInt]
     ·contradiction
   ·contradiction
  ·contradiction
 ·contradiction
end
end Ex
end
end Go.Proofs.YtfehlbepjmmkeaaGreatDoor
