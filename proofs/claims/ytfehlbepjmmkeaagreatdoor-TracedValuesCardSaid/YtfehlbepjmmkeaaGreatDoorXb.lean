/-
  DERIVED. An abstract machine, and that its runs are runs of the model: part 2 of 11. No condition.
-/
import Derived.Test.YtfehlbepjmmkeaaGreatDoorXa
import Derived.Laws.IdiomCopy
import Derived.Laws.Append
import Derived.MapKept
namespace Go.Proofs.YtfehlbepjmmkeaaGreatDoor
open Go.RowKit
namespace Ex
noncomputable section
inductive IR where
  | p (x : PIR)
  | load (n : Option Nat) (x : Od)
  | store (n : Nat) (x v : Od)
  | new (elem : Nat) (cells : List AV)
  | box (elem n : Nat) (x : Od)
  | row (elem n : Nat) (cells : List AV) (parts : List (Nat × Nat × Od))
  | makeS (elem size bytes : Nat) (zero : List AV) (l c : Od)
  | append (elem size bytes : Nat) (s x : Od)
  | copy (size : Nat) (d s : Od)
  | makeM (r : Option Od)
  | lookup (kd : Nat) (zero : AV) (ok : Bool) (m k : Od)
  | update (kd : Nat) (m k v : Od)
  | delete (kd : Nat) (m k : Od)
  | lenM (m : Od)
  | cap (x : Od)
  | eqP (neg : Bool) (x y : Od)
  | sliceA (n size : Nat) (x : Od) (lo hi : Option Od)
  | s2b (elem : Nat) (x : Od)
  | sdata (x : Od)
  | ustr (elem : Nat) (x n : Od)
  | rangeM (m : Od)
  | nextM (it : Od)
  | entryM (it : Od)
  | p2u (x : Od)
  | u2p (u n : Nat) (x : Od)
  | extF (k : Nat) (args : List Od)
  | call (f : Nat) (args : List Od)
  | callV (f : Od) (args : List Od)
  | inv (r : Od) (tab : List (Nat × Nat × Option (Nat × Option Nat))) (args : List Od)
  | defer (f : Od) (args : List Od)
  | panic (x : Od)
  | recover
  | bad
  deriving Inhabited, DecidableEq
def bytesT (P : Program) (t : TypeId) : Nat := ((P.info? t).map (·.bytes)).getD 0
def keyK (P : Program) (t : TypeId) : Option (Nat × TypeId) :=
  match P.underlying t with
  | some (.map k e) => match P.underlying k with
    | some (.int _) => some (0, e)
    | some .string => some (1, e)
    | some .bool => some (2, e)
    | some (.pointer x) => match sizeT P x with
      | some n => if n = 0 then none else some (3, e)
      | none => none
    | _ => none
  | _ => none
def isIntD : TypeDesc → Bool
  | .int _ => true
  | _ => false
def nmSlash : String := String.singleton (Char.ofNat 47)
def nmIdx : String := "internal" ++ nmSlash ++ "bytealg.IndexByteString"
def nmCnt : String := "internal" ++ nmSlash ++ "bytealg.CountString"
def nmEsc : String := "internal" ++ nmSlash ++ "abi.NoEscape"
def methAt (P : Program) (n : String) (i : Nat) : Option (Nat × Nat × Option (Nat × Option Nat)) :=
  match P.info? i with
  | some ti => match ti.methods.find? (·.name == n) with
    | some m => match m.func with
      | some (f, ptr) => if m.path.isEmpty then (match P.underlying i with
          | some (.pointer _) => if ptr then some (i, f, none) else none
          | some _ => if ptr then none else some (i, f, none)
          | none => none)
        else match m.path.toList, ptr with
          | [st], false => if st.deref then match P.underlying st.struct with
            | some (.struct fs) => match fs[st.index]? with
              | some fd => match P.underlying fd.type with
                | some (.pointer _) => none
                | some _ => match aggB P fd.type, sizeT P fd.type with
                  | some true, some n => if n = 0 then none else some (i, f, some (fd.offset, some n))
                  | some false, some n => if n = 0 then none else some (i, f, some (fd.offset, none))
                  | _, _ => none
                | none => none
              | none => none
            | _ => none
            else none
          | _, _ => none
      | none => none
    | none => none
  | none => none
def prepM (P : Program) : Op → IR
  | .load t x => match aggB P t, sizeT P t, odOf x with
    | some true, some n, some u => .load (some n) u
    | some false, some _, some u => .load none u
    | _, _, _ => .bad
  | .store t x v => match sizeT P t, odOf x, odOf v with
    | some n, some u, some v => .store n u v
    | _, _, _ => .bad
  | .alloc t => match zeroOf P t with
    | some z => .new t z
    | none => .bad
  | .box t x => match odOf x with
    | some u => .box t 0 u
    | none => .bad
  | .buildSlice t len parts => match P.underlying t with
    | some (.slice e) => match sizeT P e, zeroOf P e with
      | some s, some z => match partsR s parts.toList with
        | some ps => if z.length = s ∧ 0 < s ∧ len * s < 1000000 then .row e len (List.replicate len z).flatten ps else .bad
        | none => .bad
      | _, _ => .bad
    | _ => .bad
  | .makeSlice t l c => match P.underlying t with
    | some (.slice e) => match sizeT P e, zeroOf P e, odOf l, odOf c with
      | some s, some z, some l, some c => if z.length = s ∧ 0 < s then .makeS e s (bytesT P e) z l c else .bad
      | _, _, _, _ => .bad
    | _ => .bad
  | .makeMap _ none => .makeM none
  | .makeMap t (some r) => match P.underlying t, odOf r with
    | some (.map _ _), some u => .makeM (some u)
    | _, _ => .bad
  | .lookup t m k ok => match keyK P t with
    | some (kd, e) => match zeroAV P e, odOf m, odOf k with
      | some z, some m, some k => .lookup kd z ok m k
      | _, _, _ => .bad
    | none => .bad
  | .mapUpdate t m k v => match keyK P t, odOf m, odOf k, odOf v with
    | some (kd, _), some m, some k, some v => .update kd m k v
    | _, _, _, _ => .bad
  | .insert t m k v => match keyK P t, odOf m, odOf k, odOf v with
    | some (kd, _), some m, some k, some v => .update kd m k v
    | _, _, _, _ => .bad
  | .binOp op t x y _ => match odOf x, odOf y with
    | some u, some v => match P.underlying t with
      | some (.pointer e) => match sizeT P e with
        | some n => if n = 0 then .bad else if op == .eql then .eqP false u v else if op == .neq then .eqP true u v else .bad
        | none => .bad
      | _ => .bad
    | _, _ => .bad
  | .slice t x lo hi none => match odOf x, odO lo, odO hi, P.underlying t with
    | some u, some l, some h, some (.array n e) => match sizeT P e with
      | some s => .sliceA n s u l h
      | none => .bad
    | _, _, _, _ => .bad
  | .call c => match c.callee with
    | .value (.func f) => match odsOf c.args.toList, P.funcs[f]? with
      | some l, some fn => if fn.body.isSome ∧ fn.name ≠ "runtime.NumGoroutine" then .call f l
          else if fn.name = nmIdx then .extF 0 l
          else if fn.name = nmCnt then .extF 1 l
          else if fn.name = nmEsc then .extF 2 l else .bad
      | _, _ => .bad
    | .value f => match odsOf c.args.toList, odOf f with
      | some l, some u => .callV u l
      | _, _ => .bad
    | .invoke r n => match odOf r, odsOf c.args.toList with
      | some r, some l => .inv r ((List.range P.types.size).filterMap (methAt P n)) l
      | _, _ => .bad
    | .builtin .append => match odsOf c.args.toList, (c.argTypes[0]?).bind P.underlying, (c.argTypes[1]?).bind P.underlying with
      | some [s, x], some (.slice e), some d => match sizeT P e with
        | some n => if 0 < n ∧ isIntD d = false ∧ (zeroOf P e).map List.length = some n then .append e n (bytesT P e) s x else .bad
        | none => .bad
      | _, _, _ => .bad
    | .builtin .copy => match odsOf c.args.toList, (c.argTypes[0]?).bind P.underlying with
      | some [s, x], some (.slice e) => match sizeT P e with
        | some n => .copy n s x
        | none => .bad
      | _, _ => .bad
    | .builtin .delete => match odsOf c.args.toList, (c.argTypes[0]?).bind (keyK P) with
      | some [m, k], some (kd, _) => .delete kd m k
      | _, _ => .bad
    | .builtin .len => match odsOf c.args.toList, (c.argTypes[0]?).bind P.underlying with
      | some [m], some (.map _ _) => .lenM m
      | _, _ => .bad
    | .builtin .cap => match odsOf c.args.toList, (c.argTypes[0]?).bind P.underlying with
      | some [m], some (.slice _) => .cap m
      | _, _ => .bad
    | .builtin .unsafeSliceData => match odsOf c.args.toList with
      | some [x] => .sdata x
      | _ => .bad
    | .builtin .unsafeString => match odsOf c.args.toList, (c.argTypes[0]?).bind P.underlying with
      | some [x, n], some (.pointer e) => if P.cellsOf e = 1 then .ustr e x n else .bad
      | _, _ => .bad
    | .builtin .recover => if c.args.isEmpty then .recover else .bad
    | .builtin .panic => match odsOf c.args.toList with
      | some [x] => .panic x
      | _ => .bad
    | _ => .bad
  | .convert src dst x => match P.underlying src, P.underlying dst, odOf x with
    | some .string, some (.slice e), some u => match P.underlying e with
      | some (.int .u8) => .s2b e u
      | _ => .bad
    | some (.pointer t), some .unsafePointer, some u => match sizeT P t with
      | some n => if n = 0 then .bad else .p2u u
      | none => .bad
    | some .unsafePointer, some (.pointer t), some u => match sizeT P t with
      | some n => if n ≠ 0 ∧ P.cellsOf t = n ∧ liesAt P P.depth t 1 0 t 1 = true then .u2p t n u else .bad
      | none => .bad
    | _, _, _ => .bad
  | .range t x => match P.underlying t, odOf x with
    | some (.map _ _), some u => .rangeM u
    | _, _ => .bad
  | .next it false => match odOf it with
    | some u => .nextM u
    | none => .bad
  | .entry it => match odOf it with
    | some u => .entryM u
    | none => .bad
  | .defer c => match c.callee, odsOf c.args.toList with
    | .value f, some l => match odOf f with
      | some u => .defer u l
      | none => .bad
    | _, _ => .bad
  | .panic x => match odOf x with
    | some u => .panic u
    | none => .bad
  | _ => .bad
def prepOp (P : Program) (op : Op) : IR :=
  match prepP P op with
  | some (.eqk n 1 false x y) => match prepM P op with
    | .eqP n' x' y' => .eqP n' x' y'
    | _ => .p (.eqk n 1 false x y)
  | some x => .p x
  | none => prepM P op
structure PO where
  dst : Option Nat
  guard : Option (Option Nat × Bool)
  ir : IR
  after : Nat
  deriving Inhabited, DecidableEq
def IR.cls : IR → Nat
  | .p _ => 0
  | .load .. | .lookup .. | .cap .. | .eqP .. | .sliceA .. => 1
  | .lenM _ => 1
  | .sdata _ => 1
  | .entryM _ | .p2u _ | .u2p .. => 1
  | .new .. | .box .. | .row .. | .makeS .. => 3
  | .makeM _ => 3
  | _ => 2
def Od.rg (l : List Nat) : Od → List Nat
  | .t n => n :: l
  | .c _ => l
def odR (l : List Nat) : List Od → List Nat
  | [] => l
  | x :: xs => x.rg (odR l xs)
def odO' (l : List Nat) : Option Od → List Nat
  | none => l
  | some x => x.rg l
def partR' (l : List Nat) : List (Nat × Nat × Od) → List Nat
  | [] => l
  | (_, _, x) :: xs => x.rg (partR' l xs)
def PIR.rg : PIR → List Nat
  | .mov x => x.rg []
  | .pick c a b => c.rg (a.rg (b.rg []))
  | .bin _ x y => x.rg (y.rg [])
  | .eqk _ _ _ x y => x.rg (y.rg [])
  | .eqI _ _ x y => x.rg (y.rg [])
  | .not x => x.rg []
  | .conv _ x => x.rg []
  | .mkI _ x => x.rg []
  | .mkF _ a b => odR (odR [] b) a
  | .slice _ x lo hi => x.rg (odO' (odO' [] hi) lo)
  | .sliceS x lo hi => x.rg (odO' (odO' [] hi) lo)
  | .fieldA _ x => x.rg []
  | .field _ _ x => x.rg []
  | .idxS _ x i => x.rg (i.rg [])
  | .idxA _ _ x i => x.rg (i.rg [])
  | .ixS x i => x.rg (i.rg [])
  | .ixA _ _ _ x i => x.rg (i.rg [])
  | .ext _ x => x.rg []
  | .tass _ _ _ x => x.rg []
  | .nilC x => x.rg []
  | .len x => x.rg []
  | .lenS x => x.rg []
  | .build _ ps => partR' [] ps
  | .mm _ x y => x.rg (y.rg [])
def IR.rg : IR → List Nat
  | .p x => x.rg
  | .load _ x => x.rg []
  | .store _ x v => x.rg (v.rg [])
  | .new _ _ => []
  | .box _ _ x => x.rg []
  | .row _ _ _ ps => partR' [] ps
  | .makeS _ _ _ _ l c => l.rg (c.rg [])
  | .append _ _ _ s x => s.rg (x.rg [])
  | .copy _ d s => d.rg (s.rg [])
  | .makeM r => odO' [] r
  | .lookup _ _ _ m k => m.rg (k.rg [])
  | .update _ m k v => m.rg (k.rg (v.rg []))
  | .delete _ m k => m.rg (k.rg [])
  | .lenM m => m.rg []
  | .cap x => x.rg []
  | .eqP _ x y => x.rg (y.rg [])
  | .sliceA _ _ x lo hi => x.rg (odO' (odO' [] hi) lo)
  | .s2b _ x => x.rg []
  | .sdata x => x.rg []
  | .ustr _ x n => x.rg (n.rg [])
  | .rangeM x => x.rg []
  | .nextM x => x.rg []
  | .entryM x => x.rg []
  | .p2u x => x.rg []
  | .u2p _ _ x => x.rg []
  | .extF _ args => odR [] args
  | .call _ args => odR [] args
  | .callV f args => f.rg (odR [] args)
  | .inv r _ args => r.rg (odR [] args)
  | .defer f args => f.rg (odR [] args)
  | .panic x => x.rg []
  | .recover => []
  | .bad => []
structure DO where
  i : Nat
  o : PO
  rs : List Nat
  deriving Inhabited, DecidableEq
def PO.rg (o : PO) : List Nat := match o.guard with
  | some (some t, _) => t :: o.ir.rg
  | _ => o.ir.rg
inductive PC where
  | skip | ret | bad
  | seq (a b : PC)
  | cond (c : Od) (a b : PC)
  | block (id : Nat) (b : PC)
  | loop (b : PC)
  | exit (id : Nat)
  | region (ops : List PO)
  | drawn (ops : List DO)
  | fork (ls : List (List PO))
  | rangeF (f : Od) (ps : List Nat) (asg body : PC)
  deriving Inhabited, DecidableEq
def guardOf (ops : Array Oper) (o : Oper) : Option (Option Nat × Bool) :=
  match o.guard with
  | some (g, w) => some ((ops[g]?).bind (·.dst), w)
  | none => none
def prepO (P : Program) (ops : Array Oper) (b : Nat) (o : Oper) : PO := { dst := o.dst, guard := guardOf ops o, ir := prepOp P o.op, after := b }
def prepOps (P : Program) (ops : Array Oper) : List PO :=
  ops.toList.map fun o => prepO P ops 0 o
def aftL (acc : List Nat) : List Edge → Nat
  | [] => 0
  | e :: l => if Region.binds .any e then (2 ^ e.on ||| acc.getD e.on 0) ||| aftL acc l else aftL acc l
def afts : List Oper → List Nat → List Nat
  | [], acc => acc
  | o :: l, acc => afts l (acc ++ [aftL acc o.after.toList])
def okEdges : List Oper → Nat → Bool
  | [], _ => true
  | o :: l, j => (o.after.toList.all fun e => !Region.binds .any e || decide (e.on < j)) && okEdges l (j + 1)
def mkD (P : Program) (ops : Array Oper) : List Oper → List Nat → Nat → List DO
  | o :: l, b :: bs, i => ⟨i, prepO P ops b o, (prepO P ops b o).rg⟩ :: mkD P ops l bs (i + 1)
  | _, _, _ => []
def readyD (M : Nat) (e : DO) : Bool := e.o.after &&& M == e.o.after
def pickD (M : Nat) (q : Bool) : List DO → Option (DO × List DO)
  | [] => none
  | e :: l => if readyD M e && (!q || e.o.ir.cls != 2) then some (e, l) else match pickD M q l with
    | some (x, l') => some (x, e :: l')
    | none => none
def orderD : Nat → Nat → List DO → List DO
  | 0, _, l => l
  | f + 1, M, l => match pickD M true l with
    | some (e, l') => e :: orderD f (M ||| 2 ^ e.i) l'
    | none => match pickD M false l with
      | some (e, l') => e :: orderD f (M ||| 2 ^ e.i) l'
      | none => l
def IR.isStore : IR → Bool
  | .store .. => true
  | _ => false
def twoStores (e : DO) : List DO → Bool
  | [y] => e.o.ir.isStore && y.o.ir.isStore
  | _ => false
def hasR (l : List Nat) (d : Option Nat) : Bool := match d with
  | some d => l.contains d
  | none => false
def pairD (x y : DO) : Bool :=
  (!(hasR y.rs x.o.dst || hasR x.rs y.o.dst) || y.o.after.testBit x.i) && (x.o.dst.isNone || x.o.dst != y.o.dst)
def chkD : Nat → List DO → Bool
  | _, [] => true
  | M, e :: l => readyD M e && !M.testBit e.i && (e.o.ir.cls != 2 || twoStores e l || l.all fun y => !readyD M y) && l.all (pairD e) && chkD (M ||| 2 ^ e.i) l
def allLin (ops : Array Oper) : Nat → Array Bool → List (List Nat)
  | 0, _ => [[]]
  | f + 1, L => match Region.ready .any ops L with
    | [] => [[]]
    | r :: rs => (r :: rs).flatMap fun i => (allLin ops f (L.setIfInBounds i true)).map (i :: ·)
def prepDrawn (P : Program) (ops : Array Oper) : PC :=
  let F := orderD ops.size 0 (mkD P ops ops.toList (afts ops.toList []) 0)
  if okEdges ops.toList 0 && chkD 0 F && (List.range ops.size).all fun i => F.any fun e => e.i == i then .drawn F
  else if ops.size ≤ 4 then .fork ((allLin ops ops.size (Array.replicate ops.size false)).map fun idx => idx.filterMap fun i => (ops[i]?).map (prepO P ops 0)) else .bad
def prepC (P : Program) : Code → PC
  | .skip => .skip
  | .label _ => .skip
  | .ret => .ret
  | .seq a b => .seq (prepC P a) (prepC P b)
  | .cond c a b => match odOf c with
    | some c => .cond c (prepC P a) (prepC P b)
    | none => .bad
  | .block i c => .block i (prepC P c)
  | .loop c => .loop (prepC P c)
  | .exit i => .exit i
  | .region _ ops true => prepDrawn P ops
  | .region _ ops false => .region (prepOps P ops)
  | .rangeFunc f ps a b => match odOf f with
    | some f => .rangeF f ps.toList (prepC P a) (prepC P b)
    | none => .bad
  | .scope c => .seq (prepC P c) (.region [])
  | .goto _ => .bad
  | .refuse _ => .bad
inductive ABlk where
  | cells (n : Nat) (vals : T AV) (elem : Nat) (flex : Bool) (esz fz : Nat)
  | map (ents : List (AV × AV))
  | mapL (ents : List (AV × AV))
  | iter (m : Nat) (left : List (AV × AV)) (cur : Option (AV × AV))
  | iterN
  | loop (ρ : T AV) (nt fn : Nat) (ps : List Nat) (asg body : PC) (st : Nat) (pend : Option PC) (ds : Nat)
  | dfd (opn : Bool)
  deriving Inhabited
structure AH where
  bl : T ABlk
  next : Nat
  deriving Inhabited
abbrev FUEL : Nat := 24
abbrev LIM : Nat := 1000000
theorem tset {α : Type} (x : Option α) (t : T α) (k j : Nat) (h : k < LIM) : (T.set x FUEL t k).get j = if j = k then x else t.get j :=
  T.get_set x FUEL t k j (by unfold LIM at h; show k + 1 < 2 ^ 24; omega)
def AH.put (H : AH) (b : Nat) (x : Option ABlk) : AH := { H with bl := T.set x FUEL H.bl b }
def AH.add (H : AH) (x : ABlk) : AH := { bl := T.set (some x) FUEL H.bl H.next, next := H.next + 1 }
def putCells : List AV → Nat → T AV → T AV
  | [], _, t => t
  | v :: l, i, t => putCells l (i + 1) (T.set (some v) FUEL t i)
def getCells (t : T AV) (o : Nat) : Nat → Option (List AV)
  | 0 => some []
  | n + 1 => match t.get o with
    | some v => match getCells t (o + 1) n with
      | some l => some (v :: l)
      | none => none
    | none => none
def loadA (H : AH) (b o : Nat) (n : Option Nat) : Option AV :=
  match H.bl.get b with
  | some (.cells _ t _ _ _ _) => match n with
    | some n => match getCells t o n with
      | some l => some (.agg l)
      | none => none
    | none => t.get o
  | _ => none
def storeA (H : AH) (b o : Nat) (l : List AV) : Option AH :=
  match H.bl.get b with
  | some (.cells n t e f s z) => if o + l.length ≤ n ∧ n < LIM ∧ z < 2 ∧ b < LIM ∧ l.all AV.one = true then some (H.put b (some (.cells n (putCells l o t) e f s z))) else none
  | _ => none
def newA (H : AH) (e : Nat) (l : List AV) (flex : Bool) (esz fz : Nat) : Option (Nat × AH) :=
  if H.next < LIM ∧ l.length < LIM then some (H.next, H.add (.cells l.length (putCells l 0 .E) e flex esz fz)) else none
def plainP (H : AH) (b : Nat) : Bool :=
  match H.bl.get b with
  | some (.cells _ _ _ _ _ 0) => true
  | _ => false
def ptrEq (H : AH) (b o b' o' : Nat) : Option Bool := if b = b' then some (o == o') else if plainP H b && plainP H b' then some false else none
def keyEq (H : AH) (kd : Nat) (x y : AV) : Option Bool :=
  match kd, x, y with
  | 0, .int k a, .int k' b => if k = k' then some (a == b) else none
  | 1, .str l n, .str l' n' => some (strEq l n l' n')
  | 2, .bool a, .bool b => some (a == b)
  | 3, .ptr b o, .ptr b' o' => ptrEq H b o b' o'
  | _, _, _ => none
def cmpAll (H : AH) (kd : Nat) (k : AV) (l : List (AV × AV)) : Bool := l.all fun p => (keyEq H kd k p.1).isSome
def findA (H : AH) (kd : Nat) (k : AV) : List (AV × AV) → Option AV
  | [] => none
  | (x, v) :: l => if keyEq H kd k x = some true then some v else findA H kd k l
def updA (H : AH) (kd : Nat) (k v : AV) : List (AV × AV) → List (AV × AV)
  | [] => [(k, v)]
  | (x, u) :: l => if keyEq H kd k x = some true then (k, v) :: l else (x, u) :: updA H kd k v l
def delA (H : AH) (kd : Nat) (k : AV) : List (AV × AV) → List (AV × AV)
  | [] => []
  | (x, u) :: l => if keyEq H kd k x = some true then l else (x, u) :: delA H kd k l
def keyOf (kd : Nat) (k : AV) : Bool :=
  match kd, k with
  | 0, .int _ _ => true
  | 1, .str _ _ => true
  | 2, .bool _ => true
  | 3, .ptr _ _ => true
  | _, _ => false
def strVs (n : Nat) : Nat → List AV
  | 0 => []
  | l + 1 => .int .u8 ((n % 256 : Nat) : Int) :: strVs (n / 256) l
def elemsOf (H : AH) (size : Nat) : AV → Option (Nat × List AV)
  | .snil => some (0, [])
  | .slice b o _ n c => if n = 0 then some (0, []) else match H.bl.get b with
    | some (.cells _ t _ _ _ _) => if c = 0 then none else match getCells t o (n * size) with
      | some l => some (n, l)
      | none => none
    | _ => none
  | .str l n => if size = 1 then some (l, strVs n l) else none
  | _ => none
def appendA (H : AH) (elem size bytes : Nat) (s x : AV) : Option (AV × AH) :=
  match elemsOf H size x with
  | none => none
  | some (m, new) =>
    match s with
    | .snil => if m = 0 then some (.snil, H) else
      if m < LIM ∧ bytes < LIM then
        match newA H elem new true size 0 with
        | some (b, H') => some (.slice b 0 0 m m, H')
        | none => none
      else none
    | .slice b o d n c => if m = 0 then (if n ≤ c then some (.slice b o d n c, H) else none) else
      match H.bl.get b with
      | some (.cells nc _ el flex esz fz) =>
        if n + m ≤ c then
          match storeA H b (o + n * size) new with
          | some H' => some (.slice b o d (n + m) c, H')
          | none => none
        else if n + m < LIM ∧ bytes < LIM ∧ b < LIM ∧ n ≤ c ∧ new.all AV.one = true then
          match elemsOf H size s with
          | some (_, old) =>
            match flex with
            | true => if esz = size ∧ el = elem ∧ o + c * size = nc ∧ (fz < 2 ∨ n = c) ∧ H.next < LIM ∧ (old ++ new).length < LIM then
                some (.slice H.next 0 0 (n + m) (n + m), (H.put b none).add (.cells (old ++ new).length (putCells (old ++ new) 0 .E) elem true size fz)) else none
            | false => match newA H elem (old ++ new) true size 0 with
              | some (b', H') => some (.slice b' 0 0 (n + m) (n + m), H')
              | none => none
          | none => none
        else none
      | _ => none
    | _ => none
def idxByte (c : Nat) : Nat → Nat → Nat → Option Nat
  | 0, _, _ => none
  | l + 1, n, i => if n % 256 = c then some i else idxByte c l (n / 256) (i + 1)
def cntByte (c : Nat) : Nat → Nat → Nat
  | 0, _ => 0
  | l + 1, n => (if n % 256 = c then 1 else 0) + cntByte c l (n / 256)
def bytesN : List AV → Option Nat
  | [] => some 0
  | .int .u8 b :: l => match bytesN l with
    | some n => if 0 ≤ b ∧ b < 256 then some (b.toNat + 256 * n) else none
    | none => none
  | _ :: _ => none
def pickE : Nat → List (AV × AV) → Option ((AV × AV) × List (AV × AV))
  | _, [] => none
  | 0, e :: l => some (e, l)
  | i + 1, e :: l => match pickE i l with
    | some (x, l') => some (x, e :: l')
    | none => none
def nextA (H : AH) (b i : Nat) : Option (AV × AH) :=
  match H.bl.get b with
  | some .iterN => some (.tup [.bool false], H)
  | some (.iter m [] _) => match H.bl.get m with
    | some (.mapL l) => if m < LIM ∧ b < LIM then some (.tup [.bool false], (H.put b none).put m (some (.map l))) else none
    | _ => none
  | some (.iter m left _) => match pickE i left with
    | some (e, left') => if b < LIM then some (.tup [.bool true, e.1, e.2], H.put b (some (.iter m left' (some e)))) else none
    | none => none
  | _ => none
def waysA (H : AH) (b : Nat) : Nat :=
  match H.bl.get b with
  | some (.iter _ (_ :: l) _) => l.length + 1
  | _ => 1
def onceIR (g : Nat → Option AV) (H : AH) : IR → Option (AV × AH)
  | .p x => match x.ev g with
    | some v => some (v, H)
    | none => none
  | .load n x => match x.ev g with
    | some (.ptr b o) => match loadA H b o n with
      | some v => some (v, H)
      | none => none
    | _ => none
  | .store n x v => match x.ev g with
    | some (.ptr b o) => match v.ev g with
      | some v => if v.cells.length = n then match storeA H b o v.cells with
          | some H' => some (.tup [], H')
          | none => none
        else none
      | none => none
    | _ => none
  | .new e l => match newA H e l false 0 0 with
    | some (b, H') => some (.ptr b 0, H')
    | none => none
  | .box e _ x => match x.ev g with
    | some v => match newA H e v.cells false 0 0 with
      | some (b, H') => some (.ptr b 0, H')
      | none => none
    | none => none
  | .row e n z ps => match fillA g z ps with
    | some l => match newA H e l false 0 0 with
      | some (b, H') => some (.slice b 0 0 n n, H')
      | none => none
    | none => none
  | .makeS e s bytes z l c => match l.ev g with
    | some (.int _ l) => match c.ev g with
      | some (.int _ c) => if 0 ≤ l ∧ l ≤ c ∧ c < 1000000 ∧ bytes < 1000000 ∧ s < 1000 then
          match newA H e (List.replicate c.toNat z).flatten false 0 0 with
          | some (b, H') => some (.slice b 0 0 l.toNat c.toNat, H')
          | none => none
        else none
      | _ => none
    | _ => none
  | .append e s bytes x y => match x.ev g with
    | some x => match y.ev g with
      | some y => appendA H e s bytes x y
      | none => none
    | none => none
  | .copy size d s => match s.ev g with
    | some x => match elemsOf H size x with
      | some (m, new) => match d.ev g with
        | some .snil => some (.int .i64 0, H)
        | some (.slice b o _ n c) => if c = 0 then none else match storeA H b o (new.take (min m n * size)) with
          | some H' => some (.int .i64 ((min m n : Nat) : Int), H')
          | none => none
        | _ => none
      | none => none
    | none => none
  | .makeM none => if H.next < LIM then some (.map H.next, H.add (.map [])) else none
  | .makeM (some r) => match r.ev g with
    | some (.int _ _) => if H.next < LIM then some (.map H.next, H.add (.map [])) else none
    | _ => none
  | .lookup kd z ok m k => match k.ev g with
    | some k => match m.ev g with
      | some .mnil => if keyOf kd k then some (if ok then .tup [z, .bool false] else z, H) else none
      | some (.map b) => match H.bl.get b with
        | some (.map l) => if cmpAll H kd k l && keyOf kd k then
            match findA H kd k l with
            | some v => some (if ok then .tup [v, .bool true] else v, H)
            | none => some (if ok then .tup [z, .bool false] else z, H)
          else none
        | _ => none
      | _ => none
    | none => none
  | .update kd m k v => match k.ev g with
    | some k => match v.ev g with
      | some v => match m.ev g with
        | some (.map b) => match H.bl.get b with
          | some (.map l) => if cmpAll H kd k l && keyOf kd k && decide (b < LIM) then some (.tup [], H.put b (some (.map (updA H kd k v l)))) else none
          | _ => none
        | _ => none
      | none => none
    | none => none
  | .delete kd m k => match k.ev g with
    | some k => match m.ev g with
      | some .mnil => if keyOf kd k then some (.tup [], H) else none
      | some (.map b) => match H.bl.get b with
        | some (.map l) => if cmpAll H kd k l && keyOf kd k && decide (b < LIM) then some (.tup [], H.put b (some (.map (delA H kd k l)))) else none
        | _ => none
      | _ => none
    | none => none
  | .lenM m => match m.ev g with
    | some .mnil => some (.int .i64 0, H)
    | some (.map b) => match H.bl.get b with
      | some (.map l) => some (.int .i64 (l.length : Int), H)
      | _ => none
    | _ => none
  | .cap x => match x.ev g with
    | some .snil => some (.int .i64 0, H)
    | some (.slice b _ _ _ c) => match H.bl.get b with
      | some (.cells _ _ _ false _ _) => some (.int .i64 (c : Int), H)
      | _ => none
    | _ => none
  | .eqP neg x y => match x.ev g with
    | some (.ptr b o) => match y.ev g with
      | some (.ptr b' o') => match ptrEq H b o b' o' with
        | some r => some (.bool (if neg then !r else r), H)
        | none => none
      | some .pnil => some (.bool neg, H)
      | _ => none
    | some .pnil => match y.ev g with
      | some (.ptr _ _) => some (.bool neg, H)
      | some .pnil => some (.bool !neg, H)
      | _ => none
    | _ => none
  | .sliceA n s x lo hi => match x.ev g with
    | some (.ptr b o) => match bnd g hi n n with
      | some h => match bnd g lo 0 h with
        | some l => match H.bl.get b with
          | some (.cells _ _ _ false _ _) => some (.slice b (o + l * s) o (h - l) (n - l), H)
          | _ => none
        | none => none
      | none => none
    | _ => none
  | .s2b e x => match x.ev g with
    | some (.str l n) => if l < 1000000 then match newA H e (strVs n l) true 1 1 with
        | some (b, H') => some (.slice b 0 0 l l, H')
        | none => none
      else none
    | _ => none
  | .sdata x => match x.ev g with
    | some .snil => some (.pnil, H)
    | some (.slice b o _ _ c) => if c = 0 then none else some (.ptr b o, H)
    | _ => none
  | .extF k args => match k, evs g args with
    | 0, some [.str l n, .int .u8 c] => if c.toNat < 256 then some (.int .i64 (match idxByte c.toNat l n 0 with | some i => (i : Int) | none => -1), H) else none
    | 1, some [.str l n, .int .u8 c] => if c.toNat < 256 then some (.int .i64 (cntByte c.toNat l n : Int), H) else none
    | 2, some [x] => some (x, H)
    | _, _ => none
  | .ustr e x n => match n.ev g with
    | some (.int .i64 n) => if 0 < n ∧ n < 1000000 then match x.ev g with
        | some (.ptr b o) => match H.bl.get b with
          | some (.cells nc t el f s z) => if el = e ∧ o + n.toNat ≤ nc ∧ b < LIM ∧ z = 0 then
              match getCells t o n.toNat with
              | some l => match bytesN l with
                | some k => some (.str n.toNat k, H.put b (some (.cells nc t el f s 2)))
                | none => none
              | none => none
            else none
          | _ => none
        | _ => none
      else none
    | _ => none
  | .rangeM m => match m.ev g with
    | some .mnil => if H.next < LIM then some (.ptr H.next 0, H.add .iterN) else none
    | some (.map b) => match H.bl.get b with
      | some (.map l) => if H.next < LIM ∧ b < LIM then some (.ptr H.next 0, (H.put b (some (.mapL l))).add (.iter b l none)) else none
      | _ => none
    | _ => none
  | .nextM x => match x.ev g with
    | some (.ptr b 0) => if waysA H b = 1 then nextA H b 0 else none
    | _ => none
  | .entryM x => match x.ev g with
    | some (.ptr b 0) => match H.bl.get b with
      | some (.iter _ _ (some e)) => some (.tup [e.1, e.2], H)
      | _ => none
    | _ => none
  | .p2u x => match x.ev g with
    | some (.ptr b o) => match H.bl.get b with
      | some (.cells n _ _ false _ _) => if o < n then some (.ptr b o, H) else none
      | _ => none
    | _ => none
  | .u2p u n x => match x.ev g with
    | some (.ptr b 0) => match H.bl.get b with
      | some (.cells nc _ el false _ _) => if el = u ∧ nc = n then some (.ptr b 0, H) else none
      | _ => none
    | _ => none
  | _ => none
end
end Ex
end Go.Proofs.YtfehlbepjmmkeaaGreatDoor
namespace Go.Proofs.YtfehlbepjmmkeaaGreatDoor
open Go.RowKit
namespace Ex
noncomputable section
def Froz (fz : Nat) (z : Nat × Nat) (size top : Nat) : Prop :=
  match fz with
  | 0 => z = (0, 0)
  | 1 => ∀ i, i < size → ¬ (z.1 ≤ i ∧ i < z.2)
  | _ => ∀ i, top ≤ i → i < size → ¬ (z.1 ≤ i ∧ i < z.2)
def stOf : LoopState → Nat
  | .ready => 0
  | .busy => 1
  | .done => 2
  | .exhausted => 3
def BlkRel (P : Program) (φ : Nat → Loc) (dm : Nat → Prop) (w : World) (l : Loc) : ABlk → Prop
  | .cells n vals elem flex esz fz => ∃ c z, w.heap[l.blk]? = some (.cells c elem z) ∧ Froz fz z c.size (l.base + n) ∧ (flex = false → l.base = 0 ∧ l.ext = 0 ∧ c.size = n) ∧
      (flex = true → c.size = l.base + n + l.ext * esz) ∧ ∀ i v, vals.get i = some v → i < n ∧ sc dm v ∧ c[l.base + i]? = some (conc φ v)
  | .map ents => ∃ es clock, w.heap[l.blk]? = some (.map es clock) ∧
      (es.toList.map fun e => (e.key, e.val)).Perm (ents.map fun p => (conc φ p.1, conc φ p.2)) ∧ (ents.map fun p => conc φ p.1).Nodup ∧
      (∀ p ∈ ents, sc dm p.1 ∧ sc dm p.2) ∧ (es.toList.map (·.born)).Nodup ∧ ∀ e ∈ es.toList, e.born < clock
  | .mapL ents => ∃ es clock, w.heap[l.blk]? = some (.map es clock) ∧
      (es.toList.map fun e => (e.key, e.val)).Perm (ents.map fun p => (conc φ p.1, conc φ p.2)) ∧ (ents.map fun p => conc φ p.1).Nodup ∧
      (∀ p ∈ ents, sc dm p.1 ∧ sc dm p.2) ∧ (es.toList.map (·.born)).Nodup ∧ ∀ e ∈ es.toList, e.born < clock
  | .iter m left cur => dm m ∧ l.base = 0 ∧ ∃ es clock seen, w.heap[(φ m).blk]? = some (.map es clock) ∧ w.heap[l.blk]? = some (.mapIter (some (φ m).blk) clock seen clock) ∧
      ((es.toList.filter fun e => !seen.contains e.born).map fun e => (e.key, e.val)).Perm (left.map fun p => (conc φ p.1, conc φ p.2)) ∧
      (∀ p ∈ left, sc dm p.1 ∧ sc dm p.2) ∧ (∀ p, cur = some p → sc dm p.1 ∧ sc dm p.2 ∧ ∃ e ∈ es.toList, seen.back? = some e.born ∧ e.key = conc φ p.1 ∧ e.val = conc φ p.2)
  | .iterN => l.base = 0 ∧ ∃ a b c, w.heap[l.blk]? = some (.mapIter none a b c)
  | .loop ρ nt fn ps asg body st pend ds => ∃ L : Loop, w.heap[l.blk]? = some (.loop L) ∧ nt ≤ L.tmps.size ∧ (∃ f, P.funcs[fn]? = some f) ∧ L.fn = fn ∧ (∀ t v, ρ.get t = some v → sc dm v ∧ L.tmps.getD t undef = conc φ v) ∧
      L.params.toList = ps ∧ prepC P L.assign = asg ∧ prepC P L.body = body ∧ stOf L.state = st ∧ L.pending.map (prepC P) = pend ∧ dm ds ∧ (φ ds).blk = L.defers
  | .dfd opn => w.heap[l.blk]? = some (.deferred (if opn then some [] else none))
def Owned (φ : Nat → Loc) (dm : Nat → Prop) (H : AH) (i : Nat) : Prop := ∃ b x, H.bl.get b = some x ∧ dm b ∧ (φ b).blk = i
structure Rel (P : Program) (φ : Nat → Loc) (dm : Nat → Prop) (H : AH) (w : World) : Prop where
  blk : ∀ b x, H.bl.get b = some x → dm b → BlkRel P φ dm w (φ b) x
  inj : ∀ b b' x x', H.bl.get b = some x → H.bl.get b' = some x' → dm b → dm b' → (φ b).blk = (φ b').blk → b = b'
  next : ∀ b, dm b → b < H.next
  glob : ∀ g, g < GMAX → dm g ∧ φ g = ⟨g, 0, 0⟩
  lent : ∀ b m left cur, H.bl.get b = some (.iter m left cur) → dm b → ∃ ents, H.bl.get m = some (.mapL ents)
  uniq : ∀ b m left cur b' left' cur', H.bl.get b = some (.iter m left cur) → dm b → H.bl.get b' = some (.iter m left' cur') → dm b' → b = b'
def ABlk.quiet : ABlk → Bool
  | .mapL _ | .iter .. => false
  | _ => true
theorem ABlk.quiet_iter {x : ABlk} (h : x.quiet = true) (m : Nat) (left : List (AV × AV)) (cur : Option (AV × AV)) : x ≠ .iter m left cur := by rintro rfl; cases h
structure Grow (φ : Nat → Loc) (dm : Nat → Prop) (H : AH) (w : World) (φ' : Nat → Loc) (dm' : Nat → Prop) (H' : AH) (w' : World) : Prop where
  dms : ∀ b, dm b → dm' b
  ph : ∀ b, dm b → φ' b = φ b
  os : w'.os = w.os
  tape : w'.tape = w.tape
  output : w'.output = w.output
  size : w.heap.size ≤ w'.heap.size
  frame : ∀ i, i < w.heap.size → ¬ Owned φ dm H i → w'.heap[i]? = w.heap[i]?
  range : ∀ i, Owned φ' dm' H' i → w.heap.size ≤ i ∨ Owned φ dm H i
  next : H.next ≤ H'.next
  fresh : ∀ b, dm' b → dm b ∨ H.next ≤ b
theorem Grow.refl (φ : Nat → Loc) (dm : Nat → Prop) (H : AH) (w : World) : Grow φ dm H w φ dm H w :=
  ⟨fun _ h => h, fun _ _ => rfl, rfl, rfl, rfl, Nat.le_refl _, fun _ _ _ => rfl, fun _ h => .inr h, Nat.le_refl _, fun _ h => .inl h⟩
theorem Grow.trans {φ φ' φ'' : Nat → Loc} {dm dm' dm'' : Nat → Prop} {H H' H'' : AH} {w w' w'' : World}
    (h : Grow φ dm H w φ' dm' H' w') (h' : Grow φ' dm' H' w' φ'' dm'' H'' w'') : Grow φ dm H w φ'' dm'' H'' w'' where
  dms b hb := h'.dms b (h.dms b hb)
  ph b hb := (h'.ph b (h.dms b hb)).trans (h.ph b hb)
  os := h'.os.trans h.os
  tape := h'.tape.trans h.tape
  output := h'.output.trans h.output
  size := Nat.le_trans h.size h'.size
  frame i hi hn := by
    refine (h'.frame i (Nat.lt_of_lt_of_le hi h.size) fun ho => ?_).trans (h.frame i hi hn)
    rcases h.range i ho with hr | hr
    · omega
    · exact hn hr
  range i ho := by
    rcases h'.range i ho with hr | hr
    · exact .inl (Nat.le_trans h.size hr)
    · exact h.range i hr
  next := Nat.le_trans h.next h'.next
  fresh b hb := by
    rcases h'.fresh b hb with hr | hr
    · exact h.fresh b hr
    · exact .inr (Nat.le_trans h.next hr)
structure GrowS (lo : Nat) (φ : Nat → Loc) (dm : Nat → Prop) (H : AH) (w : World) (φ' : Nat → Loc) (dm' : Nat → Prop) (H' : AH) (w' : World) : Prop where
  dms : ∀ b, dm b → dm' b
  ph : ∀ b, dm b → φ' b = φ b
  os : w'.os = w.os
  tape : w'.tape = w.tape
  output : w'.output = w.output
  size : w.heap.size ≤ w'.heap.size
  frame : ∀ i, i < w.heap.size → ¬ Owned φ dm H i → w'.heap[i]? = w.heap[i]?
  range : ∀ i, Owned φ' dm' H' i → w.heap.size ≤ i ∨ Owned φ dm H i
  next : H.next ≤ H'.next
  fresh : ∀ b, dm' b → dm b ∨ lo ≤ b
theorem Grow.s {lo : Nat} {φ φ' : Nat → Loc} {dm dm' : Nat → Prop} {H H' : AH} {w w' : World} (h : Grow φ dm H w φ' dm' H' w') (hl : lo ≤ H.next) : GrowS lo φ dm H w φ' dm' H' w' :=
  ⟨h.dms, h.ph, h.os, h.tape, h.output, h.size, h.frame, h.range, h.next, fun b hb => (h.fresh b hb).imp id (Nat.le_trans hl)⟩
theorem GrowS.refl (lo : Nat) (φ : Nat → Loc) (dm : Nat → Prop) (H : AH) (w : World) : GrowS lo φ dm H w φ dm H w :=
  ⟨fun _ h => h, fun _ _ => rfl, rfl, rfl, rfl, Nat.le_refl _, fun _ _ _ => rfl, fun _ h => .inr h, Nat.le_refl _, fun _ h => .inl h⟩
theorem GrowS.trans {lo lo' : Nat} {φ φ' φ'' : Nat → Loc} {dm dm' dm'' : Nat → Prop} {H H' H'' : AH} {w w' w'' : World}
    (h : GrowS lo φ dm H w φ' dm' H' w') (h' : GrowS lo' φ' dm' H' w' φ'' dm'' H'' w'') (hl : lo ≤ lo') : GrowS lo φ dm H w φ'' dm'' H'' w'' where
  dms b hb := h'.dms b (h.dms b hb)
  ph b hb := (h'.ph b (h.dms b hb)).trans (h.ph b hb)
  os := h'.os.trans h.os
  tape := h'.tape.trans h.tape
  output := h'.output.trans h.output
  size := Nat.le_trans h.size h'.size
  frame i hi hn := by
    refine (h'.frame i (Nat.lt_of_lt_of_le hi h.size) fun ho => ?_).trans (h.frame i hi hn)
    rcases h.range i ho with hr | hr
    · omega
    · exact hn hr
  range i ho := by
    rcases h'.range i ho with hr | hr
    · exact .inl (Nat.le_trans h.size hr)
    · exact h.range i hr
  next := Nat.le_trans h.next h'.next
  fresh b hb := by
    rcases h'.fresh b hb with hr | hr
    · exact h.fresh b hr
    · exact .inr (Nat.le_trans hl hr)
theorem BlkRel.lt {P : Program} {φ : Nat → Loc} {dm : Nat → Prop} {w : World} {l : Loc} {x : ABlk} (h : BlkRel P φ dm w l x) : l.blk < w.heap.size := by
  have key : ∀ o, w.heap[l.blk]? = some o → l.blk < w.heap.size := fun o ho => (Array.getElem?_eq_some_iff.1 ho).1
  cases x with
  | cells n vals elem flex esz fz => obtain ⟨c, z, hc, _⟩ := h; exact key _ hc
  | map ents => obtain ⟨es, cl, hc, _⟩ := h; exact key _ hc
  | mapL ents => obtain ⟨es, cl, hc, _⟩ := h; exact key _ hc
  | iter m left cur => obtain ⟨_, _, es, cl, seen, _, hc, _⟩ := h; exact key _ hc
  | iterN => obtain ⟨_, a, b, c, hc⟩ := h; exact key _ hc
  | loop ρ nt fn ps asg body st pend ds => obtain ⟨L, hc, _⟩ := h; exact key _ hc
  | dfd opn => exact key _ h
theorem Rel.lt {P : Program} {φ : Nat → Loc} {dm : Nat → Prop} {H : AH} {w : World} (h : Rel P φ dm H w) {k : Nat} {y : ABlk} (hk : H.bl.get k = some y) (hd : dm k) : (φ k).blk < w.heap.size :=
  (h.blk k y hk hd).lt
theorem BlkRel.mono {P : Program} {φ φ' : Nat → Loc} {dm dm' : Nat → Prop} {w w' : World} {l : Loc} {x : ABlk} (h : BlkRel P φ dm w l x)
    (hd : ∀ b, dm b → dm' b) (hp : ∀ b, dm b → φ' b = φ b) (hw : w'.heap[l.blk]? = w.heap[l.blk]?)
    (hi : ∀ m left cur, x = .iter m left cur → w'.heap[(φ m).blk]? = w.heap[(φ m).blk]?) : BlkRel P φ' dm' w' l x := by
  have hmap : ∀ ents : List (AV × AV), (∃ es clock, w.heap[l.blk]? = some (.map es clock) ∧
      (es.toList.map fun e => (e.key, e.val)).Perm (ents.map fun p => (conc φ p.1, conc φ p.2)) ∧ (ents.map fun p => conc φ p.1).Nodup ∧
      (∀ p ∈ ents, sc dm p.1 ∧ sc dm p.2) ∧ (es.toList.map (·.born)).Nodup ∧ ∀ e ∈ es.toList, e.born < clock) → (∃ es clock, w'.heap[l.blk]? = some (.map es clock) ∧
      (es.toList.map fun e => (e.key, e.val)).Perm (ents.map fun p => (conc φ' p.1, conc φ' p.2)) ∧ (ents.map fun p => conc φ' p.1).Nodup ∧
      (∀ p ∈ ents, sc dm' p.1 ∧ sc dm' p.2) ∧ (es.toList.map (·.born)).Nodup ∧ ∀ e ∈ es.toList, e.born < clock) := by
    intro ents h
    obtain ⟨es, cl, h1, h2, h3, h4, h5, h6⟩ := h
    have he : ∀ p ∈ ents, conc φ' p.1 = conc φ p.1 ∧ conc φ' p.2 = conc φ p.2 := fun p hp' => ⟨conc_ext hp _ (h4 p hp').1, conc_ext hp _ (h4 p hp').2⟩
    refine ⟨es, cl, hw.trans h1, ?_, ?_, fun p hp' => ⟨sc_mono hd _ (h4 p hp').1, sc_mono hd _ (h4 p hp').2⟩, h5, h6⟩
    · have e : (ents.map fun p => (conc φ' p.1, conc φ' p.2)) = ents.map fun p => (conc φ p.1, conc φ p.2) := List.map_congr_left fun p hp' => by rw [(he p hp').1, (he p hp').2]
      rw [e]; exact h2
    · have e : (ents.map fun p => conc φ' p.1) = ents.map fun p => conc φ p.1 := List.map_congr_left fun p hp' => (he p hp').1
      rw [e]; exact h3
  cases x with
  | cells n vals elem flex esz fz =>
    obtain ⟨c, z, h1, h0, h2, h3, h4⟩ := h
    refine ⟨c, z, hw.trans h1, h0, h2, h3, fun i v hv => ?_⟩
    obtain ⟨ha, hb, hc⟩ := h4 i v hv
    exact ⟨ha, sc_mono hd v hb, by rw [conc_ext hp v hb]; exact hc⟩
  | map ents => exact hmap ents h
  | mapL ents => exact hmap ents h
  | iter m left cur =>
    obtain ⟨hm, hbase, es, cl, seen, h1, h2, h3, h4, h5⟩ := h
    have hi' := hi m left cur rfl
    have e : (left.map fun p => (conc φ' p.1, conc φ' p.2)) = left.map fun p => (conc φ p.1, conc φ p.2) := List.map_congr_left fun p hp' => by rw [conc_ext hp _ (h4 p hp').1, conc_ext hp _ (h4 p hp').2]
    refine ⟨hd m hm, hbase, es, cl, seen, by rw [hp m hm, hi']; exact h1, by rw [hp m hm, hw]; exact h2, by rw [e]; exact h3, fun p hp' => ⟨sc_mono hd _ (h4 p hp').1, sc_mono hd _ (h4 p hp').2⟩, fun p hp' => ?_⟩
    obtain ⟨q1, q2, x, q3, q4, q5, q6⟩ := h5 p hp'
    exact ⟨sc_mono hd _ q1, sc_mono hd _ q2, x, q3, q4, by rw [conc_ext hp _ q1]; exact q5, by rw [conc_ext hp _ q2]; exact q6⟩
  | iterN => obtain ⟨hbase, a, b, c, hc⟩ := h; exact ⟨hbase, a, b, c, hw.trans hc⟩
  | loop ρ nt fn ps asg body st pend ds =>
    obtain ⟨L, h1, h0, h00, h2, h3, h4, h5, h6, h7, h8, h9, h10⟩ := h
    refine ⟨L, hw.trans h1, h0, h00, h2, fun t v hv => ?_, h4, h5, h6, h7, h8, hd _ h9, by rw [hp _ h9]; exact h10⟩
    obtain ⟨ha, hb⟩ := h3 t v hv
    exact ⟨sc_mono hd v ha, by rw [conc_ext hp v ha]; exact hb⟩
  | dfd opn => exact hw.trans h
theorem Rel.iterAt {P : Program} {φ : Nat → Loc} {dm : Nat → Prop} {H : AH} {w : World} (h : Rel P φ dm H w) {b m : Nat} {left : List (AV × AV)} {cur : Option (AV × AV)} (hb : H.bl.get b = some (.iter m left cur)) (hd : dm b) :
    dm m ∧ ∃ ents, H.bl.get m = some (.mapL ents) := ⟨(h.blk b _ hb hd).1, h.lent _ _ _ _ hb hd⟩
theorem Rel.allocS {P : Program} {φ : Nat → Loc} {dm : Nat → Prop} {H : AH} {w : World} (h : Rel P φ dm H w) {b : Nat} (hb : ¬ dm b) {o : Obj} {x : ABlk} {l : Loc}
    (hl : l.blk = w.heap.size) {H' : AH} (hg : ∀ k, H'.bl.get k = if k = b then some x else H.bl.get k) (hn : H.next ≤ H'.next) (hn' : b < H'.next)
    (hx : BlkRel P φ dm (w.alloc o) l x) {lo : Nat} (hlo : lo ≤ b)
    (hq : ∀ m left cur, x = .iter m left cur → (∃ ents, H.bl.get m = some (.mapL ents)) ∧ ∀ b' l' c', H.bl.get b' = some (.iter m l' c') → ¬ dm b' := by intro _ _ _ h; cases h) :
    Rel P (fun k => if k = b then l else φ k) (fun k => dm k ∨ k = b) H' (w.alloc o) ∧
    GrowS lo φ dm H w (fun k => if k = b then l else φ k) (fun k => dm k ∨ k = b) H' (w.alloc o) := by
  have hph : ∀ k, dm k → (if k = b then l else φ k) = φ k := fun k hk => if_neg (by rintro rfl; exact hb hk)
  have hheap : ∀ i, i < w.heap.size → (w.alloc o).heap[i]? = w.heap[i]? := fun i hi => Below.heap_alloc w o i hi
  have hmb : ∀ m left cur, x = .iter m left cur → m ≠ b := fun m left cur hxi => by subst hxi; intro e; exact hb (e ▸ hx.1)
  refine ⟨⟨fun k y hk hd => ?_, fun k k' y y' hk hk' hd hd' he => ?_, fun k hk => ?_, fun g hg' => ?_, fun k m left cur hk hd => ?_, fun k m left cur k' left' cur' hk hd hk' hd' => ?_⟩, ?_⟩
  · rw [hg] at hk
    by_cases hkb : k = b
    · subst hkb
      rw [if_pos rfl] at hk
      injection hk with hk
      subst hk
      simp only [if_true]
      exact hx.mono (fun _ h => .inl h) hph rfl fun _ _ _ _ => rfl
    · rw [if_neg hkb] at hk
      have hdk : dm k := hd.resolve_right hkb
      simp only [if_neg hkb]
      refine (h.blk k y hk hdk).mono (fun _ h => .inl h) hph (hheap _ (h.lt hk hdk)) fun m left cur hy => ?_
      subst hy
      obtain ⟨q1, ents, q2⟩ := h.iterAt hk hdk
      exact hheap _ (h.lt q2 q1)
  · rw [hg] at hk hk'
    by_cases h1 : k = b <;> by_cases h2 : k' = b
    · rw [h1, h2]
    · rw [if_neg h2] at hk'
      have := h.lt hk' (hd'.resolve_right h2)
      simp only [h1, h2, if_true, if_false] at he
      omega
    · rw [if_neg h1] at hk
      have := h.lt hk (hd.resolve_right h1)
      simp only [h1, h2, if_true, if_false] at he
      omega
    · rw [if_neg h1] at hk
      rw [if_neg h2] at hk'
      simp only [h1, h2, if_false] at he
      exact h.inj k k' y y' hk hk' (hd.resolve_right h1) (hd'.resolve_right h2) he
  · rcases hk with hk | rfl
    · exact Nat.lt_of_lt_of_le (h.next k hk) hn
    · exact hn'
  · obtain ⟨h1, h2⟩ := h.glob g hg'
    exact ⟨.inl h1, (hph g h1).trans h2⟩
  · rw [hg] at hk
    by_cases hkb : k = b
    · rw [if_pos hkb] at hk
      injection hk with hk
      obtain ⟨⟨ents, q⟩, _⟩ := hq m left cur hk
      exact ⟨ents, by rw [hg, if_neg (hmb _ _ _ hk)]; exact q⟩
    · rw [if_neg hkb] at hk
      obtain ⟨q1, ents, q2⟩ := h.iterAt hk (hd.resolve_right hkb)
      exact ⟨ents, by rw [hg, if_neg (show ¬ m = b from fun e => hb (e ▸ q1))]; exact q2⟩
  · rw [hg] at hk hk'
    by_cases h1 : k = b <;> by_cases h2 : k' = b
    · rw [h1, h2]
    · rw [if_pos h1] at hk
      rw [if_neg h2] at hk'
      injection hk with hk
      exact absurd (hd'.resolve_right h2) ((hq m left cur hk).2 _ _ _ hk')
    · rw [if_neg h1] at hk
      rw [if_pos h2] at hk'
      injection hk' with hk'
      exact absurd (hd.resolve_right h1) ((hq m left' cur' hk').2 _ _ _ hk)
    · rw [if_neg h1] at hk
      rw [if_neg h2] at hk'
      exact h.uniq k m left cur k' left' cur' hk (hd.resolve_right h1) hk' (hd'.resolve_right h2)
  · refine ⟨fun _ h => .inl h, hph, rfl, rfl, rfl, by simp, fun i hi _ => hheap i hi, fun i ⟨k, y, hk, hd, he⟩ => ?_, hn, fun b' hb' => hb'.elim .inl fun e => .inr (by rw [e]; exact hlo)⟩
    rw [hg] at hk
    simp only [] at he
    by_cases hkb : k = b
    · refine .inl ?_
      rw [if_pos hkb, hl] at he
      omega
    · rw [if_neg hkb] at hk
      rw [if_neg hkb] at he
      exact .inr ⟨k, y, hk, hd.resolve_right hkb, he⟩
theorem GrowS.g {φ φ' : Nat → Loc} {dm dm' : Nat → Prop} {H H' : AH} {w w' : World} (h : GrowS H.next φ dm H w φ' dm' H' w') : Grow φ dm H w φ' dm' H' w' :=
  ⟨h.dms, h.ph, h.os, h.tape, h.output, h.size, h.frame, h.range, h.next, h.fresh⟩
theorem Rel.alloc {P : Program} {φ : Nat → Loc} {dm : Nat → Prop} {H : AH} {w : World} (h : Rel P φ dm H w) {b : Nat} (hb : H.next ≤ b) {o : Obj} {x : ABlk} {l : Loc}
    (hl : l.blk = w.heap.size) {H' : AH} (hg : ∀ k, H'.bl.get k = if k = b then some x else H.bl.get k) (hn : H.next ≤ H'.next) (hn' : b < H'.next)
    (hx : BlkRel P φ dm (w.alloc o) l x)
    (hq : ∀ m left cur, x = .iter m left cur → (∃ ents, H.bl.get m = some (.mapL ents)) ∧ ∀ b' l' c', H.bl.get b' = some (.iter m l' c') → ¬ dm b' := by intro _ _ _ h; cases h) :
    Rel P (fun k => if k = b then l else φ k) (fun k => dm k ∨ k = b) H' (w.alloc o) ∧
    Grow φ dm H w (fun k => if k = b then l else φ k) (fun k => dm k ∨ k = b) H' (w.alloc o) := by
  obtain ⟨h1, h2⟩ := h.allocS (b := b) (fun hd => absurd (h.next _ hd) (by omega)) hl hg hn hn' hx hb hq
  exact ⟨h1, h2.g⟩
theorem Rel.turn {P : Program} {φ : Nat → Loc} {dm : Nat → Prop} {H : AH} {w w' : World} (h : Rel P φ dm H w) {b : Nat} {x0 x : ABlk} (hb : H.bl.get b = some x0) (hdb : dm b)
    (hos : w'.os = w.os) (htape : w'.tape = w.tape) (hout : w'.output = w.output) (hsize : w'.heap.size = w.heap.size)
    (hheap : ∀ i, i ≠ (φ b).blk → w'.heap[i]? = w.heap[i]?) {H' : AH} (hg : ∀ k, H'.bl.get k = if k = b then some x else H.bl.get k) (hn : H'.next = H.next)
    (hx : BlkRel P φ dm w' (φ b) x) (h0 : ∀ ents, x0 = .mapL ents → False := by intro _ h; cases h)
    (hq : ∀ m left cur, x = .iter m left cur → m ≠ b ∧ (∃ ents, H.bl.get m = some (.mapL ents)) ∧ ∀ b' l' c', H.bl.get b' = some (.iter m l' c') → dm b' → b' = b := by intro _ _ _ h; cases h) :
    Rel P φ dm H' w' ∧ Grow φ dm H w φ dm H' w' := by
  have hmb : ∀ k m left cur, H.bl.get k = some (.iter m left cur) → dm k → m ≠ b := fun k m left cur hk hd e => by
    obtain ⟨ents, q⟩ := h.lent _ _ _ _ hk hd
    rw [e, hb] at q
    injection q with q
    exact h0 _ q
  refine ⟨⟨fun k y hk hd => ?_, fun k k' y y' hk hk' hd hd' he => ?_, fun k hk => hn ▸ h.next k hk, h.glob, fun k m left cur hk hd => ?_, fun k m left cur k' left' cur' hk hd hk' hd' => ?_⟩,
    ⟨fun _ h => h, fun _ _ => rfl, hos, htape, hout, by omega, fun i _ hno => hheap i fun he => hno ⟨b, x0, hb, hdb, he.symm⟩, fun i ⟨k, y, hk, hd, he⟩ => ?_, Nat.le_of_eq hn.symm, fun _ h => .inl h⟩⟩
  · rw [hg] at hk
    by_cases hkb : k = b
    · subst hkb
      rw [if_pos rfl] at hk
      injection hk with hk
      subst hk
      exact hx
    · rw [if_neg hkb] at hk
      refine (h.blk k y hk hd).mono (fun _ h => h) (fun _ _ => rfl) (hheap _ fun he => hkb (h.inj k b y x0 hk hb hd hdb he)) fun m left cur hy => ?_
      subst hy
      obtain ⟨q1, ents, q2⟩ := h.iterAt hk hd
      exact hheap _ fun he => hmb k m left cur hk hd (h.inj m b _ x0 q2 hb q1 hdb he)
  · rw [hg] at hk hk'
    have ex : ∀ k y, (if k = b then some x else H.bl.get k) = some y → ∃ y, H.bl.get k = some y := fun k y hk => by
      by_cases hkb : k = b
      · exact ⟨x0, hkb ▸ hb⟩
      · rw [if_neg hkb] at hk; exact ⟨y, hk⟩
    obtain ⟨z, hz⟩ := ex k y hk
    obtain ⟨z', hz'⟩ := ex k' y' hk'
    exact h.inj k k' z z' hz hz' hd hd' he
  · rw [hg] at hk
    by_cases hkb : k = b
    · rw [if_pos hkb] at hk
      injection hk with hk
      obtain ⟨q1, ⟨ents, q2⟩, _⟩ := hq m left cur hk
      exact ⟨ents, by rw [hg, if_neg q1]; exact q2⟩
    · rw [if_neg hkb] at hk
      obtain ⟨ents, q2⟩ := h.lent _ _ _ _ hk hd
      exact ⟨ents, by rw [hg, if_neg (hmb _ _ _ _ hk hd)]; exact q2⟩
  · rw [hg] at hk hk'
    by_cases h1 : k = b <;> by_cases h2 : k' = b
    · rw [h1, h2]
    · rw [if_pos h1] at hk
      rw [if_neg h2] at hk'
      injection hk with hk
      exact absurd ((hq m left cur hk).2.2 _ _ _ hk' hd') h2
    · rw [if_neg h1] at hk
      rw [if_pos h2] at hk'
      injection hk' with hk'
      exact absurd ((hq m left' cur' hk').2.2 _ _ _ hk hd) h1
    · rw [if_neg h1] at hk
      rw [if_neg h2] at hk'
      exact h.uniq k m left cur k' left' cur' hk hd hk' hd'
  · rw [hg] at hk
    by_cases hkb : k = b
    · exact .inr ⟨b, x0, hb, hdb, by rw [← he, hkb]⟩
    · rw [if_neg hkb] at hk
      exact .inr ⟨k, y, hk, hd, he⟩
theorem Rel.weaken {P : Program} {φ : Nat → Loc} {dm : Nat → Prop} {K H : AH} {w : World} (h : Rel P φ dm H w) (hk : ∀ b x, K.bl.get b = some x → H.bl.get b = some x) (hn : H.next ≤ K.next)
    (hl : ∀ b m left cur ents, K.bl.get b = some (.iter m left cur) → H.bl.get m = some (.mapL ents) → K.bl.get m = some (.mapL ents)) : Rel P φ dm K w ∧ Grow φ dm H w φ dm K w :=
  ⟨⟨fun b x hb => h.blk b x (hk b x hb), fun b b' x x' hb hb' => h.inj b b' x x' (hk _ _ hb) (hk _ _ hb'), fun b hb => Nat.lt_of_lt_of_le (h.next b hb) hn, h.glob,
    fun b m left cur hb hd => by obtain ⟨ents, q⟩ := h.lent _ _ _ _ (hk _ _ hb) hd; exact ⟨ents, hl _ _ _ _ _ hb q⟩,
    fun b m left cur b' left' cur' hb hd hb' hd' => h.uniq b m left cur b' left' cur' (hk _ _ hb) hd (hk _ _ hb') hd'⟩,
   ⟨fun _ h => h, fun _ _ => rfl, rfl, rfl, rfl, Nat.le_refl _, fun _ _ _ => rfl, fun i ⟨b, x, hb, hd, he⟩ => .inr ⟨b, x, hk b x hb, hd, he⟩, hn, fun _ h => .inl h⟩⟩
theorem Rel.move {P : Program} {φ : Nat → Loc} {dm : Nat → Prop} {H : AH} {w w' : World} (h : Rel P φ dm H w) {b0 b : Nat} {x0 x : ABlk} (hb0 : H.bl.get b0 = some x0) (hd0 : dm b0) (hbn : H.next ≤ b) {l : Loc}
    (hl : l.blk = (φ b0).blk) (hos : w'.os = w.os) (htape : w'.tape = w.tape) (hout : w'.output = w.output) (hsize : w'.heap.size = w.heap.size)
    (hheap : ∀ i, i ≠ (φ b0).blk → w'.heap[i]? = w.heap[i]?) {H' : AH} (hg : ∀ k, H'.bl.get k = if k = b then some x else if k = b0 then none else H.bl.get k) (hn : H.next ≤ H'.next) (hn' : b < H'.next)
    (hx : BlkRel P φ dm w' l x) (h0 : ∀ ents, x0 = .mapL ents → False := by intro _ h; cases h) (hq : ∀ m left cur, x = .iter m left cur → False := by intro _ _ _ h; cases h) :
    Rel P (fun k => if k = b then l else φ k) (fun k => dm k ∨ k = b) H' w' ∧
    Grow φ dm H w (fun k => if k = b then l else φ k) (fun k => dm k ∨ k = b) H' w' := by
  have hb : ¬ dm b := fun hd => absurd (h.next _ hd) (by omega)
  have hph : ∀ k, dm k → (if k = b then l else φ k) = φ k := fun k hk => if_neg (by rintro rfl; exact hb hk)
  have hne : b ≠ b0 := fun e => hb (e ▸ hd0)
  have hmb : ∀ k m left cur, H.bl.get k = some (.iter m left cur) → dm k → m ≠ b0 := fun k m left cur hk hd e => by
    obtain ⟨ents, q⟩ := h.lent _ _ _ _ hk hd
    rw [e, hb0] at q
    injection q with q
    exact h0 _ q
  refine ⟨⟨fun k y hk hd => ?_, fun k k' y y' hk hk' hd hd' he => ?_, fun k hk => ?_, fun g hg' => ?_, fun k m left cur hk hd => ?_, fun k m left cur k' left' cur' hk hd hk' hd' => ?_⟩, ?_⟩
  · rw [hg] at hk
    by_cases hkb : k = b
    · subst hkb
      rw [if_pos rfl] at hk
      injection hk with hk
      subst hk
      simp only [if_true]
      exact hx.mono (fun _ h => .inl h) hph rfl fun m left cur hy => (hq _ _ _ hy).elim
    · rw [if_neg hkb] at hk
      by_cases hk0 : k = b0
      · rw [if_pos hk0] at hk; cases hk
      · rw [if_neg hk0] at hk
        have hdk : dm k := hd.resolve_right hkb
        simp only [if_neg hkb]
        refine (h.blk k y hk hdk).mono (fun _ h => .inl h) hph (hheap _ fun he => hk0 (h.inj k b0 y x0 hk hb0 hdk hd0 he)) fun m left cur hy => ?_
        subst hy
        obtain ⟨q1, ents, q2⟩ := h.iterAt hk hdk
        exact hheap _ fun he => hmb k m left cur hk hdk (h.inj m b0 _ x0 q2 hb0 q1 hd0 he)
  · rw [hg] at hk hk'
    have other : ∀ k y, k ≠ b → (if k = b then some x else if k = b0 then none else H.bl.get k) = some y → k ≠ b0 ∧ H.bl.get k = some y := fun k y hkb hk => by
      rw [if_neg hkb] at hk
      by_cases hk0 : k = b0
      · rw [if_pos hk0] at hk; cases hk
      · rw [if_neg hk0] at hk; exact ⟨hk0, hk⟩
    try simp only at he
    by_cases h1 : k = b <;> by_cases h2 : k' = b
    · rw [h1, h2]
    · obtain ⟨q1, q2⟩ := other k' y' h2 hk'
      rw [if_pos h1, if_neg h2, hl] at he
      exact absurd (h.inj k' b0 y' x0 q2 hb0 (hd'.resolve_right h2) hd0 he.symm) q1
    · obtain ⟨q1, q2⟩ := other k y h1 hk
      rw [if_neg h1, if_pos h2, hl] at he
      exact absurd (h.inj k b0 y x0 q2 hb0 (hd.resolve_right h1) hd0 he) q1
    · rw [if_neg h1, if_neg h2] at he
      exact h.inj k k' y y' (other k y h1 hk).2 (other k' y' h2 hk').2 (hd.resolve_right h1) (hd'.resolve_right h2) he
  · rcases hk with hk | rfl
    · exact Nat.lt_of_lt_of_le (h.next k hk) hn
    · exact hn'
  · obtain ⟨h1, h2⟩ := h.glob g hg'
    exact ⟨.inl h1, (hph g h1).trans h2⟩
  · rw [hg] at hk
    by_cases hkb : k = b
    · rw [if_pos hkb] at hk
      injection hk with hk
      exact (hq _ _ _ hk).elim
    · rw [if_neg hkb] at hk
      by_cases hk0 : k = b0
      · rw [if_pos hk0] at hk; cases hk
      · rw [if_neg hk0] at hk
        have hdk : dm k := hd.resolve_right hkb
        obtain ⟨q1, ents, q2⟩ := h.iterAt hk hdk
        exact ⟨ents, by rw [hg, if_neg (show ¬ m = b from fun e => hb (e ▸ q1)), if_neg (hmb _ _ _ _ hk hdk)]; exact q2⟩
  · rw [hg] at hk hk'
    have other : ∀ k m left cur, (if k = b then some x else if k = b0 then none else H.bl.get k) = some (.iter m left cur) → k ≠ b ∧ H.bl.get k = some (.iter m left cur) := fun k m left cur hk => by
      by_cases hkb : k = b
      · rw [if_pos hkb] at hk
        injection hk with hk
        exact (hq _ _ _ hk).elim
      · rw [if_neg hkb] at hk
        by_cases hk0 : k = b0
        · rw [if_pos hk0] at hk; cases hk
        · rw [if_neg hk0] at hk; exact ⟨hkb, hk⟩
    obtain ⟨p1, p2⟩ := other _ _ _ _ hk
    obtain ⟨q1, q2⟩ := other _ _ _ _ hk'
    exact h.uniq k m left cur k' left' cur' p2 (hd.resolve_right p1) q2 (hd'.resolve_right q1)
  · refine ⟨fun _ h => .inl h, hph, hos, htape, hout, by omega, fun i _ hno => hheap i fun he => hno ⟨b0, x0, hb0, hd0, he.symm⟩, fun i ⟨k, y, hk, hd, he⟩ => ?_, hn, fun b' hb' => hb'.elim .inl fun e => .inr (by rw [e]; exact hbn)⟩
    rw [hg] at hk
    try simp only at he
    by_cases hkb : k = b
    · rw [if_pos hkb, hl] at he
      exact .inr ⟨b0, x0, hb0, hd0, he⟩
    · rw [if_neg hkb] at hk he
      by_cases hk0 : k = b0
      · rw [if_pos hk0] at hk; cases hk
      · rw [if_neg hk0] at hk
        exact .inr ⟨k, y, hk, hd.resolve_right hkb, he⟩
theorem Rel.same {P : Program} {φ : Nat → Loc} {dm : Nat → Prop} {H : AH} {w w' : World} (h : Rel P φ dm H w) (hos : w'.os = w.os) (htape : w'.tape = w.tape) (hout : w'.output = w.output)
    (hheap : w'.heap = w.heap) : Rel P φ dm H w' ∧ Grow φ dm H w φ dm H w' :=
  ⟨⟨fun b x hb hd => (h.blk b x hb hd).mono (fun _ h => h) (fun _ _ => rfl) (by rw [hheap]) (fun _ _ _ _ => by rw [hheap]), h.inj, h.next, h.glob, h.lent, h.uniq⟩,
    ⟨fun _ h => h, fun _ _ => rfl, hos, htape, hout, by rw [hheap]; exact Nat.le_refl _, fun i _ _ => by rw [hheap], fun _ h => .inr h, Nat.le_refl _, fun _ h => .inl h⟩⟩
end
end Ex
end Go.Proofs.YtfehlbepjmmkeaaGreatDoor
namespace Go.Proofs.YtfehlbepjmmkeaaGreatDoor
open Go.RowKit
namespace Ex
noncomputable section
theorem heap_new (w : World) (o : Obj) : (w.alloc o).heap[w.heap.size]? = some o := by show (w.heap.push o)[w.heap.size]? = some o; exact Array.getElem?_push_size
theorem heap_setCell_at (w : World) {g k : Nat} {c : Array Value} {t : TypeId} {z : Nat × Nat} (v : Value) (hg : w.heap[g]? = some (.cells c t z)) :
    (w.setCell ⟨g, k, none⟩ v).heap[g]? = some (.cells (c.setIfInBounds k v) t z) := by
  simp [World.setCell, Array.getElem?_modify, hg]
theorem run_storeCells_own {P : Program} (g o : Nat) (t : TypeId) (z : Nat × Nat) : ∀ (vs : List Value) (i : Nat) (c : Array Value) (w : World), w.heap[g]? = some (.cells c t z) →
    (∀ j, j < vs.length → ¬ (z.1 ≤ o + i + j ∧ o + i + j < z.2)) → o + i + vs.length ≤ c.size → (∀ v ∈ vs, v.oneCell' = true) →
    ∃ w' c', (storeCells ⟨g, o, none⟩ vs i).run P w = .ok () w' ∧ w'.os = w.os ∧ w'.tape = w.tape ∧ w'.output = w.output ∧ w'.heap.size = w.heap.size ∧ (∀ k, k ≠ g → w'.heap[k]? = w.heap[k]?) ∧
      w'.heap[g]? = some (.cells c' t z) ∧ c'.size = c.size ∧ ∀ k, c'[k]? = if o + i ≤ k ∧ k < o + i + vs.length then vs[k - (o + i)]? else c[k]?
  | [], i, c, w, hg, _, _, _ => ⟨w, c, rfl, rfl, rfl, rfl, rfl, fun _ _ => rfl, hg, rfl, fun k => by rw [if_neg (by simp)]⟩
  | v :: r, i, c, w, hg, hz, hl, h1 => by
    have hi : o + i < c.size := by simp at hl; omega
    have hadd : (⟨g, o, none⟩ : Addr).add i = ⟨g, o + i, none⟩ := by unfold Addr.add; split <;> simp_all
    have hcell : w.cell? ⟨g, o + i, none⟩ = some c[o + i] := by simp [World.cell?, hg, hi]
    have hfro : w.frozen? ⟨g, o + i, none⟩ = false := by
      have h0 := hz 0 (by simp)
      obtain ⟨lo, hi'⟩ := z
      simp only [World.frozen?, hg, Bool.and_eq_false_iff, decide_eq_false_iff_not]
      simp only [Nat.add_zero] at h0
      omega
    have hst : (store ((⟨g, o, none⟩ : Addr).add i) v).run P w = .ok () (w.setCell ⟨g, o + i, none⟩ v) := by
      rw [hadd, run_store P w _ v _ (h1 v (by simp)), hcell]
      simp [hfro]
    obtain ⟨w', c', e1, e2, e3, e4, e5, e6, e7, e8, e9⟩ := run_storeCells_own (P := P) g o t z r (i + 1) (c.setIfInBounds (o + i) v) (w.setCell ⟨g, o + i, none⟩ v) (heap_setCell_at w v hg)
      (fun j hj => by have := hz (j + 1) (by simp; omega); rwa [show o + i + (j + 1) = o + (i + 1) + j by omega] at this) (by simp at hl ⊢; omega) (fun x hx => h1 x (by simp [hx]))
    refine ⟨w', c', ?_, e2, e3, e4, by rw [e5]; simp [World.setCell], fun k hk => by rw [e6 k hk, Below.heap_setCell _ _ _ _ hk], e7, by rw [e8]; simp, fun k => ?_⟩
    · simp only [storeCells, Sem.run_bind, hst, Result.andThen_ok, e1]
    · rw [e9]
      simp only [List.length_cons]
      by_cases hk : o + (i + 1) ≤ k ∧ k < o + (i + 1) + r.length
      · rw [if_pos hk, if_pos (by omega), show k - (o + i) = (k - (o + (i + 1))) + 1 by omega]; rfl
      · rw [if_neg hk]
        by_cases he : k = o + i
        · subst he
          rw [if_pos (by omega), Array.getElem?_setIfInBounds_self_of_lt hi]
          simp
        · rw [if_neg (by omega), Array.getElem?_setIfInBounds_ne (by omega)]
theorem putCells_get : ∀ (l : List AV) (o : Nat) (t : T AV) (j : Nat), o + l.length ≤ LIM → (putCells l o t).get j = if o ≤ j ∧ j < o + l.length then l[j - o]? else t.get j
  | [], o, t, j, _ => by rw [if_neg (by simp only [List.length_nil]; omega)]; rfl
  | v :: l, o, t, j, h => by
    simp only [List.length_cons] at h ⊢
    rw [putCells, putCells_get l (o + 1) _ j (by omega), tset _ _ _ _ (by omega)]
    by_cases hj : o + 1 ≤ j ∧ j < o + 1 + l.length
    · rw [if_pos hj, if_pos (by omega), show j - o = (j - (o + 1)) + 1 by omega]; rfl
    · rw [if_neg hj]
      by_cases he : j = o
      · subst he; rw [if_pos rfl, if_pos (by omega)]; simp
      · rw [if_neg he, if_neg (by omega)]
theorem getCells_get : ∀ (n o : Nat) (t : T AV) (l : List AV), getCells t o n = some l → l.length = n ∧ ∀ j v, l[j]? = some v → t.get (o + j) = some v
  | 0, o, t, l, h => by injection h with h; subst h; exact ⟨rfl, fun j v hv => by simp at hv⟩
  | n + 1, o, t, l, h => by
    simp only [getCells] at h
    split at h
    · rename_i v hv
      split at h
      · rename_i r hr
        injection h with h
        subst h
        obtain ⟨h1, h2⟩ := getCells_get n (o + 1) t r hr
        refine ⟨by simp [h1], fun j u hu => ?_⟩
        cases j with
        | zero => simp only [List.getElem?_cons_zero, Option.some.injEq] at hu; subst hu; exact hv
        | succ j => have := h2 j u (by simpa using hu); rwa [show o + 1 + j = o + (j + 1) by omega] at this
      · contradiction
    · contradiction
def GoodS (lo nb : Nat) (P : Program) (φ : Nat → Loc) (dm : Nat → Prop) (H : AH) (w : World) (r : Result Next) (v : AV) (H' : AH) : Prop :=
  ∃ φ' dm' w' nx, r = .ok nx w' ∧ (nx = .value (conc φ' v) ∨ (nx = .skip ∧ v = .tup [])) ∧ sc dm' v ∧ Rel P φ' dm' H' w' ∧ GrowS lo φ dm H w φ' dm' H' w' ∧ ∀ c, dm' c → dm c ∨ c = nb
structure AtNew (dm : Nat → Prop) (K K' H H' : AH) : Prop where
  hb : ¬ dm K.next
  get : ∀ k, H'.bl.get k = if k = K.next then K'.bl.get K.next else H.bl.get k
  hn : H.next ≤ H'.next
  lt : K.next < H'.next
def Good (P : Program) (φ : Nat → Loc) (dm : Nat → Prop) (H : AH) (w : World) (r : Result Next) (v : AV) (H' : AH) : Prop :=
  ∃ φ' dm' w' nx, r = .ok nx w' ∧ (nx = .value (conc φ' v) ∨ (nx = .skip ∧ v = .tup [])) ∧ sc dm' v ∧ Rel P φ' dm' H' w' ∧ Grow φ dm H w φ' dm' H' w'
section
variable {P : Program} {φ : Nat → Loc} {dm : Nat → Prop} {g : Nat → Option AV} {a : Act} {H : AH} {w : World}
theorem Good.still {r : Result Next} {v : AV} (h : r = .ok (.value (conc φ v)) w) (hs : sc dm v) (hr : Rel P φ dm H w) : Good P φ dm H w r v H :=
  ⟨φ, dm, w, _, h, .inl rfl, hs, hr, Grow.refl _ _ _ _⟩
theorem Rel.cell (hr : Rel P φ dm H w) {b o n elem esz fz : Nat} {t : T AV} {flex : Bool} {v : AV} (hb : H.bl.get b = some (.cells n t elem flex esz fz)) (hd : dm b) (hv : t.get o = some v) :
    sc dm v ∧ w.cell? ⟨(φ b).blk, (φ b).base + o, none⟩ = some (conc φ v) := by
  obtain ⟨c, z, h1, _, _, _, h5⟩ := hr.blk b _ hb hd
  obtain ⟨_, h6, h7⟩ := h5 o v hv
  exact ⟨h6, by simp [World.cell?, h1, h7]⟩
def loadT (P : Program) (t : TypeId) : Option Nat → Prop
  | some k => aggB P t = some true ∧ sizeT P t = some k
  | none => aggB P t = some false
theorem loadA_sound (hr : Rel P φ dm H w) {b o : Nat} {n : Option Nat} {v : AV} {t : TypeId} (h : loadA H b o n = some v) (hd : dm b)
    (hn : loadT P t n) :
    (loadVar t ⟨(φ b).blk, (φ b).base + o, none⟩).run P w = .ok (conc φ v) w ∧ sc dm v := by
  unfold loadA at h
  split at h
  · rename_i nn tt ee ff ss zz hb
    cases n with
    | some k =>
      simp only at h
      split at h
      · rename_i l hl
        injection h with h
        subst h
        obtain ⟨h1, h2⟩ := getCells_get k o tt l hl
        have hc : ∀ j v, (concL φ l)[j]? = some v → w.cell? ((⟨(φ b).blk, (φ b).base + o, none⟩ : Addr).add j) = some v := by
          intro j v hv
          rw [concL_getElem] at hv
          cases hlj : l[j]? with
          | none => rw [hlj] at hv; cases hv
          | some u =>
            rw [hlj] at hv
            injection hv with hv
            subst hv
            have := (hr.cell hb hd (h2 j u hlj)).2
            rw [Addr.add_lit, Nat.add_assoc]
            exact this
        have hload := run_loadCells_list (P := P) w _ _ hc
        rw [concL_length, h1] at hload
        refine ⟨?_, (scL_iff dm l).2 fun u hu => ?_⟩
        · simp only [loadVar, Sem.run_bind, aggB_spec hn.1, Result.andThen_ok, if_true, sizeT_spec hn.2, hload, Sem.run_pure, conc]
        · obtain ⟨j, hj⟩ := List.mem_iff_getElem?.1 hu
          exact (hr.cell hb hd (h2 j u hj)).1
      · contradiction
    | none =>
      obtain ⟨h1, h2⟩ := hr.cell hb hd h
      refine ⟨?_, h1⟩
      simp only [loadVar, Sem.run_bind, aggB_spec hn, Result.andThen_ok, Bool.false_eq_true, if_false, run_load, h2]
  · contradiction
theorem storeA_sound (hr : Rel P φ dm H w) {b o : Nat} {l : List AV} {H' : AH} (h : storeA H b o l = some H') (hd : dm b) (hl : scL dm l) :
    ∃ w', (storeCells ⟨(φ b).blk, (φ b).base + o, none⟩ (concL φ l)).run P w = .ok () w' ∧ Rel P φ dm H' w' ∧ Grow φ dm H w φ dm H' w' := by
  unfold storeA at h
  split at h
  · rename_i n t e f s z hb
    split at h
    · rename_i hc
      obtain ⟨h1, h2, h3, h4, h5⟩ := hc
      injection h with h
      subst h
      obtain ⟨c, zz, k1, k2, k3, k4, k5⟩ := hr.blk b _ hb hd
      have hcs : (φ b).base + n ≤ c.size := by
        cases f with
        | false => obtain ⟨q1, q2, q3⟩ := k3 rfl; omega
        | true => have := k4 rfl; omega
      have hfz : ∀ j, j < (concL φ l).length → ¬ (zz.1 ≤ (φ b).base + o + 0 + j ∧ (φ b).base + o + 0 + j < zz.2) := by
        intro j hj
        rw [concL_length] at hj
        have : z = 0 ∨ z = 1 := by omega
        rcases this with rfl | rfl
        · have hzz : zz = (0, 0) := k2
          rw [hzz]
          simp
        · exact k2 _ (by omega)
      obtain ⟨w', c', e1, e2, e3, e4, e5, e6, e7, e8, e9⟩ := run_storeCells_own (P := P) (φ b).blk ((φ b).base + o) e zz (concL φ l) 0 c w k1 hfz
        (by rw [concL_length]; omega) (by
          intro v hv
          rw [concL_map] at hv
          obtain ⟨u, hu, rfl⟩ := List.mem_map.1 hv
          exact conc_one φ u (List.all_eq_true.1 h5 u hu))
      refine ⟨w', e1, hr.turn hb hd e2 e3 e4 e5 e6 (fun k => tset _ _ _ _ h4) rfl ?_⟩
      refine ⟨c', zz, e7, by rw [e8]; exact k2, fun hf => by rw [e8]; exact k3 hf, fun hf => by rw [e8]; exact k4 hf, fun i v hv => ?_⟩
      rw [putCells_get _ _ _ _ (by omega)] at hv
      by_cases hi : o ≤ i ∧ i < o + l.length
      · rw [if_pos hi] at hv
        refine ⟨by omega, scL_get hl hv, ?_⟩
        rw [e9, concL_length, if_pos (by omega), concL_getElem, show (φ b).base + i - ((φ b).base + o + 0) = i - o by omega, hv]
        rfl
      · rw [if_neg hi] at hv
        obtain ⟨q1, q2, q3⟩ := k5 i v hv
        refine ⟨q1, q2, ?_⟩
        rw [e9, concL_length, if_neg (by omega)]
        exact q3
    · contradiction
  · contradiction
theorem GoodS.good {r : Result Next} {v : AV} {H' : AH} {nb : Nat} (h : GoodS H.next nb P φ dm H w r v H') : Good P φ dm H w r v H' := by
  obtain ⟨φ', dm', w', nx, h1, h2, h3, h4, h5, _⟩ := h
  exact ⟨φ', dm', w', nx, h1, h2, h3, h4, h5.g⟩
theorem AtNew.self (hr : Rel P φ dm H w) {x : ABlk} (hl : H.next < LIM) : AtNew dm H (H.add x) H (H.add x) :=
  ⟨fun hd => Nat.lt_irrefl _ (hr.next _ hd), fun k => by
    show (T.set _ FUEL H.bl H.next).get k = if k = H.next then (T.set _ FUEL H.bl H.next).get H.next else _
    rw [tset _ _ _ _ hl, tset _ _ _ _ hl, if_pos rfl], Nat.le_succ _, Nat.lt_succ_self _⟩
theorem newA_sound (hr : Rel P φ dm H w) {K K' H' : AH} {e b esz lo : Nat} {l : List AV} (h : newA K e l false esz 0 = some (b, K')) (hl : scL dm l) (A : AtNew dm K K' H H') (hlo : lo ≤ K.next) :
    ∃ φ' dm', (φ' b) = ⟨w.heap.size, 0, 0⟩ ∧ dm' b ∧ Rel P φ' dm' H' (w.alloc (.cells (concL φ l).toArray e)) ∧ GrowS lo φ dm H w φ' dm' H' (w.alloc (.cells (concL φ l).toArray e)) ∧ ∀ c, dm' c → dm c ∨ c = K.next := by
  unfold newA at h
  split at h
  · rename_i hc
    injection h with h
    injection h with hb hH
    subst hb
    subst hH
    have := hr.allocS (b := K.next) A.hb (o := .cells (concL φ l).toArray e) (x := .cells l.length (putCells l 0 .E) e false esz 0) (l := ⟨w.heap.size, 0, 0⟩) rfl
      (H' := H') (fun k => by rw [A.get k, show (K.add (ABlk.cells l.length (putCells l 0 .E) e false esz 0)).bl.get K.next = some (.cells l.length (putCells l 0 .E) e false esz 0) from by
        show (T.set _ FUEL K.bl K.next).get K.next = _; rw [tset _ _ _ _ hc.1, if_pos rfl]]) A.hn A.lt ?_ hlo
    · exact ⟨_, _, if_pos rfl, .inr rfl, this.1, this.2, fun c hc => hc⟩
    · refine ⟨(concL φ l).toArray, (0, 0), heap_new w _, rfl, fun _ => ⟨rfl, rfl, by simp [concL_length]⟩, (fun hf => by cases hf), fun i v hv => ?_⟩
      rw [putCells_get _ _ _ _ (by omega)] at hv
      split at hv
      · rename_i hi
        refine ⟨by omega, scL_get hl hv, ?_⟩
        simp only [Nat.zero_add, List.getElem?_toArray, concL_getElem]
        rw [Nat.sub_zero] at hv
        rw [hv]; rfl
      · rw [T.get_E] at hv; cases hv
  · contradiction
theorem onceIR_new {ir : IR} {v : AV} {K' : AH} (h : onceIR g H ir = some (v, K')) (hc : ir.cls = 3) : ∃ x, H.next < LIM ∧ K' = H.add x := by
  have key : ∀ {e b esz fz : Nat} {l : List AV} {fl : Bool} {K' : AH}, newA H e l fl esz fz = some (b, K') → ∃ x, H.next < LIM ∧ K' = H.add x := by
    intro e b esz fz l fl K' h
    unfold newA at h
    split at h
    · rename_i hc; injection h with h; injection h with _ h; exact ⟨_, hc.1, h.symm⟩
    · contradiction
  cases ir <;> first | (simp [IR.cls] at hc; done) | skip
  case makeM r =>
    cases r with
    | none =>
      simp only [onceIR] at h
      split at h
      · rename_i hl; injection h with h; injection h with _ h; exact ⟨_, hl, h.symm⟩
      · contradiction
    | some r =>
      simp only [onceIR] at h
      split at h
      · split at h
        · rename_i hl; injection h with h; injection h with _ h; exact ⟨_, hl, h.symm⟩
        · contradiction
      · contradiction
  all_goals
    simp only [onceIR] at h
    repeat' split at h
    all_goals first
      | contradiction
      | (rename_i hn; injection h with h; injection h with _ h; subst h; exact key hn)
end
end
end Ex
end Go.Proofs.YtfehlbepjmmkeaaGreatDoor
namespace Go.Proofs.YtfehlbepjmmkeaaGreatDoor
open Go.RowKit
namespace Ex
noncomputable section
variable {P : Program} {φ : Nat → Loc} {dm : Nat → Prop} {g : Nat → Option AV} {a : Act} {H H' : AH} {w : World} {v : AV}
theorem run_v' (s : Sem Value) {w w' : World} {v : Value} (h : s.run P w = .ok v w') : (do pure (Next.value (← s)) : Sem Next).run P w = .ok (.value v) w' := by
  simp [h]
theorem run_u' (s : Sem Unit) {w w' : World} (h : s.run P w = .ok () w') : (do s; pure Next.skip : Sem Next).run P w = .ok .skip w' := by
  simp [h]
theorem ok_load {n : Option Nat} {x : Operand} {u : Od} {t : TypeId} (hx : odOf x = some u) (hn : loadT P t n)
    (hv : onceIR g H (.load n u) = some (v, H')) (R : RR φ dm g a) (hr : Rel P φ dm H w) :
    Good P φ dm H w ((do pure (Next.value (← Instr.loadAt t (a.eval x))) : Sem Next).run P w) v H' := by
  simp only [onceIR] at hv
  split at hv
  · rename_i b o he
    split at hv
    · rename_i r hl
      injection hv with hv
      injection hv with h1 h2
      subst h1
      subst h2
      obtain ⟨e1, e2⟩ := od_spec R hx he
      obtain ⟨l1, l2⟩ := loadA_sound hr hl e2 hn
      refine Good.still (run_v' _ ?_) l2 hr
      rw [e1]
      simp only [conc, Instr.loadAt, Instr.sureAddr, Sem.run_bind, Sem.run_pure, Result.andThen_ok]
      exact l1
    · contradiction
  · contradiction
theorem ok_store {n : Nat} {x y : Operand} {u z : Od} {t : TypeId} (hx : odOf x = some u) (hy : odOf y = some z) (hn : sizeT P t = some n)
    (hv : onceIR g H (.store n u z) = some (v, H')) (R : RR φ dm g a) (hr : Rel P φ dm H w) :
    Good P φ dm H w ((do Instr.storeAt t (a.eval x) (a.eval y); pure Next.skip : Sem Next).run P w) v H' := by
  simp only [onceIR] at hv
  split at hv
  · rename_i b o he
    split at hv
    · rename_i r hl
      split at hv
      · rename_i hlen
        split at hv
        · rename_i H1 hs
          injection hv with hv
          injection hv with h1 h2
          subst h1
          subst h2
          obtain ⟨e1, e2⟩ := od_spec R hx he
          obtain ⟨e3, e4⟩ := od_spec R hy hl
          obtain ⟨w', s1, s2, s3⟩ := storeA_sound hr hs e2 (sc_cells e4)
          refine ⟨φ, dm, w', .skip, run_u' _ ?_, .inr ⟨rfl, rfl⟩, by simp [sc, scL], s2, s3⟩
          rw [e1, e3]
          have hc : (conc φ r).cells = (concL φ r.cells).toArray := cells_conc r
          simp only [conc, Instr.storeAt, Instr.sureAddr, Sem.run_bind, Sem.run_pure, Result.andThen_ok, storeVar, sizeT_spec hn, hc]
          rw [if_neg (by simp [concL_length, hlen])]
          exact s1
        · contradiction
      · contradiction
    · contradiction
  · contradiction
theorem ok_newA {K K' : AH} {e esz b lo : Nat} {l : List AV} (h : newA K e l false esz 0 = some (b, K')) (hl : scL dm l) (hr : Rel P φ dm H w) (A : AtNew dm K K' H H') (hlo : lo ≤ K.next) :
    ∃ φ' dm', φ' b = ⟨w.heap.size, 0, 0⟩ ∧ dm' b ∧ Rel P φ' dm' H' (w.alloc (.cells (concL φ l).toArray e)) ∧ (GrowS lo φ dm H w φ' dm' H' (w.alloc (.cells (concL φ l).toArray e)) ∧ ∀ c, dm' c → dm c ∨ c = K.next) ∧
      (newRow e (concL φ l).toArray).run P w = .ok ⟨w.heap.size, 0, none⟩ (w.alloc (.cells (concL φ l).toArray e)) := by
  obtain ⟨φ', dm', h1, h2, h3, h4⟩ := newA_sound hr h hl A hlo
  refine ⟨φ', dm', h1, h2, h3, h4, ?_⟩
  simp [newRow]
theorem al_new {t : TypeId} {l : List AV} (hz : zeroOf P t = some l) {K K' : AH} {lo : Nat} (A : AtNew dm K K' H H') (hlo : lo ≤ K.next) (hv : onceIR g K (.new t l) = some (v, K')) (hr : Rel P φ dm H w) :
    GoodS lo K.next P φ dm H w ((do pure (Next.value (← Instr.alloc t true (.tuple #[]))) : Sem Next).run P w) v H' := by
  simp only [onceIR] at hv
  split at hv
  · rename_i b H1 hn
    injection hv with hv
    injection hv with h1 h2
    subst h1
    subst h2
    obtain ⟨i, z, hi, hz0, hzz⟩ := zeroOf_spec hz
    obtain ⟨hc, hsz, _⟩ := hzz φ dm
    obtain ⟨φ', dm', k1, k2, k3, k4, k5⟩ := ok_newA hn hsz hr A hlo
    refine ⟨φ', dm', _, _, run_v' _ ?_, .inl rfl, k2, k3, k4⟩
    simp only [Instr.alloc, zeroValue, typeInfo, Sem.run_bind, run_program, Result.andThen_ok, hi, Sem.run_pure, hz0, newVar, ← hc, k5, conc, k1]
  · contradiction
theorem ok_new {t : TypeId} {l : List AV} (hz : zeroOf P t = some l) (hv : onceIR g H (.new t l) = some (v, H')) (hr : Rel P φ dm H w) :
    Good P φ dm H w ((do pure (Next.value (← Instr.alloc t true (.tuple #[]))) : Sem Next).run P w) v H' := by
  obtain ⟨x, hl, rfl⟩ := onceIR_new hv rfl
  exact (al_new hz (.self hr hl) (Nat.le_refl _) hv hr).good
theorem al_box {t : TypeId} {x : Operand} {u : Od} {n : Nat} (hx : odOf x = some u) {K K' : AH} {lo : Nat} (A : AtNew dm K K' H H') (hlo : lo ≤ K.next) (hv : onceIR g K (.box t n u) = some (v, K')) (R : RR φ dm g a) (hr : Rel P φ dm H w) :
    GoodS lo K.next P φ dm H w ((do pure (Next.value (← Instr.box t (a.eval x))) : Sem Next).run P w) v H' := by
  simp only [onceIR] at hv
  split at hv
  · rename_i r he
    split at hv
    · rename_i b H1 hn
      injection hv with hv
      injection hv with h1 h2
      subst h1
      subst h2
      obtain ⟨e1, e2⟩ := od_spec R hx he
      obtain ⟨φ', dm', k1, k2, k3, k4, k5⟩ := ok_newA hn (sc_cells e2) hr A hlo
      refine ⟨φ', dm', _, _, run_v' _ ?_, .inl rfl, k2, k3, k4⟩
      have hc : (conc φ r).cells = (concL φ r.cells).toArray := cells_conc r
      simp only [Instr.box, e1, newVar, hc, Sem.run_bind, k5, Result.andThen_ok, Sem.run_pure, conc, k1]
    · contradiction
  · contradiction
theorem ok_box {t : TypeId} {x : Operand} {u : Od} {n : Nat} (hx : odOf x = some u) (hv : onceIR g H (.box t n u) = some (v, H')) (R : RR φ dm g a) (hr : Rel P φ dm H w) :
    Good P φ dm H w ((do pure (Next.value (← Instr.box t (a.eval x))) : Sem Next).run P w) v H' := by
  obtain ⟨x, hl, rfl⟩ := onceIR_new hv rfl
  exact (al_box hx (.self hr hl) (Nat.le_refl _) hv R hr).good
theorem flatten_get {α : Type} (z : List α) (hz : 0 < z.length) : ∀ (n i : Nat), i < n * z.length → (List.replicate n z).flatten[i]? = z[i % z.length]?
  | 0, i, h => by simp at h
  | n + 1, i, h => by
    simp only [List.replicate_succ, List.flatten_cons]
    by_cases hi : i < z.length
    · rw [List.getElem?_append_left hi, Nat.mod_eq_of_lt hi]
    · rw [List.getElem?_append_right (by omega), flatten_get z hz n (i - z.length) (by rw [Nat.succ_mul] at h; omega), ← Nat.mod_eq_sub_mod (by omega)]
theorem flatten_len {α : Type} (z : List α) (n : Nat) : (List.replicate n z).flatten.length = n * z.length := by
  simp [List.length_flatten]
theorem zeros_eq (z : List Value) (n : Nat) (hz : 0 < z.length) : ((Array.range (n * z.length)).map (fun i => z.toArray[i % z.toArray.size]!)) = (List.replicate n z).flatten.toArray := by
  apply Array.ext_getElem?
  intro i
  have e : (List.replicate n z).flatten.toArray[i]? = (List.replicate n z).flatten[i]? := by simp
  rw [e]
  by_cases hi : i < n * z.length
  · rw [flatten_get z hz n i hi]
    have hm : i % z.length < z.length := Nat.mod_lt _ hz
    simp [hi, hm]
  · rw [List.getElem?_eq_none (by rw [flatten_len]; omega)]
    simp [hi]
theorem concL_flatten (l : List AV) (n : Nat) : concL φ (List.replicate n l).flatten = (List.replicate n (concL φ l)).flatten := by
  simp [concL_map, List.map_flatten]
theorem scL_flatten {l : List AV} (h : scL dm l) (n : Nat) : scL dm (List.replicate n l).flatten := by
  refine (scL_iff dm _).2 fun v hv => ?_
  obtain ⟨m, hm, hvm⟩ := List.mem_flatten.1 hv
  rw [List.eq_of_mem_replicate hm] at hvm
  exact (scL_iff dm l).1 h v hvm
theorem al_row {t e : TypeId} {s n : Nat} {z : List AV} {parts : Array (Nat × Operand)} {ps : List (Nat × Nat × Od)} (ht : P.underlying t = some (.slice e)) (hs : sizeT P e = some s) (hz : zeroOf P e = some z)
    (hp : partsR s parts.toList = some ps) (hc : z.length = s ∧ 0 < s ∧ n * s < 1000000)
    {K K' : AH} {lo : Nat} (A : AtNew dm K K' H H') (hlo : lo ≤ K.next) (hv : onceIR g K (.row e n (List.replicate n z).flatten ps) = some (v, K')) (R : RR φ dm g a) (hr : Rel P φ dm H w) :
    GoodS lo K.next P φ dm H w ((do pure (Next.value (← Instr.buildSlice t n (parts.map fun (i, x) => (i, a.eval x)))) : Sem Next).run P w) v H' := by
  simp only [onceIR] at hv
  split at hv
  · rename_i l hl
    split at hv
    · rename_i b H1 hn
      injection hv with hv
      injection hv with h1 h2
      subst h1
      subst h2
      obtain ⟨i, z0, hi, hz0, hzz⟩ := zeroOf_spec hz
      obtain ⟨hcz, hsz, _⟩ := hzz φ dm
      obtain ⟨hlen, hsp⟩ := partsR_spec s parts.toList ps hp
      have hfs := fill_spec (fun k => some (k * s, s)) R parts.toList ps _ l
        ⟨hlen, fun k p q hp hq => by
          obtain ⟨⟨h1, h2⟩, h3⟩ := hsp k p q hp hq
          refine ⟨?_, h3⟩
          rw [h1, h2]⟩ hl (scL_flatten hsz n)
      obtain ⟨φ', dm', k1, k2, k3, k4, k5⟩ := ok_newA hn hfs.2 hr A hlo
      refine ⟨φ', dm', _, _, run_v' _ ?_, .inl rfl, k2, k3, k4⟩
      have hzl : (concL φ z).length = s := by rw [concL_length]; exact hc.1
      have hzero : ((Array.range (n * s)).map (fun i => (z0.cells)[i % (z0.cells).size]!)) = (concL φ (List.replicate n z).flatten).toArray := by
        rw [← hcz, concL_flatten]
        have := zeros_eq (concL φ z) n (by omega)
        rw [hzl] at this
        exact this
      have ep : (parts.map fun (x : Nat × Operand) => (x.1, a.eval x.2)).toList = parts.toList.map fun (x : Nat × Operand) => (x.1, a.eval x.2) := by simp
      have hf2 := hfs.1
      rw [← ep] at hf2
      have hng : ¬ n * s > 2 ^ 24 := by omega
      by_cases h0 : n * s = 0
      · have hn0 : n = 0 := by
          rcases Nat.mul_eq_zero.1 h0 with h | h
          · exact h
          · omega
        subst hn0
        have hng0 : ¬ (0 : Nat) > 2 ^ 24 := by decide
        have hA : ∀ (f : Nat → Value), Array.map f (Array.range 0) = (concL φ (List.replicate 0 z).flatten).toArray := by intro f; simp [concL]
        simp only [Instr.buildSlice, Sem.run_bind, run_underlying ht, Result.andThen_ok, sizeT_spec hs, Nat.zero_mul, if_neg hng0, Sem.run_pure, if_true, hA]
        rw [hf2]
        simp only [Sem.run_bind, k5, Result.andThen_ok, Sem.run_pure, conc, k1]
        rfl
      · simp only [Instr.buildSlice, Sem.run_bind, run_underlying ht, Result.andThen_ok, sizeT_spec hs, if_neg hng, Sem.run_pure, if_neg h0, zeroValue, typeInfo, run_program, hi, hz0]
        rw [hzero, hf2]
        simp only [Sem.run_bind, k5, Result.andThen_ok, Sem.run_pure, conc, k1]
        simp
    · contradiction
  · contradiction
theorem ok_row {t e : TypeId} {s n : Nat} {z : List AV} {parts : Array (Nat × Operand)} {ps : List (Nat × Nat × Od)} (ht : P.underlying t = some (.slice e)) (hs : sizeT P e = some s) (hz : zeroOf P e = some z)
    (hp : partsR s parts.toList = some ps) (hc : z.length = s ∧ 0 < s ∧ n * s < 1000000)
    (hv : onceIR g H (.row e n (List.replicate n z).flatten ps) = some (v, H')) (R : RR φ dm g a) (hr : Rel P φ dm H w) :
    Good P φ dm H w ((do pure (Next.value (← Instr.buildSlice t n (parts.map fun (i, x) => (i, a.eval x)))) : Sem Next).run P w) v H' := by
  obtain ⟨x, hl, rfl⟩ := onceIR_new hv rfl
  exact (al_row ht hs hz hp hc (.self hr hl) (Nat.le_refl _) hv R hr).good
end
end Ex
end Go.Proofs.YtfehlbepjmmkeaaGreatDoor
namespace Go.Proofs.YtfehlbepjmmkeaaGreatDoor
open Go.RowKit
namespace Ex
noncomputable section
variable {P : Program} {φ : Nat → Loc} {dm : Nat → Prop} {g : Nat → Option AV} {a : Act} {H H' : AH} {w : World} {v : AV}
theorem strVs_length : ∀ (l n : Nat), (strVs n l).length = l
  | 0, _ => rfl
  | l + 1, n => by simp [strVs, strVs_length l]
theorem concL_strVs : ∀ (l n : Nat), concL φ (strVs n l) = (strL n l).map fun b => Value.int .u8 b.toNat
  | 0, _ => rfl
  | l + 1, n => by
    simp only [strVs, concL, conc, strL, List.map_cons, concL_strVs l]
    have h1 := Nat.mod_lt n (show 256 > 0 by omega)
    simp
theorem scL_strVs (l n : Nat) : scL dm (strVs n l) := by
  refine (scL_iff dm _).2 ?_
  induction l generalizing n with
  | zero => simp [strVs]
  | succ l ih => intro v hv; simp only [strVs, List.mem_cons] at hv; rcases hv with rfl | hv; · simp [sc]
                 exact ih _ v hv
theorem strL_take' : ∀ (k n l : Nat), k ≤ l → (strL n l).take k = strL n k := fun k n l h => (strL_take k n l h).symm
theorem elemsOf_sound (hr : Rel P φ dm H w) {size m : Nat} {x : AV} {l : List AV} (h : elemsOf H size x = some (m, l)) (hx : sc dm x) :
    (∀ k, k ≤ m → (Builtin.firstCells size k (conc φ x)).run P w = .ok (concL φ (l.take (k * size))).toArray w) ∧ scL dm l ∧ (Builtin.lenOf (conc φ x)).run P w = .ok m w ∧ l.length = m * size := by
  cases x with
  | snil =>
    simp only [elemsOf, Option.some.injEq, Prod.mk.injEq] at h
    obtain ⟨rfl, rfl⟩ := h
    exact ⟨fun k _ => by simp [conc, concL, Builtin.firstCells], trivial, by simp [conc, Builtin.lenOf], by simp⟩
  | slice b o d n c =>
    simp only [elemsOf] at h
    split at h
    · rename_i hn
      injection h with h
      injection h with h1 h2
      subst h1 h2 hn
      exact ⟨fun k hk => by obtain rfl : k = 0 := by omega
                            simp [conc, concL, Builtin.firstCells, loadCells, loadCellsFrom], trivial, by simp [conc, Builtin.lenOf], by simp⟩
    · rename_i hn
      split at h
      · rename_i nn tt ee ff ss zz hb
        split at h
        · contradiction
        · rename_i hc
          split at h
          · rename_i r hl
            injection h with h
            injection h with h1 h2
            subst h1 h2
            obtain ⟨h1, h2⟩ := getCells_get _ o tt r hl
            refine ⟨fun k hk => ?_, (scL_iff dm r).2 fun u hu => ?_, by simp [conc, Builtin.lenOf], h1⟩
            · have hcc : ∀ j v, (concL φ (r.take (k * size)))[j]? = some v → w.cell? ((⟨(φ b).blk, (φ b).base + o, none⟩ : Addr).add j) = some v := by
                intro j v hv
                rw [concL_getElem, List.getElem?_take] at hv
                split at hv
                · cases hlj : r[j]? with
                  | none => rw [hlj] at hv; cases hv
                  | some u =>
                    rw [hlj] at hv
                    injection hv with hv
                    subst hv
                    have := (hr.cell hb hx (h2 j u hlj)).2
                    rw [Addr.add_lit, Nat.add_assoc]
                    exact this
                · cases hv
              simp only [conc]
              rw [if_neg (show ¬ c + (φ b).ext = 0 by omega)]
              have hkm : k * size ≤ n * size := Nat.mul_le_mul_right _ hk
              exact run_firstCells_some (P := P) w size k _ n _ _ (by rw [concL_length, List.length_take, h1]; omega) hcc
            · obtain ⟨j, hj⟩ := List.mem_iff_getElem?.1 hu
              exact (hr.cell hb hx (h2 j u hj)).1
          · contradiction
      · contradiction
  | str q n =>
    simp only [elemsOf] at h
    split at h
    · rename_i hs
      subst hs
      simp only [Option.some.injEq, Prod.mk.injEq] at h
      obtain ⟨rfl, rfl⟩ := h
      refine ⟨fun k hk => ?_, scL_strVs _ _, by simp [conc, Builtin.lenOf, strB_size], by rw [strVs_length, Nat.mul_one]⟩
      simp only [conc, Builtin.firstCells, Sem.run_pure]
      congr 1
      have : (strB q n).extract 0 k = strB k n := by rw [strB_extract q n 0 k (Nat.zero_le _) hk]; simp
      rw [this, Nat.mul_one, concL_take, concL_strVs, ← List.map_take, strL_take' k n q hk]
      simp [strB]
    · contradiction
  | _ => simp [elemsOf] at h
theorem wrap_small {n : Int} (h0 : 0 ≤ n) (h1 : n < 1000000) : IntKind.i64.wrap n = n := by
  simp [IntKind.wrap, IntKind.bits, IntKind.signed]; omega
theorem al_makeS {t e : TypeId} {s : Nat} {z : List AV} {x y : Operand} {u q : Od} (ht : P.underlying t = some (.slice e)) (hs : sizeT P e = some s) (hz : zeroOf P e = some z)
    (hx : odOf x = some u) (hy : odOf y = some q) (hc : z.length = s ∧ 0 < s)
    {K K' : AH} {lo : Nat} (A : AtNew dm K K' H H') (hlo : lo ≤ K.next) (hv : onceIR g K (.makeS e s (bytesT P e) z u q) = some (v, K')) (R : RR φ dm g a) (hr : Rel P φ dm H w) :
    GoodS lo K.next P φ dm H w ((do pure (Next.value (← Instr.makeSlice t (a.eval x) (a.eval y))) : Sem Next).run P w) v H' := by
  simp only [onceIR] at hv
  split at hv
  · rename_i k1 l he
    split at hv
    · rename_i k2 c he2
      split at hv
      · rename_i hb
        split at hv
        · rename_i b H1 hn
          injection hv with hv
          injection hv with h1 h2
          subst h1
          subst h2
          obtain ⟨i, z0, hi, hz0, hzz⟩ := zeroOf_spec hz
          obtain ⟨hcz, hsz, _⟩ := hzz φ dm
          obtain ⟨e1, _⟩ := od_spec R hx he
          obtain ⟨e2, _⟩ := od_spec R hy he2
          obtain ⟨φ', dm', k1', k2', k3, k4, k5⟩ := ok_newA hn (scL_flatten hsz c.toNat) hr A hlo
          refine ⟨φ', dm', _, _, run_v' _ ?_, .inl rfl, k2', k3, k4⟩
          have hbi : bytesT P e = i.bytes := by simp [bytesT, hi]
          rw [hbi] at hb
          obtain ⟨b1, b2, b3, b4, b5⟩ := hb
          have hprod : (i.bytes : Int) * c ≤ 1000000 * 1000000 := Int.mul_le_mul (by omega) (by omega) (by omega) (by omega)
          have hprod0 : 0 ≤ (i.bytes : Int) * c := Int.mul_nonneg (by omega) (by omega)
          have hprodl : (i.bytes : Int) * l ≤ 1000000 * 1000000 := Int.mul_le_mul (by omega) (by omega) (by omega) (by omega)
          have hzl : (concL φ z).length = s := by rw [concL_length]; exact hc.1
          have hcells : ∀ zz : Array Value, zz = (if c.toNat * s = 0 then #[] else z0.cells) → ((Array.range (c.toNat * s)).map (fun i => zz[i % zz.size]!)) = (concL φ (List.replicate c.toNat z).flatten).toArray := by
            intro zz hzz'
            by_cases h0 : c.toNat * s = 0
            · have hn0 : c.toNat = 0 := by
                rcases Nat.mul_eq_zero.1 h0 with h | h
                · exact h
                · omega
              rw [hn0]; simp [concL]
            · rw [hzz', if_neg h0, ← hcz, concL_flatten]
              have := zeros_eq (concL φ z) c.toNat (by omega)
              rw [hzl] at this
              exact this
          rw [e1, e2]
          simp only [Instr.makeSlice, Sem.run_bind, run_underlying ht, Result.andThen_ok, conc, asInt, asIntOf, Sem.run_pure, typeInfo, run_program, hi, wrap_small b1 (by omega : l < 1000000), wrap_small (by omega : 0 ≤ c) b3]
          have hc1 : (c < 0) = False := by simp; omega
          have hc2 : ((i.bytes : Int) * c > 2 ^ 48) = False := by simp; omega
          have hc3 : (l < 0) = False := by simp; omega
          have hc4 : (l > c) = False := by simp; omega
          simp only [hc1, hc2, hc3, hc4, decide_false, Bool.or_false, Bool.false_eq_true, if_false, Sem.run_bind, run_askRoom, Result.andThen_ok, sizeT_spec hs]
          by_cases h0 : c.toNat * s = 0
          · rw [if_pos h0]
            simp only [Sem.run_pure, Sem.run_bind, Result.andThen_ok]
            rw [hcells #[] (by rw [if_pos h0])]
            simp only [k5, Result.andThen_ok, k1']
            simp
          · rw [if_neg h0]
            simp only [Sem.run_bind, zeroValue, typeInfo, run_program, Result.andThen_ok, hi, Sem.run_pure, hz0]
            rw [hcells z0.cells (by rw [if_neg h0])]
            simp only [k5, Result.andThen_ok, k1']
            simp
        · contradiction
      · contradiction
    · contradiction
  · contradiction
theorem ok_makeS {t e : TypeId} {s : Nat} {z : List AV} {x y : Operand} {u q : Od} (ht : P.underlying t = some (.slice e)) (hs : sizeT P e = some s) (hz : zeroOf P e = some z)
    (hx : odOf x = some u) (hy : odOf y = some q) (hc : z.length = s ∧ 0 < s)
    (hv : onceIR g H (.makeS e s (bytesT P e) z u q) = some (v, H')) (R : RR φ dm g a) (hr : Rel P φ dm H w) :
    Good P φ dm H w ((do pure (Next.value (← Instr.makeSlice t (a.eval x) (a.eval y))) : Sem Next).run P w) v H' := by
  obtain ⟨x, hl, rfl⟩ := onceIR_new hv rfl
  exact (al_makeS ht hs hz hx hy hc (.self hr hl) (Nat.le_refl _) hv R hr).good
theorem ok_copy {t e : TypeId} {size : Nat} {x y : Operand} {u q : Od} {ts : Array TypeId} {ty : TypeId} (ht0 : ts[0]? = some t) (ht : P.underlying t = some (.slice e)) (hs : sizeT P e = some size)
    (hx : odOf x = some u) (hy : odOf y = some q) (hv : onceIR g H (.copy size u q) = some (v, H')) (R : RR φ dm g a) (hr : Rel P φ dm H w) :
    Good P φ dm H w ((do pure (Next.value (← Builtin.copy_ ts ty #[a.eval x, a.eval y])) : Sem Next).run P w) v H' := by
  simp only [onceIR] at hv
  split at hv
  · rename_i src he
    split at hv
    · rename_i m new hel
      obtain ⟨e1, e2⟩ := od_spec R hy he
      obtain ⟨l1, l2, l3, l4⟩ := elemsOf_sound hr hel e2
      split at hv
      · rename_i hd
        injection hv with hv
        injection hv with h1 h2
        subst h1
        subst h2
        obtain ⟨d1, d2⟩ := od_spec R hx hd
        refine Good.still (run_v' _ ?_) (by simp [sc]) hr
        have hf0 := l1 0 (Nat.zero_le _)
        rw [e1, d1]
        simp [Builtin.copy_, ht0, run_underlying ht, conc, l3, sizeT_spec hs, hf0, goInt]
      · rename_i b o d n c hd
        split at hv
        · contradiction
        · rename_i hc0
          split at hv
          · rename_i H1 hst
            injection hv with hv
            injection hv with h1 h2
            subst h1
            subst h2
            obtain ⟨d1, d2⟩ := od_spec R hx hd
            obtain ⟨w', s1, s2, s3⟩ := storeA_sound hr hst d2 (scL_sub l2 fun v hv => List.mem_of_mem_take hv)
            refine ⟨φ, dm, w', _, run_v' _ ?_, .inl rfl, by simp [sc], s2, s3⟩
            have hfm := l1 (min m n) (Nat.min_le_left _ _)
            rw [e1, d1]
            simp only [Builtin.copy_, ht0, conc]
            have hmin : Nat.min m n = min m n := rfl
            simp only [List.getElem?_toArray, List.getElem?_cons_zero, List.getElem?_cons_succ, Sem.run_bind, run_underlying ht, Result.andThen_ok, l3, sizeT_spec hs, hmin, hfm]
            rw [if_neg (show ¬ c + (φ b).ext = 0 by omega)]
            simp only [s1, Result.andThen_ok, Sem.run_pure, goInt]
          · contradiction
      · contradiction
    · contradiction
  · contradiction
end
end Ex
end Go.Proofs.YtfehlbepjmmkeaaGreatDoor
