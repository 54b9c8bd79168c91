/-
  DERIVED. An abstract machine, and that its runs are runs of the model: part 8 of 11. No condition.
-/
import Derived.Test.YtfehlbepjmmkeaaGreatDoorXg
namespace Go.Proofs.YtfehlbepjmmkeaaGreatDoor
open Go.RowKit
namespace Ex
noncomputable section
def pv_mov (ρ : Nat → Option AV) (x : Od) : Option AV := x.ev ρ
def pv_pick (ρ : Nat → Option AV) (c : Od) (a : Od) (b : Od) : Option AV := match c.ev ρ with
    | some (.bool true) => a.ev ρ
    | some (.bool false) => b.ev ρ
    | _ => none
def pv_bin (ρ : Nat → Option AV) (op : BinOp) (x : Od) (y : Od) : Option AV := match x.ev ρ with
    | some u => match y.ev ρ with
      | some v => abin op u v
      | none => none
    | none => none
def pv_eqk (ρ : Nat → Option AV) (neg : Bool) (d : Nat) (cst : Bool) (x : Od) (y : Od) : Option AV := match x.ev ρ with
    | some u => match y.ev ρ with
      | some v => match aeq d cst u v with
        | some b => some (.bool (if neg then !b else b))
        | none => none
      | none => none
    | none => none
def pv_eqI (ρ : Nat → Option AV) (neg : Bool) (ts : List Nat) (x : Od) (y : Od) : Option AV := match x.ev ρ with
    | some u => match y.ev ρ with
      | some v => match ieq ts u v with
        | some b => some (.bool (if neg then !b else b))
        | none => none
      | none => none
    | none => none
def pv_not (ρ : Nat → Option AV) (x : Od) : Option AV := match x.ev ρ with
    | some (.bool b) => some (.bool !b)
    | _ => none
def pv_conv (ρ : Nat → Option AV) (k : IntKind) (x : Od) : Option AV := match x.ev ρ with
    | some (.int _ n) => some (.int k (k.wrap n))
    | _ => none
def pv_mkI (ρ : Nat → Option AV) (t : Nat) (x : Od) : Option AV := match x.ev ρ with
    | some v => some (.iface t v)
    | none => none
def pv_mkF (ρ : Nat → Option AV) (f : Nat) (u : List Od) (v : List Od) : Option AV := match evs ρ u with
    | some a => match evs ρ v with
      | some b => some (.func f a b)
      | none => none
    | none => none
def pv_slice (ρ : Nat → Option AV) (s : Nat) (x : Od) (lo : Option Od) (hi : Option Od) : Option AV := match x.ev ρ with
    | some (.slice b o d n c) => match bnd ρ hi n c with
      | some h => match bnd ρ lo 0 h with
        | some l => if l ≤ c then some (.slice b (o + l * s) (if c = 0 then d else o) (h - l) (c - l)) else none
        | none => none
      | none => none
    | some .snil => match bnd ρ hi 0 0 with
      | some _ => match bnd ρ lo 0 0 with
        | some _ => some .snil
        | none => none
      | none => none
    | _ => none
def pv_sliceS (ρ : Nat → Option AV) (x : Od) (lo : Option Od) (hi : Option Od) : Option AV := match x.ev ρ with
    | some (.str ln n) => match bnd ρ hi ln ln with
      | some h => match bnd ρ lo 0 h with
        | some l => some (.str (h - l) (n / 256 ^ l))
        | none => none
      | none => none
    | _ => none
def pv_fieldA (ρ : Nat → Option AV) (k : Nat) (x : Od) : Option AV := match x.ev ρ with
    | some (.ptr b o) => some (.ptr b (o + k))
    | _ => none
def pv_field (ρ : Nat → Option AV) (agg : Option Nat) (off : Nat) (x : Od) : Option AV := match x.ev ρ with
    | some (.agg l) => partV agg off l
    | _ => none
def pv_idxS (ρ : Nat → Option AV) (s : Nat) (x : Od) (i : Od) : Option AV := match x.ev ρ with
    | some (.slice b o _ n c) => match i.ev ρ with
      | some (.int _ j) => if 0 ≤ j ∧ j < n ∧ 0 < c then some (.ptr b (o + j.toNat * s)) else none
      | _ => none
    | _ => none
def pv_idxA (ρ : Nat → Option AV) (ln : Nat) (s : Nat) (x : Od) (i : Od) : Option AV := match x.ev ρ with
    | some (.ptr b o) => match i.ev ρ with
      | some (.int _ j) => if 0 ≤ j ∧ j < ln then some (.ptr b (o + j.toNat * s)) else none
      | _ => none
    | _ => none
def pv_ixS (ρ : Nat → Option AV) (x : Od) (i : Od) : Option AV := match x.ev ρ with
    | some (.str ln n) => match i.ev ρ with
      | some (.int _ j) => if 0 ≤ j ∧ j < ln then some (.int .u8 (((n / 256 ^ j.toNat % 256 : Nat)) : Int)) else none
      | _ => none
    | _ => none
def pv_ixA (ρ : Nat → Option AV) (ln : Nat) (s : Nat) (g : Bool) (x : Od) (i : Od) : Option AV := match x.ev ρ with
    | some (.agg l) => match i.ev ρ with
      | some (.int _ j) => if 0 ≤ j ∧ j < ln then partV (if g then some s else none) (j.toNat * s) l else none
      | _ => none
    | _ => none
def pv_ext (ρ : Nat → Option AV) (i : Nat) (x : Od) : Option AV := match x.ev ρ with
    | some (.tup l) => l[i]?
    | _ => none
def pv_tass (ρ : Nat → Option AV) (t : Nat) (ok : Bool) (z : AV) (x : Od) : Option AV := match x.ev ρ with
    | some .inil => if ok then some (.tup [z, .bool false]) else none
    | some (.iface u v) => if u = t then some (if ok then .tup [v, .bool true] else v) else if ok then some (.tup [z, .bool false]) else none
    | _ => none
def pv_nilC (ρ : Nat → Option AV) (x : Od) : Option AV := match x.ev ρ with
    | some (.ptr b o) => some (.ptr b o)
    | some (.func f a c) => some (.func f a c)
    | _ => none
def pv_len (ρ : Nat → Option AV) (x : Od) : Option AV := match x.ev ρ with
    | some (.slice _ _ _ n _) => some (.int .i64 n)
    | some .snil => some (.int .i64 0)
    | _ => none
def pv_lenS (ρ : Nat → Option AV) (x : Od) : Option AV := match x.ev ρ with
    | some (.str l _) => some (.int .i64 l)
    | _ => none
def pv_build (ρ : Nat → Option AV) (z : List AV) (parts : List (Nat × Nat × Od)) : Option AV := match fillA ρ z parts with
    | some l => some (.agg l)
    | none => none
def pv_mm (ρ : Nat → Option AV) (mx : Bool) (x : Od) (y : Od) : Option AV := match x.ev ρ with
    | some (.int k a) => match y.ev ρ with
      | some (.int _ b) => some (.int k (if mx then (if b > a then b else a) else (if b < a then b else a)))
      | _ => none
    | _ => none
def pevF (ρ : Nat → Option AV) (x : PIR) : Option AV :=
  PIR.casesOn (motive := fun _ => Option AV) x (pv_mov ρ) (pv_pick ρ) (pv_bin ρ) (pv_eqk ρ) (pv_eqI ρ) (pv_not ρ) (pv_conv ρ) (pv_mkI ρ) (pv_mkF ρ) (pv_slice ρ) (pv_sliceS ρ) (pv_fieldA ρ) (pv_field ρ) (pv_idxS ρ) (pv_idxA ρ) (pv_ixS ρ) (pv_ixA ρ) (pv_ext ρ) (pv_tass ρ) (pv_nilC ρ) (pv_len ρ) (pv_lenS ρ) (pv_build ρ) (pv_mm ρ)
theorem pevF_eq (ρ : Nat → Option AV) (x : PIR) : pevF ρ x = x.ev ρ := by cases x <;> rfl
def once_p (g : Nat → Option AV) (H : AH) (x : PIR) : Option (AV × AH) := match pevF g x with
    | some v => some (v, H)
    | none => none
def once_load (g : Nat → Option AV) (H : AH) (n : Option Nat) (x : Od) : Option (AV × AH) := match x.ev g with
    | some (.ptr b o) => match loadA H b o n with
      | some v => some (v, H)
      | none => none
    | _ => none
def once_store (g : Nat → Option AV) (H : AH) (n : Nat) (x : Od) (v : Od) : Option (AV × AH) := match x.ev g with
    | some (.ptr b o) => match v.ev g with
      | some v => if v.cells.length = n then match storeA H b o v.cells with
          | some H' => some (.tup [], H')
          | none => none
        else none
      | none => none
    | _ => none
def once_new (_g : Nat → Option AV) (H : AH) (e : Nat) (l : List AV) : Option (AV × AH) := match newA H e l false 0 0 with
    | some (b, H') => some (.ptr b 0, H')
    | none => none
def once_box (g : Nat → Option AV) (H : AH) (e : Nat) (_u0 : Nat) (x : Od) : Option (AV × AH) := match x.ev g with
    | some v => match newA H e v.cells false 0 0 with
      | some (b, H') => some (.ptr b 0, H')
      | none => none
    | none => none
def once_row (g : Nat → Option AV) (H : AH) (e : Nat) (n : Nat) (z : List AV) (ps : List (Nat × Nat × Od)) : Option (AV × AH) := match fillA g z ps with
    | some l => match newA H e l false 0 0 with
      | some (b, H') => some (.slice b 0 0 n n, H')
      | none => none
    | none => none
def once_makeS (g : Nat → Option AV) (H : AH) (e : Nat) (s : Nat) (bytes : Nat) (z : List AV) (l : Od) (c : Od) : Option (AV × AH) := match l.ev g with
    | some (.int _ l) => match c.ev g with
      | some (.int _ c) => if 0 ≤ l ∧ l ≤ c ∧ c < 1000000 ∧ bytes < 1000000 ∧ s < 1000 then
          match newA H e (List.replicate c.toNat z).flatten false 0 0 with
          | some (b, H') => some (.slice b 0 0 l.toNat c.toNat, H')
          | none => none
        else none
      | _ => none
    | _ => none
def once_append (g : Nat → Option AV) (H : AH) (e : Nat) (s : Nat) (bytes : Nat) (x : Od) (y : Od) : Option (AV × AH) := match x.ev g with
    | some x => match y.ev g with
      | some y => appendA H e s bytes x y
      | none => none
    | none => none
def once_copy (g : Nat → Option AV) (H : AH) (size : Nat) (d : Od) (s : Od) : Option (AV × AH) := match s.ev g with
    | some x => match elemsOf H size x with
      | some (m, new) => match d.ev g with
        | some .snil => some (.int .i64 0, H)
        | some (.slice b o _ n c) => if c = 0 then none else match storeA H b o (new.take (min m n * size)) with
          | some H' => some (.int .i64 ((min m n : Nat) : Int), H')
          | none => none
        | _ => none
      | none => none
    | none => none
def once_makeM (g : Nat → Option AV) (H : AH) (a0 : Option Od) : Option (AV × AH) := match a0 with
  | none => if H.next < LIM then some (.map H.next, H.add (.map [])) else none
  | (some r) => match r.ev g with
    | some (.int _ _) => if H.next < LIM then some (.map H.next, H.add (.map [])) else none
    | _ => none
def once_lookup (g : Nat → Option AV) (H : AH) (kd : Nat) (z : AV) (ok : Bool) (m : Od) (k : Od) : Option (AV × AH) := match k.ev g with
    | some k => match m.ev g with
      | some .mnil => if keyOf kd k then some (if ok then .tup [z, .bool false] else z, H) else none
      | some (.map b) => match H.bl.get b with
        | some (.map l) => if cmpAll H kd k l && keyOf kd k then
            match findA H kd k l with
            | some v => some (if ok then .tup [v, .bool true] else v, H)
            | none => some (if ok then .tup [z, .bool false] else z, H)
          else none
        | _ => none
      | _ => none
    | none => none
def once_update (g : Nat → Option AV) (H : AH) (kd : Nat) (m : Od) (k : Od) (v : Od) : Option (AV × AH) := match k.ev g with
    | some k => match v.ev g with
      | some v => match m.ev g with
        | some (.map b) => match H.bl.get b with
          | some (.map l) => if cmpAll H kd k l && keyOf kd k && decide (b < LIM) then some (.tup [], H.put b (some (.map (updA H kd k v l)))) else none
          | _ => none
        | _ => none
      | none => none
    | none => none
def once_delete (g : Nat → Option AV) (H : AH) (kd : Nat) (m : Od) (k : Od) : Option (AV × AH) := match k.ev g with
    | some k => match m.ev g with
      | some .mnil => if keyOf kd k then some (.tup [], H) else none
      | some (.map b) => match H.bl.get b with
        | some (.map l) => if cmpAll H kd k l && keyOf kd k && decide (b < LIM) then some (.tup [], H.put b (some (.map (delA H kd k l)))) else none
        | _ => none
      | _ => none
    | none => none
def once_lenM (g : Nat → Option AV) (H : AH) (m : Od) : Option (AV × AH) := match m.ev g with
    | some .mnil => some (.int .i64 0, H)
    | some (.map b) => match H.bl.get b with
      | some (.map l) => some (.int .i64 (l.length : Int), H)
      | _ => none
    | _ => none
def once_cap (g : Nat → Option AV) (H : AH) (x : Od) : Option (AV × AH) := match x.ev g with
    | some .snil => some (.int .i64 0, H)
    | some (.slice b _ _ _ c) => match H.bl.get b with
      | some (.cells _ _ _ false _ _) => some (.int .i64 (c : Int), H)
      | _ => none
    | _ => none
def once_eqP (g : Nat → Option AV) (H : AH) (neg : Bool) (x : Od) (y : Od) : Option (AV × AH) := match x.ev g with
    | some (.ptr b o) => match y.ev g with
      | some (.ptr b' o') => match ptrEq H b o b' o' with
        | some r => some (.bool (if neg then !r else r), H)
        | none => none
      | some .pnil => some (.bool neg, H)
      | _ => none
    | some .pnil => match y.ev g with
      | some (.ptr _ _) => some (.bool neg, H)
      | some .pnil => some (.bool !neg, H)
      | _ => none
    | _ => none
def once_sliceA (g : Nat → Option AV) (H : AH) (n : Nat) (s : Nat) (x : Od) (lo : Option Od) (hi : Option Od) : Option (AV × AH) := match x.ev g with
    | some (.ptr b o) => match bnd g hi n n with
      | some h => match bnd g lo 0 h with
        | some l => match H.bl.get b with
          | some (.cells _ _ _ false _ _) => some (.slice b (o + l * s) o (h - l) (n - l), H)
          | _ => none
        | none => none
      | none => none
    | _ => none
def once_s2b (g : Nat → Option AV) (H : AH) (e : Nat) (x : Od) : Option (AV × AH) := match x.ev g with
    | some (.str l n) => if l < 1000000 then match newA H e (strVs n l) true 1 1 with
        | some (b, H') => some (.slice b 0 0 l l, H')
        | none => none
      else none
    | _ => none
def once_sdata (g : Nat → Option AV) (H : AH) (x : Od) : Option (AV × AH) := match x.ev g with
    | some .snil => some (.pnil, H)
    | some (.slice b o _ _ c) => if c = 0 then none else some (.ptr b o, H)
    | _ => none
def once_ustr (g : Nat → Option AV) (H : AH) (e : Nat) (x : Od) (n : Od) : Option (AV × AH) := match n.ev g with
    | some (.int .i64 n) => if 0 < n ∧ n < 1000000 then match x.ev g with
        | some (.ptr b o) => match H.bl.get b with
          | some (.cells nc t el f s z) => if el = e ∧ o + n.toNat ≤ nc ∧ b < LIM ∧ z = 0 then
              match getCells t o n.toNat with
              | some l => match bytesN l with
                | some k => some (.str n.toNat k, H.put b (some (.cells nc t el f s 2)))
                | none => none
              | none => none
            else none
          | _ => none
        | _ => none
      else none
    | _ => none
def once_rangeM (g : Nat → Option AV) (H : AH) (m : Od) : Option (AV × AH) := match m.ev g with
    | some .mnil => if H.next < LIM then some (.ptr H.next 0, H.add .iterN) else none
    | some (.map b) => match H.bl.get b with
      | some (.map l) => if H.next < LIM ∧ b < LIM then some (.ptr H.next 0, (H.put b (some (.mapL l))).add (.iter b l none)) else none
      | _ => none
    | _ => none
def once_nextM (g : Nat → Option AV) (H : AH) (x : Od) : Option (AV × AH) := match x.ev g with
    | some (.ptr b 0) => if waysA H b = 1 then nextA H b 0 else none
    | _ => none
def once_entryM (g : Nat → Option AV) (H : AH) (x : Od) : Option (AV × AH) := match x.ev g with
    | some (.ptr b 0) => match H.bl.get b with
      | some (.iter _ _ (some e)) => some (.tup [e.1, e.2], H)
      | _ => none
    | _ => none
def once_p2u (g : Nat → Option AV) (H : AH) (x : Od) : Option (AV × AH) := match x.ev g with
    | some (.ptr b o) => match H.bl.get b with
      | some (.cells n _ _ false _ _) => if o < n then some (.ptr b o, H) else none
      | _ => none
    | _ => none
def once_u2p (g : Nat → Option AV) (H : AH) (u : Nat) (n : Nat) (x : Od) : Option (AV × AH) := match x.ev g with
    | some (.ptr b 0) => match H.bl.get b with
      | some (.cells nc _ el false _ _) => if el = u ∧ nc = n then some (.ptr b 0, H) else none
      | _ => none
    | _ => none
def once_extF (g : Nat → Option AV) (H : AH) (k : Nat) (args : List Od) : Option (AV × AH) := match k, evs g args with
    | 0, some [.str l n, .int .u8 c] => if c.toNat < 256 then some (.int .i64 (match idxByte c.toNat l n 0 with | some i => (i : Int) | none => -1), H) else none
    | 1, some [.str l n, .int .u8 c] => if c.toNat < 256 then some (.int .i64 (cntByte c.toNat l n : Int), H) else none
    | 2, some [x] => some (x, H)
    | _, _ => none
def onceF (g : Nat → Option AV) (H : AH) (x : IR) : Option (AV × AH) :=
  IR.casesOn (motive := fun _ => Option (AV × AH)) x (once_p g H) (once_load g H) (once_store g H) (once_new g H) (once_box g H) (once_row g H) (once_makeS g H) (once_append g H) (once_copy g H) (once_makeM g H) (once_lookup g H) (once_update g H) (once_delete g H) (once_lenM g H) (once_cap g H) (once_eqP g H) (once_sliceA g H) (once_s2b g H) (once_sdata g H) (once_ustr g H) (once_rangeM g H) (once_nextM g H) (once_entryM g H) (once_p2u g H) (once_u2p g H) (once_extF g H) (fun _ _ => none) (fun _ _ => none) (fun _ _ _ => none) (fun _ _ => none) (fun _ => none) (none) (none)
theorem onceF_eq (g : Nat → Option AV) (H : AH) (x : IR) : onceF g H x = onceIR g H x := by
  cases x
  case p x => show once_p g H x = _; simp only [once_p, pevF_eq]; rfl
  case makeM r => cases r <;> rfl
  all_goals rfl
end
end Ex
end Go.Proofs.YtfehlbepjmmkeaaGreatDoor
