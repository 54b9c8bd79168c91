/-
  DERIVED. An abstract machine, and that its runs are runs of the model: part 1 of 11. No condition.
-/
import Derived.Test.YtfehlbepjmmkeaaGreatDoorA0
import Derived.Orders
import Derived.Recover
import Derived.Below
import Derived.Laws.Strings
import Derived.Laws.Small
import Derived.Laws.Entries
import Derived.Laws.Build
import Derived.Laws.Cover3
import Derived.WalkSpells
namespace Go.Proofs.YtfehlbepjmmkeaaGreatDoor
set_option linter.unusedSimpArgs false
set_option linter.unusedVariables false
section
namespace Ex
inductive AV where
 |bool (b:Bool)
 |int (k:IntKind)(n:Int)
 |str (len n:Nat)
 |ptr (b o:Nat)
 |aqh
 |slice (b o d n c:Nat)
 |acB
 |map (b:Nat)
 |aqk
 |func (f:Nat)(first cap:List AV)
 |aAI
 |iface (t:Nat)(v:AV)
 |arD
 |agg (l:List AV)
 |tup (l:List AV)
 |yld (l:Nat)
 deriving Inhabited
mutual
def aj3:AV→AV→Bool
 | .bool a,.bool b=>a==b
 | .int k a,.int l b=>k==l&&a==b
 | .str l n,.str l' n'=>l==l'&&n==n'
 | .ptr b o,.ptr b' o'=>b==b'&&o==o'
 | .aqh,.aqh=>true
 | .slice b o d n c,.slice b' o' d' n' c'=>b==b'&&o==o'&&d==d'&&n==n'&&c==c'
 | .acB,.acB=>true
 | .map b,.map b'=>b==b'
 | .aqk,.aqk=>true
 | .func f a c,.func f' a' c'=>f==f'&&as3 a a'&&as3 c c'
 | .aAI,.aAI=>true
 | .iface t v,.iface t' v'=>t==t'&&aj3 v v'
 | .arD,.arD=>true
 | .agg l,.agg l'=>as3 l l'
 | .tup l,.tup l'=>as3 l l'
 | .yld l,.yld l'=>l==l'
 |_,_=>false
def as3:List AV→List AV→Bool
 | [],[]=>true
 |v::l,v'::l'=>aj3 v v'&&as3 l l'
 |_,_=>false
end
mutual
theorem amd:∀{x y:AV},aj3 x y=true→x=y
 | .bool a,y,h=>by cases y<;>simp_all[aj3]
 | .int k a,y,h=>by cases y<;>simp_all[aj3]
 | .str l n,y,h=>by cases y<;>simp_all[aj3]
 | .ptr b o,y,h=>by cases y<;>simp_all[aj3]
 | .aqh,y,h=>by cases y<;>simp_all[aj3]
 | .slice b o d n c,y,h=>by cases y<;>simp_all[aj3]
 | .acB,y,h=>by cases y<;>simp_all[aj3]
 | .map b,y,h=>by cases y<;>simp_all[aj3]
 | .aqk,y,h=>by cases y<;>simp_all[aj3]
 | .func f a c,y,h=>by
   cases y with
   |func f' a' c'=>
    simp only[aj3,aa6,beq_iff_eq]at h
    rw[h.1.1,as5 h.1.2,as5 h.2]
   |_=>simp[aj3]at h
 | .aAI,y,h=>by cases y<;>simp_all[aj3]
 | .iface t v,y,h=>by
   cases y with
   |iface t' v'=>
    simp only[aj3,aa6,beq_iff_eq]at h
    rw[h.1,amd h.2]
   |_=>simp[aj3]at h
 | .arD,y,h=>by cases y<;>simp_all[aj3]
 | .agg l,y,h=>by
   cases y with
   |agg l'=>simp only[aj3]at h;rw[as5 h]
   |_=>simp[aj3]at h
 | .tup l,y,h=>by
   cases y with
   |tup l'=>simp only[aj3]at h;rw[as5 h]
   |_=>simp[aj3]at h
 | .yld l,y,h=>by cases y<;>simp_all[aj3]
theorem as5:∀{l m:List AV},as3 l m=true→l=m
 | [],m,h=>by cases m<;>simp_all[as3]
 |v::l,m,h=>by
  cases m with
  |nil=>simp[as3]at h
  |cons v' m=>
   simp only[as3,aa6]at h
   rw[amd h.1,as5 h.2]
end
mutual
theorem aAJ:∀x:AV,aj3 x x=true
 | .bool _| .int _ _| .str _ _| .ptr _ _| .aqh| .slice _ _ _ _ _| .acB| .map _| .aqk| .aAI| .arD| .yld _=>by simp[aj3]
 | .func f a c=>by simp[aj3,apZ a,apZ c]
 | .iface t v=>by simp[aj3,aAJ v]
 | .agg l=>by simp[aj3,apZ l]
 | .tup l=>by simp[aj3,apZ l]
theorem apZ:∀l:List AV,as3 l l=true
 | []=>rfl
 |v::l=>by simp[as3,aAJ v,apZ l]
end
instance:DecidableEq AV:=fun x y=>match h:aj3 x y with
 |true=>isTrue (amd h)
 |false=>isFalse fun e=>by rw[e,aAJ]at h;cases h
structure Loc where
 blk:Nat
 base:Nat
 ext:Nat
 deriving Inhabited
def ai8 (n:Nat):Nat→List UInt8
 |0=>[]
 |l+1=>UInt8.ofNat (n%256)::ai8 (n / 256) l
def aj9 (len n:Nat):ByteArray:=⟨(ai8 n len).toArray⟩
mutual
def abe (φ:Nat→Loc):AV→Value
 | .bool b=> .bool b
 | .int k n=> .int k n
 | .str l n=> .string (aj9 l n)
 | .ptr b o=> .pointer (some ⟨(φ b).blk,(φ b).base+o,none⟩)
 | .aqh=> .pointer none
 | .slice b o d n c=> .slice (some ⟨(φ b).blk,(φ b).base+(if c+(φ b).ext=0 then d else o),none⟩) n (c+(φ b).ext)
 | .acB=> .slice none 0 0
 | .map b=> .map (some (φ b).blk)
 | .aqk=> .map none
 | .func f a c=> .func (.func f) (ab2 φ a).toArray (ab2 φ c).toArray
 | .aAI=> .nilFunc
 | .iface t v=> .iface t (abe φ v)
 | .arD=> .nilIface
 | .agg l=> .agg (ab2 φ l).toArray
 | .tup l=> .tuple (ab2 φ l).toArray
 | .yld l=> .func (.yield (φ l).blk) #[] #[]
def ab2 (φ:Nat→Loc):List AV→List Value
 | []=>[]
 |v::l=>abe φ v::ab2 φ l
end
mutual
def sc (dm:Nat→Prop):AV→Prop
 | .ptr b _=>dm b
 | .slice b _ _ _ _=>dm b
 | .map b=>dm b
 | .yld b=>dm b
 | .func _ a c=>scL dm a∧scL dm c
 | .iface _ v=>sc dm v
 | .agg l=>scL dm l
 | .tup l=>scL dm l
 |_=>True
def scL (dm:Nat→Prop):List AV→Prop
 | []=>True
 |v::l=>sc dm v∧scL dm l
end
theorem anl (φ:Nat→Loc)(l:List AV):ab2 φ l=l.map (abe φ):=by
 induction l with
 |nil=>rfl
 |cons v l ih=>simp[ab2,ih]
theorem agH (dm:Nat→Prop)(l:List AV):scL dm l↔∀v∈l,sc dm v:=by
 induction l with
 |nil=>simp[scL]
 |cons v l ih=>simp[scL,ih]
mutual
theorem ajD {dm dm':Nat→Prop}(h:∀b,dm b→dm' b):∀v:AV,sc dm v→sc dm' v
 | .bool _,_| .int _ _,_| .str _ _,_| .aqh,_| .acB,_| .aqk,_| .aAI,_| .arD,_=>by simp[sc]
 | .ptr _ _,hv| .slice _ _ _ _ _,hv| .map _,hv| .yld _,hv=>by simp only[sc]at hv ⊢;exact h _ hv
 | .func _ a c,hv=>by simp only[sc]at hv ⊢;exact⟨ao2 h a hv.1,ao2 h c hv.2⟩
 | .iface _ v,hv=>by simp only[sc]at hv ⊢;exact ajD h v hv
 | .agg l,hv=>by simp only[sc]at hv ⊢;exact ao2 h l hv
 | .tup l,hv=>by simp only[sc]at hv ⊢;exact ao2 h l hv
theorem ao2 {dm dm':Nat→Prop}(h:∀b,dm b→dm' b):∀l:List AV,scL dm l→scL dm' l
 | [],_=>trivial
 |v::l,hv=>⟨ajD h v hv.1,ao2 h l hv.2⟩
end
mutual
theorem ahS {φ φ':Nat→Loc}{dm:Nat→Prop}(h:∀b,dm b→φ' b=φ b):∀v:AV,sc dm v→abe φ' v=abe φ v
 | .bool _,_| .int _ _,_| .str _ _,_| .aqh,_| .acB,_| .aqk,_| .aAI,_| .arD,_=>by simp[abe]
 | .ptr _ _,hv| .slice _ _ _ _ _,hv| .map _,hv| .yld _,hv=>by simp only[sc]at hv;simp[abe,h _ hv]
 | .func _ a c,hv=>by simp only[sc]at hv;simp[abe,anr h a hv.1,anr h c hv.2]
 | .iface _ v,hv=>by simp only[sc]at hv;simp[abe,ahS h v hv]
 | .agg l,hv=>by simp only[sc]at hv;simp[abe,anr h l hv]
 | .tup l,hv=>by simp only[sc]at hv;simp[abe,anr h l hv]
theorem anr {φ φ':Nat→Loc}{dm:Nat→Prop}(h:∀b,dm b→φ' b=φ b):∀l:List AV,scL dm l→ab2 φ' l=ab2 φ l
 | [],_=>rfl
 |v::l,hv=>by simp only[scL]at hv;simp[ab2,ahS h v hv.1,anr h l hv.2]
end
inductive T (α:Type) where
 |E
 |N (v:Option α)(l r:T α)
 deriving Inhabited
namespace T
variable {α:Type}
noncomputable def get (t:T α)(k:Nat):Option α:=
 T.rec (motive:=fun _=>Nat→Option α) (fun _=>none)
  (fun v _ _ gl gr k=>Bool.rec (Bool.rec (gr (Nat.sub (Nat.div k 2) 1)) (gl (Nat.div k 2)) (Nat.beq (Nat.mod k 2) 1)) v (Nat.beq k 0)) t k
noncomputable def set (x:Option α)(f:Nat)(t:T α)(k:Nat):T α:=
 Nat.rec (motive:=fun _=>T α→Nat→T α) (fun _ _=> .E)
  (fun _ ih t k=>T.rec (motive:=fun _=>T α)
    (Bool.rec (Bool.rec (.N none .E (ih .E (Nat.sub (Nat.div k 2) 1))) (.N none (ih .E (Nat.div k 2)) .E) (Nat.beq (Nat.mod k 2) 1)) (.N x .E .E) (Nat.beq k 0))
    (fun v l r _ _=>Bool.rec (Bool.rec (.N v l (ih r (Nat.sub (Nat.div k 2) 1))) (.N v (ih l (Nat.div k 2)) r) (Nat.beq (Nat.mod k 2) 1)) (.N x l r) (Nat.beq k 0)) t) f t k
theorem aAL {β:Type}(a b:Nat)(x y:β):(Bool.rec x y (Nat.beq a b):β)=if a=b then y else x:=by
 by_cases h:a=b
 ·subst h;rw[Nat.beq_refl];simp
 ·have:Nat.beq a b=false:=by
   cases hb:Nat.beq a b with
   |false=>rfl
   |true=>exact absurd (acF hb) h
  rw[this,if_neg h]
theorem akl (k:Nat):(T.E:T α).get k=none:=rfl
theorem aqs (v:Option α)(l r:T α)(k:Nat):
 (T.N v l r).get k=if k=0 then v else if k%2=1 then l.get (k / 2) else r.get (k / 2 - 1):=by
 show(Bool.rec (Bool.rec (r.get (k / 2 - 1)) (l.get (k / 2)) (Nat.beq (k%2) 1)) v (Nat.beq k 0):Option α)=_
 rw[aAL,aAL]
theorem bDO (x:Option α)(f k:Nat):
 set x (f+1) .E k=if k=0 then .N x .E .E else if k%2=1 then .N none (set x f .E (k / 2)) .E else .N none .E (set x f .E (k / 2 - 1)):=by
 show(Bool.rec (Bool.rec (.N none .E (set x f .E (k / 2 - 1))) (.N none (set x f .E (k / 2)) .E) (Nat.beq (k%2) 1)) (.N x .E .E) (Nat.beq k 0):T α)=_
 rw[aAL,aAL]
theorem bDR (x v:Option α)(l r:T α)(f k:Nat):
 set x (f+1) (.N v l r) k=if k=0 then .N x l r else if k%2=1 then .N v (set x f l (k / 2)) r else .N v l (set x f r (k / 2 - 1)):=by
 show(Bool.rec (Bool.rec (.N v l (set x f r (k / 2 - 1))) (.N v (set x f l (k / 2)) r) (Nat.beq (k%2) 1)) (.N x l r) (Nat.beq k 0):T α)=_
 rw[aAL,aAL]
attribute [irreducible] get set
theorem aMZ (x:Option α):∀(f:Nat)(t:T α)(k j:Nat),k+1<2^f→(set x f t k).get j=if j=k then x else t.get j:=by
 intro f
 induction f with
 |zero=>intro t k j h;simp at h
 |succ f ih=>
  intro t k j h
  have h2:2^(f+1)=2*2^f:=by rw[amX];omega
  have hodd:k%2=1→k / 2+1<2^f∨k / 2+1≤2^f:=fun _=> .inr (by omega)
  cases t with
  |E=>
   rw[bDO]
   by_cases hk:k=0
   ·subst hk;rw[if_pos rfl,aqs];by_cases hj:j=0
    ·simp[hj]
    ·simp[hj,akl]
   ·rw[if_neg hk]
    by_cases h1:k%2=1
    ·rw[if_pos h1,aqs]
     by_cases hj:j=0
     ·subst hj;simp[akl];omega
     ·rw[if_neg hj]
      by_cases hj1:j%2=1
      ·rw[if_pos hj1,ih _ _ _ (by omega),akl,akl]
       by_cases he:j=k
       ·subst he;simp
       ·rw[if_neg he,if_neg (by omega)]
      ·rw[if_neg hj1,akl,akl,if_neg (by rintro rfl;exact hj1 h1)]
    ·rw[if_neg h1,aqs]
     by_cases hj:j=0
     ·subst hj;simp[akl];omega
     ·rw[if_neg hj]
      by_cases hj1:j%2=1
      ·rw[if_pos hj1,akl,akl,if_neg (by rintro rfl;exact h1 hj1)]
      ·rw[if_neg hj1,ih _ _ _ (by omega),akl,akl]
       by_cases he:j=k
       ·subst he;simp
       ·rw[if_neg he,if_neg (by omega)]
  |N v l r=>
   rw[bDR]
   by_cases hk:k=0
   ·subst hk;rw[if_pos rfl,aqs,aqs];by_cases hj:j=0
    ·simp[hj]
    ·simp[hj]
   ·rw[if_neg hk]
    by_cases h1:k%2=1
    ·rw[if_pos h1,aqs,aqs]
     by_cases hj:j=0
     ·subst hj;simp;omega
     ·rw[if_neg hj,if_neg hj]
      by_cases hj1:j%2=1
      ·rw[if_pos hj1,if_pos hj1,ih _ _ _ (by omega)]
       by_cases he:j=k
       ·subst he;simp
       ·rw[if_neg he,if_neg (by omega)]
      ·rw[if_neg hj1,if_neg hj1,if_neg (by rintro rfl;exact hj1 h1)]
    ·rw[if_neg h1,aqs,aqs]
     by_cases hj:j=0
     ·subst hj;simp;omega
     ·rw[if_neg hj,if_neg hj]
      by_cases hj1:j%2=1
      ·rw[if_pos hj1,if_pos hj1,if_neg (by rintro rfl;exact h1 hj1)]
      ·rw[if_neg hj1,if_neg hj1,ih _ _ _ (by omega)]
       by_cases he:j=k
       ·subst he;simp
       ·rw[if_neg he,if_neg (by omega)]
end T
end Ex
end
section
namespace Ex
theorem alY:∀(l n:Nat),(ai8 n l).length=l
 |0,_=>rfl
 |l+1,n=>by simp[ai8,alY l]
theorem bDS (a b:Nat):UInt8.ofNat (a%256)=UInt8.ofNat (b%256)↔a%256=b%256:=by
 constructor
 ·intro h
  have:=congrArg UInt8.toNat h
  simpa using this
 ·intro h;rw[h]
theorem aIR (a b l:Nat):a%256^(l+1)=b%256^(l+1)↔a%256=b%256∧a / 256%256^l=b / 256%256^l:=by
 have key:∀n:Nat,n%256^(l+1)=n%256+256*(n / 256%256^l):=by
  intro n
  rw[amX,Nat.mul_comm,Nat.mod_mul]
 rw[key a,key b]
 have h1:=akS a (show 256>0 by omega)
 have h2:=akS b (show 256>0 by omega)
 omega
theorem aNr:∀(l a b:Nat),ai8 a l=ai8 b l↔a%256^l=b%256^l
 |0,a,b=>by simp[ai8,anY]
 |l+1,a,b=>by rw[aIR];simp only[ai8,akC,bDS,aNr l]
theorem aCg:∀(la a b lb:Nat),ai8 (a%256^la+b*256^la) (la+lb)=ai8 a la++ai8 b lb
 |0,a,b,lb=>by simp[ai8,anY]
 |la+1,a,b,lb=>by
  have hk:a%256^(la+1)=a%256+256*(a / 256%256^la):=by rw[amX,Nat.mul_comm (256^la),Nat.mod_mul]
  have hp:b*256^(la+1)=256*(b*256^la):=by rw[amX];simp[Nat.mul_comm,Nat.mul_left_comm]
  have e:a%256^(la+1)+b*256^(la+1)=a%256+256*(a / 256%256^la+b*256^la):=by rw[hk,hp];omega
  rw[show la+1+lb=(la+lb)+1 by omega,e]
  have h1:=akS a (show 256>0 by omega)
  simp only[ai8,acJ,akC]
  refine⟨?_,?_⟩
  ·rw[show(a%256+256*(a / 256%256^la+b*256^la))%256=a%256 by omega]
  ·rw[show(a%256+256*(a / 256%256^la+b*256^la)) / 256=a / 256%256^la+b*256^la by omega]
   exact aCg la (a / 256) b lb
theorem aKy:∀(k n l:Nat),ai8 (n / 256^k) (l - k)=(ai8 n l).drop k
 |0,n,l=>by simp
 |k+1,n,0=>by simp[ai8]
 |k+1,n,l+1=>by
  simp only[ai8,afY]
  rw[←aKy k (n / 256) l,Nat.div_div_eq_div_mul,amX,Nat.mul_comm (256^k),Nat.add_sub_add_right]
theorem aAO:∀(k n l:Nat),k≤l→ai8 n k=(ai8 n l).take k
 |0,n,l,_=>by simp[ai8]
 |k+1,n,0,h=>by omega
 |k+1,n,l+1,h=>by simp only[ai8,ac6];rw[aAO k _ l (by omega)]
theorem aRr:∀(i n l:Nat),i<l→(ai8 n l)[i]? =some (UInt8.ofNat (n / 256^i%256))
 |0,n,l+1,_=>by simp[ai8]
 |i+1,n,l+1,h=>by
  simp only[ai8,ad6]
  rw[aRr i _ l (by omega),Nat.div_div_eq_div_mul,amX,Nat.mul_comm]
 |i,n,0,h=>by omega
theorem aob (l n:Nat):(aj9 l n).size=l:=by
 show(ai8 n l).toArray.size=l
 simp[alY]
theorem aCi (l n:Nat):(aj9 l n).toList=ai8 n l:=ByteArray.toList_mk _
theorem a6i (l n i:Nat)(h:i<l):(aj9 l n)[i]? =some (UInt8.ofNat (n / 256^i%256)):=by
 have h1:=aRr i n l h
 have hs:i<(aj9 l n).size:=by rw[aob];exact h
 rw[getElem?_pos (aj9 l n) i hs]
 congr 1
 show(ai8 n l).toArray[i]'(by simpa[alY]using h)=_
 have:(ai8 n l)[i]'(by rw[alY];exact h)=UInt8.ofNat (n / 256^i%256):=by
  have h2:(ai8 n l)[i]? =some ((ai8 n l)[i]'(by rw[alY];exact h)):=aaw _
  rw[h1]at h2
  injection h2 with h2
  exact h2.symm
 simpa using this
def strEq (la a lb b:Nat):Bool:=Nat.beq la lb&&Nat.beq (a%256^la) (b%256^la)
theorem aAP (la a lb b:Nat):strEq la a lb b=true↔aj9 la a=aj9 lb b:=by
 unfold strEq
 have hb:∀x y:Nat,Nat.beq x y=true↔x=y:=fun x y=>⟨acF,fun h=>by subst h;exact Nat.beq_refl _⟩
 simp only[aa6,hb,aj9]
 constructor
 ·rintro⟨rfl,h⟩
  rw[(aNr _ _ _).2 h]
 ·intro h
  have h1:ai8 a la=ai8 b lb:=by
   have:=congrArg (fun s:ByteArray=>s.data.toList) h
   simpa using this
  have h2:la=lb:=by have:=congrArg List.length h1;simpa[alY]using this
  subst h2
  exact⟨rfl,(aNr _ _ _).1 h1⟩
theorem aVZ (la a lb b:Nat):((aj9 la a).toList==(aj9 lb b).toList)=strEq la a lb b:=by
 rw[aCi,aCi,ace,aAP,beq_iff_eq]
 constructor
 ·intro h;unfold aj9;rw[h]
 ·intro h
  have:=congrArg (fun s:ByteArray=>s.data.toList) h
  simpa[aj9]using this
theorem aRt (la a lb b:Nat):aj9 la a++aj9 lb b=aj9 (la+lb) (a%256^la+b*256^la):=by
 have:(aj9 la a++aj9 lb b).data.toList=(aj9 (la+lb) (a%256^la+b*256^la)).data.toList:=by
  show(ByteArray.append _ _).data.toList=_
  simp[aj9,aCg]
 have h2:=ac4.1 this
 cases h:aj9 la a++aj9 lb b
 rw[h]at h2
 simp only at h2
 rw[h2]
theorem axQ (l n lo hi:Nat)(h1:lo≤hi)(h2:hi≤l):(aj9 l n).extract lo hi=aj9 (hi - lo) (n / 256^lo):=by
 have:((aj9 l n).extract lo hi).data.toList=(aj9 (hi - lo) (n / 256^lo)).data.toList:=by
  rw[ByteArray.data_extract]
  simp only[aj9,List.extract_toArray]
  rw[aKy lo n hi,aAO hi n l h2]
  simp[List.extract_eq_take_drop,List.drop_take]
 have h3:=ac4.1 this
 cases h:(aj9 l n).extract lo hi
 rw[h]at h3
 simp only at h3
 rw[h3]
def aRu:List UInt8→Nat
 | []=>0
 |b::l=>b.toNat+256*aRu l
theorem aKz:∀l:List UInt8,ai8 (aRu l) l.length=l
 | []=>rfl
 |b::l=>by
  have h:=b.toNat_lt
  simp only[aRu,abJ,ai8]
  rw[show(b.toNat+256*aRu l)%256=b.toNat by omega,show(b.toNat+256*aRu l) / 256=aRu l by omega,aKz l]
  simp
theorem a07 (s:ByteArray):aj9 s.data.toList.length (aRu s.data.toList)=s:=by
 unfold aj9
 rw[aKz]
end Ex
end
section
open Go.RowKit
namespace Ex
noncomputable section
def a6o:Value→Option AV
 | .bool b=>some (.bool b)
 | .int k n=>some (.int k n)
 | .string s=>some (.str s.data.toList.length (aRu s.data.toList))
 | .pointer none=>some .aqh
 | .slice none 0 0=>some .acB
 | .map none=>some .aqk
 | .nilFunc=>some .aAI
 | .nilIface=>some .arD
 |_=>none
def AV.one:AV→Bool
 | .agg _| .tup _=>false
 |_=>true
theorem aRy (φ:Nat→Loc)(v:AV)(h:v.one=true):(abe φ v).oneCell'=true:=by cases v<;>first|rfl|simp[AV.one]at h
theorem aAR {v:Value}{x:AV}(h:a6o v=some x)(φ:Nat→Loc)(dm:Nat→Prop):abe φ x=v∧sc dm x∧x.one=true:=by
 unfold a6o at h
 split at h<;>first|(injection h with h;subst h;refine⟨?_,?_,rfl⟩<;>simp[abe,sc,a07,-Array.length_toList])|cases h
def a08:List Value→Option (List AV)
 | []=>some []
 |v::l=>match a6o v,a08 l with
  |some x,some y=>some (x::y)
  |_,_=>none
theorem auI:∀{l:List Value}{x:List AV},a08 l=some x→∀(φ:Nat→Loc)(dm:Nat→Prop),ab2 φ x=l∧scL dm x∧∀v∈x,v.one=true
 | [],x,h,φ,dm=>by injection h with h;subst h;exact⟨rfl,trivial,by simp⟩
 |v::l,x,h,φ,dm=>by
  unfold a08 at h
  split at h
  ·rename_i y z h1 h2
   injection h with h
   subst h
   obtain⟨a1,a2,a3⟩:=aAR h1 φ dm
   obtain⟨b1,b2,b3⟩:=auI h2 φ dm
   exact⟨by simp[ab2,a1,b1],⟨a2,b2⟩,by simp[a3];exact b3⟩
  ·cases h
def zeroOf (P:Program)(t:TypeId):Option (List AV):=
 match P.info? t with
 |some i=>match i.zero with
  |some z=>a08 z.cells.toList
  |none=>none
 |none=>none
theorem ant {P:Program}{t:TypeId}{l:List AV}(h:zeroOf P t=some l):
 ∃i z,P.info? t=some i∧i.zero=some z∧∀(φ:Nat→Loc)(dm:Nat→Prop),(ab2 φ l).toArray=z.cells∧scL dm l∧∀v∈l,v.one=true:=by
 unfold zeroOf at h
 split at h
 ·rename_i i hi
  split at h
  ·rename_i z hz
   refine⟨i,z,hi,hz,fun φ dm=>?_⟩
   obtain⟨h1,h2,h3⟩:=auI h φ dm
   exact⟨by rw[h1],h2,h3⟩
  ·cases h
 ·cases h
inductive Od where
 |t (n:Nat)
 |c (v:AV)
 deriving Inhabited,DecidableEq
def Od.ev (ρ:Nat→Option AV):Od→Option AV
 | .t n=>ρ n
 | .c v=>some v
abbrev a5t:Nat:=64
def adC:Operand→Option Od
 | .tmp t=>some (.t t)
 | .const (.agg cs)=>(a08 cs.toList).map fun l=> .c (.agg l)
 | .const v=>(a6o v).map .c
 | .func f=>some (.c (.func f [] []))
 | .global g=>if g<a5t then some (.c (.ptr g 0)) else none
def ajY:List Operand→Option (List Od)
 | []=>some []
 |x::l=>match adC x,ajY l with
  |some y,some z=>some (y::z)
  |_,_=>none
def evs (ρ:Nat→Option AV):List Od→Option (List AV)
 | []=>some []
 |x::l=>match x.ev ρ with
  |some v=>match evs ρ l with
   |some r=>some (v::r)
   |none=>none
  |none=>none
structure RR (φ:Nat→Loc)(dm:Nat→Prop)(ρ:Nat→Option AV)(a:Act):Prop where
 reg:∀t v,ρ t=some v→sc dm v∧a.tmps.getD t undef=abe φ v
 glob:∀g,g<a5t→dm g∧φ g=⟨g,0,0⟩
section
variable {φ:Nat→Loc}{dm:Nat→Prop}{ρ:Nat→Option AV}{a:Act}
theorem abU (R:RR φ dm ρ a){x:Operand}{d:Od}{v:AV}(h:adC x=some d)(hv:d.ev ρ=some v):a.eval x=abe φ v∧sc dm v:=by
 cases x with
 |tmp t=>
  injection h with h
  subst h
  exact⟨(R.reg t v hv).2,(R.reg t v hv).1⟩
 |const c=>
  unfold adC at h
  split at h
  ·rename_i heq;cases heq
  ·rename_i cs heq
   injection heq with heq
   subst heq
   simp only[ac1]at h
   obtain⟨y,hy,rfl⟩:=h
   injection hv with hv
   subst hv
   obtain⟨h1,h2,_⟩:=auI hy φ dm
   exact⟨by simp[Act.eval,abe,h1],h2⟩
  ·rename_i heq
   injection heq with heq
   subst heq
   simp only[ac1]at h
   obtain⟨y,hy,rfl⟩:=h
   injection hv with hv
   subst hv
   obtain⟨h1,h2,_⟩:=aAR hy φ dm
   exact⟨h1.symm,h2⟩
  ·rename_i heq;cases heq
  ·rename_i heq;cases heq
 |func f=>
  injection h with h
  subst h
  injection hv with hv
  subst hv
  exact⟨by simp[Act.eval,abe,ab2],by simp[sc,scL]⟩
 |global g=>
  rw[show adC (.global g)=if g<a5t then some (.c (.ptr g 0)) else none from rfl]at h
  split at h
  ·rename_i hg
   injection h with h
   subst h
   injection hv with hv
   subst hv
   obtain⟨h1,h2⟩:=R.glob g hg
   exact⟨by simp[Act.eval,abe,h2],h1⟩
  ·contradiction
theorem aq6 (R:RR φ dm ρ a):∀{l:List Operand}{d:List Od}{v:List AV},ajY l=some d→evs ρ d=some v→l.map a.eval=ab2 φ v∧scL dm v
 | [],d,v,h,hv=>by
   injection h with h;subst h
   injection hv with hv;subst hv
   exact⟨rfl,trivial⟩
 |x::l,d,v,h,hv=>by
  unfold ajY at h
  split at h
  ·rename_i y z h1 h2
   injection h with h;subst h
   unfold evs at hv
   split at hv
   ·rename_i u hu
    split at hv
    ·rename_i r hr
     injection hv with hv;subst hv
     obtain⟨a1,a2⟩:=abU R h1 hu
     obtain⟨b1,b2⟩:=aq6 R h2 hr
     exact⟨by simp[ab2,a1,b1],⟨a2,b2⟩⟩
    ·cases hv
   ·cases hv
  ·cases h
end
def avD (k:IntKind)(a:Int):Nat:=(a%((2^k.bits:Nat):Int)).toNat
def bcK (op:BinOp)(x y:AV):Option AV:=
 match x,y with
 | .int k a,.int k' b=>
   match op with
   | .shl=>if b<0 then none else some (.int k (k.wrap (a*2^(min b.toNat k.bits))))
   | .shr=>if b<0 then none else some (.int k (a.fdiv (2^(min b.toNat k.bits))))
   | .add=>if k=k' then some (.int k (k.wrap (a+b))) else none
   | .sub=>if k=k' then some (.int k (k.wrap (a - b))) else none
   | .mul=>if k=k' then some (.int k (k.wrap (a*b))) else none
   | .quo=>if k=k'∧b≠0 then some (.int k (k.wrap (a.tdiv b))) else none
   | .rem=>if k=k'∧b≠0 then some (.int k (a.tmod b)) else none
   | .eql=>if k=k' then some (.bool (a==b)) else none
   | .neq=>if k=k' then some (.bool (a !=b)) else none
   | .lss=>if k=k' then some (.bool (a<b)) else none
   | .leq=>if k=k' then some (.bool (a≤b)) else none
   | .gtr=>if k=k' then some (.bool (a>b)) else none
   | .geq=>if k=k' then some (.bool (a≥b)) else none
   | .and=>if k=k' then some (.int k (k.wrap (Nat.land (avD k a) (avD k b):Nat))) else none
   | .or=>if k=k' then some (.int k (k.wrap (Nat.lor (avD k a) (avD k b):Nat))) else none
   | .xor=>if k=k' then some (.int k (k.wrap (Nat.xor (avD k a) (avD k b):Nat))) else none
   | .andNot=>if k=k' then some (.int k (k.wrap (Nat.land (avD k a) (2^k.bits - 1 - avD k b):Nat))) else none
 | .str l n,.str l' n'=>
   match op with
   | .eql=>some (.bool (strEq l n l' n'))
   | .neq=>some (.bool (!strEq l n l' n'))
   | .add=>if l+l'<1000000 then some (.str (l+l') (n%256^l+n'*256^l)) else none
   |_=>none
 |_,_=>none
theorem toNat_ofInt (k:IntKind)(a:Int):(BitVec.ofInt k.bits a).toNat=avD k a:=by
 simp[avD,BitVec.toNat_ofInt]
theorem a09 {P:Program}{op:BinOp}{t:TypeId}{x y v:AV}{X Y:Operand}(h:bcK op x y=some v)(φ:Nat→Loc)(dm:Nat→Prop)(w:World):
 (eqGuard op t X Y (abe φ x) (abe φ y)).run P w= .ok () w∧(binOp op t (abe φ x) (abe φ y)).run P w= .ok (abe φ v) w∧sc dm v:=by
 unfold bcK at h
 split at h
 ·rename_i k a k' b
  split at h
  ·split at h
   ·contradiction
   ·rename_i hb
    injection h with h
    subst h
    refine⟨by simp[eqGuard],?_,by simp[sc]⟩
    simp[abe,binOp,Op.shift,hb]
  ·split at h
   ·contradiction
   ·rename_i hb
    injection h with h
    subst h
    refine⟨by simp[eqGuard],?_,by simp[sc]⟩
    simp[abe,binOp,Op.shift,hb]
  all_goals
   split at h
   case isFalse=>contradiction
   case isTrue=>
    rename_i hk
    injection h with h
    subst h
    first
     |(obtain⟨rfl,hb⟩:=hk
       refine⟨by simp[abe,eqGuard_at_int],?_,by simp[sc]⟩
       simp[abe,binOp,Op.intDiv,hb])
     |(subst hk
       refine⟨by simp[abe,eqGuard_at_int],?_,by simp[sc]⟩
       first
        |(simp[abe,binOp,Op.intArith,Op.intCmp];done)
        |(simp only[abe,binOp,Op.intBits,ne_eq,not_true_eq_false,if_false,BitVec.toNat_and,BitVec.toNat_or,BitVec.toNat_xor,BitVec.toNat_not,toNat_ofInt];rfl))
 ·rename_i l n l' n'
  refine⟨by simp[abe,eqGuard_at_string],?_,?_⟩
  ·cases op<;>simp only[]at h<;>first
    |contradiction
    |(injection h with h;subst h;simp[abe,binOp,Op.stringOp,aVZ])
    |(split at h
      ·rename_i hl
       injection h with h;subst h
       have h2:¬(((aj9 l n).size+(aj9 l' n').size:Nat):Int)>IntKind.i64.max:=by
        rw[aob,aob,IntKind.max_i64];omega
       simp only[abe,binOp,Op.stringOp]
       rw[if_neg h2,aRt];rfl
      ·contradiction)
  ·cases op<;>simp only[]at h<;>first
    |contradiction
    |(injection h with h;subst h;simp[sc])
    |(split at h
      ·injection h with h;subst h;simp[sc]
      ·contradiction)
 ·cases h
end
end Ex
end
section
open Go.RowKit
namespace Ex
noncomputable section
inductive PIR where
 |mov (x:Od)
 |pick (c a b:Od)
 |bin (op:BinOp)(x y:Od)
 |eqk (neg:Bool)(d:Nat)(cst:Bool)(x y:Od)
 |eqI (neg:Bool)(ts:List Nat)(x y:Od)
 |not (x:Od)
 |conv (k:IntKind)(x:Od)
 |mkI (t:Nat)(x:Od)
 |mkF (f:Nat)(first cap:List Od)
 |slice (size:Nat)(x:Od)(lo hi:Option Od)
 |aGp (x:Od)(lo hi:Option Od)
 |abP (k:Nat)(x:Od)
 |field (agg:Option Nat)(off:Nat)(x:Od)
 |alW (size:Nat)(x i:Od)
 |bcL (len size:Nat)(x i:Od)
 |ixS (x i:Od)
 |ixA (len size:Nat)(agg:Bool)(x i:Od)
 |ext (i:Nat)(x:Od)
 |bcM (t:Nat)(ok:Bool)(zero:AV)(x:Od)
 |afD (x:Od)
 |len (x:Od)
 |a05 (x:Od)
 |build (zero:List AV)(parts:List (Nat×Nat×Od))
 |mm (max:Bool)(x y:Od)
 deriving Inhabited,DecidableEq
def odO:Option Operand→Option (Option Od)
 |none=>some none
 |some x=>match adC x with
  |some y=>some (some y)
  |none=>none
def aEA (P:Program)(t:TypeId):Option Bool:=
 match P.underlying t with
 |some (.struct _)=>some true
 |some (.array _ _)=>some true
 |some _=>some false
 |none=>none
def sizeT (P:Program)(t:TypeId):Option Nat:=(P.info? t).map (·.size)
def aCo (P:Program)(t:TypeId):Nat:=
 match P.underlying t with
 |some .bool=>0
 |some (.pointer _)=>1
 |some (.slice _)=>2
 |some (.interface _)=>3
 |some (.func _ _ _)=>4
 |some (.map _ _)=>5
 |_=>9
def bDX (P:Program)(t:TypeId):Bool:=
 match P.underlying t,P.info? t with
 |some (.int _),some i=>i.comparable
 |_,_=>false
def aX1 (P:Program):List Nat:=(List.range P.types.size).filter (bDX P)
def isC:Operand→Bool
 | .const _=>true
 |_=>false
def aAX (P:Program)(t:TypeId):Option AV:=
 match P.info? t with
 |some i=>match i.zero with
  |some (.agg cs)=>(a08 cs.toList).map .agg
  |some z=>a6o z
  |none=>none
 |none=>none
def aNv (P:Program)(fs:Array Field):List (Nat×Operand)→Option (List (Nat×Nat×Od))
 | []=>some []
 |(i,x)::l=>match fs[i]? with
  |some f=>match sizeT P f.type,adC x,aNv P fs l with
   |some s,some y,some r=>some ((f.offset,s,y)::r)
   |_,_,_=>none
  |none=>none
def awx (s:Nat):List (Nat×Operand)→Option (List (Nat×Nat×Od))
 | []=>some []
 |(i,x)::l=>match adC x,awx s l with
  |some y,some r=>some ((i*s,s,y)::r)
  |_,_=>none
def aNx (P:Program)(fs:Array Field):Bool:=fs.toList.all fun f=>(P.info? f.type).isSome
def aqw (P:Program):Op→Option PIR
 | .move x=>(adC x).map .mov
 | .assign x=>(adC x).map .mov
 | .pick c a b=>match adC c,adC a,adC b with
   |some c,some a,some b=>some (.pick c a b)
   |_,_,_=>none
 | .binOp op t x y _=>match adC x,adC y with
   |some u,some v=>
    if (op== .eql||op== .neq)&&(aCo P t==3&& !(isC x||isC y)) then some (.eqI (op== .neq) (aX1 P) u v)
    else if (op== .eql||op== .neq)&&aCo P t !=9 then some (.eqk (op== .neq) (aCo P t) (isC x||isC y) u v) else some (.bin op u v)
   |_,_=>none
 | .unOp .not _ x=>(adC x).map .not
 | .convert src dst x=>match adC x,P.underlying src,P.underlying dst with
   |some u,some _,some (.int k)=>some (.conv k u)
   |_,_,_=>none
 | .makeInterface t x=>if P.concrete t then (adC x).map (.mkI t) else none
 | .makeFunc (.func f) first cap=>match ajY first.toList,ajY cap.toList with
   |some u,some v=>some (.mkF f u v)
   |_,_=>none
 | .slice t x lo hi none=>match adC x,odO lo,odO hi,P.underlying t with
   |some u,some l,some h,some (.slice e)=>match sizeT P e with
    |some s=>some (.slice s u l h)
    |none=>none
   |some u,some l,some h,some .string=>some (.aGp u l h)
   |_,_,_,_=>none
 | .fieldAddr s x i=>match P.underlying s,adC x with
   |some (.struct fs),some u=>match fs[i]? with
    |some f=>match sizeT P f.type with
     |some n=>if n=0 then none else some (.abP f.offset u)
     |none=>none
    |none=>none
   |_,_=>none
 | .field t x i=>match P.underlying t,adC x with
   |some (.struct fs),some u=>match fs[i]? with
    |some f=>match aEA P f.type,sizeT P f.type with
     |some true,some n=>some (.field (some n) f.offset u)
     |some false,some _=>some (.field none f.offset u)
     |_,_=>none
    |none=>none
   |_,_=>none
 | .indexAddr t x i=>match P.underlying t,adC x,adC i with
   |some (.slice e),some u,some v=>match sizeT P e with
    |some s=>some (.alW s u v)
    |none=>none
   |some (.array n e),some u,some v=>match sizeT P e with
    |some s=>some (.bcL n s u v)
    |none=>none
   |_,_,_=>none
 | .index t x i=>match P.underlying t,adC x,adC i with
   |some .string,some u,some v=>some (.ixS u v)
   |some (.array n e),some u,some v=>match aEA P e,sizeT P e with
    |some g,some s=>some (.ixA n s g u v)
    |_,_=>none
   |_,_,_=>none
 | .extract x i=>(adC x).map (.ext i)
 | .typeAssert x _ t ok=>match P.underlying t,adC x,aAX P t with
   |some (.interface _),_,_=>none
   |some _,some u,some z=>some (.bcM t ok z u)
   |_,_,_=>none
 | .nilCheck x=>(adC x).map .afD
 | .call c=>match c.callee with
   | .builtin .len=>match c.args.toList,c.argTypes.toList with
     | [x],[t]=>match P.underlying t,adC x with
       |some (.slice _),some u=>some (.len u)
       |some .string,some u=>some (.a05 u)
       |_,_=>none
     |_,_=>none
   | .builtin .max=>match c.args.toList with
     | [x,y]=>match adC x,adC y with
       |some u,some v=>some (.mm true u v)
       |_,_=>none
     |_=>none
   | .builtin .min=>match c.args.toList with
     | [x,y]=>match adC x,adC y with
       |some u,some v=>some (.mm false u v)
       |_,_=>none
     |_=>none
   |_=>none
 | .build t parts=>match P.underlying t,zeroOf P t with
   |some (.struct fs),some z=>if aNx P fs then (aNv P fs parts.toList).map (.build z) else none
   |some (.array _ e),some z=>match sizeT P e with
    |some s=>(awx s parts.toList).map (.build z)
    |none=>none
   |_,_=>none
 |_=>none
def AV.cells:AV→List AV
 | .agg l=>l
 |v=>[v]
def over:List AV→Nat→List AV→List AV
 | [],_,_=>[]
 |x::l,0,vs=>match vs with
  | []=>x::l
  |v::vs=>v::over l 0 vs
 |x::l,o+1,vs=>x::over l o vs
def aGr (ρ:Nat→Option AV):List AV→List (Nat×Nat×Od)→Option (List AV)
 |z,[]=>some z
 |z,(off,s,x)::r=>match x.ev ρ with
  |some v=>if v.cells.length=s∧off+s≤z.length then aGr ρ (over z off v.cells) r else none
  |none=>none
def bnd (ρ:Nat→Option AV)(x:Option Od)(dflt top:Nat):Option Nat:=
 match x with
 |none=>some dflt
 |some y=>match y.ev ρ with
  |some (.int _ i)=>if 0≤i∧i≤top then some i.toNat else none
  |_=>none
def aeq (d:Nat)(cst:Bool)(x y:AV):Option Bool:=
 match d,x,y with
 |0,.bool a,.bool b=>some (a==b)
 |1,.aqh,.aqh=>some true
 |1,.aqh,.ptr _ _=>some false
 |1,.ptr _ _,.aqh=>some false
 |2,.acB,.acB=>some true
 |2,.acB,.slice _ _ _ _ _=>some false
 |2,.slice _ _ _ _ _,.acB=>some false
 |3,.iface t _,.iface u _=>if t=u then none else some false
 |3,.arD,.arD=>if cst then some true else none
 |3,.arD,.iface _ _=>some false
 |3,.iface _ _,.arD=>some false
 |4,.aAI,.aAI=>some true
 |4,.aAI,.func _ _ _=>some false
 |4,.func _ _ _,.aAI=>some false
 |5,.aqk,.aqk=>some true
 |5,.aqk,.map _=>some false
 |5,.map _,.aqk=>some false
 |_,_,_=>none
def ieq (ts:List Nat)(x y:AV):Option Bool:=
 match aeq 3 false x y with
 |some b=>some b
 |none=>match x,y with
  | .iface t (.int k a),.iface u (.int l b)=>if t=u∧k=l∧ts.contains t=true then some (a==b) else none
  |_,_=>none
def aGs (agg:Option Nat)(off:Nat)(l:List AV):Option AV:=
 match agg with
 |some n=>if off+n≤l.length then some (.agg ((l.drop off).take n)) else none
 |none=>l[off]?
def PIR.ev (ρ:Nat→Option AV):PIR→Option AV
 | .mov x=>x.ev ρ
 | .pick c a b=>match c.ev ρ with
   |some (.bool true)=>a.ev ρ
   |some (.bool false)=>b.ev ρ
   |_=>none
 | .bin op x y=>match x.ev ρ with
   |some u=>match y.ev ρ with
    |some v=>bcK op u v
    |none=>none
   |none=>none
 | .eqk neg d cst x y=>match x.ev ρ with
   |some u=>match y.ev ρ with
    |some v=>match aeq d cst u v with
     |some b=>some (.bool (if neg then !b else b))
     |none=>none
    |none=>none
   |none=>none
 | .eqI neg ts x y=>match x.ev ρ with
   |some u=>match y.ev ρ with
    |some v=>match ieq ts u v with
     |some b=>some (.bool (if neg then !b else b))
     |none=>none
    |none=>none
   |none=>none
 | .not x=>match x.ev ρ with
   |some (.bool b)=>some (.bool !b)
   |_=>none
 | .conv k x=>match x.ev ρ with
   |some (.int _ n)=>some (.int k (k.wrap n))
   |_=>none
 | .mkI t x=>match x.ev ρ with
   |some v=>some (.iface t v)
   |none=>none
 | .mkF f u v=>match evs ρ u with
   |some a=>match evs ρ v with
    |some b=>some (.func f a b)
    |none=>none
   |none=>none
 | .slice s x lo hi=>match x.ev ρ with
   |some (.slice b o d n c)=>match bnd ρ hi n c with
    |some h=>match bnd ρ lo 0 h with
     |some l=>if l≤c then some (.slice b (o+l*s) (if c=0 then d else o) (h - l) (c - l)) else none
     |none=>none
    |none=>none
   |some .acB=>match bnd ρ hi 0 0 with
    |some _=>match bnd ρ lo 0 0 with
     |some _=>some .acB
     |none=>none
    |none=>none
   |_=>none
 | .aGp x lo hi=>match x.ev ρ with
   |some (.str ln n)=>match bnd ρ hi ln ln with
    |some h=>match bnd ρ lo 0 h with
     |some l=>some (.str (h - l) (n / 256^l))
     |none=>none
    |none=>none
   |_=>none
 | .abP k x=>match x.ev ρ with
   |some (.ptr b o)=>some (.ptr b (o+k))
   |_=>none
 | .field agg off x=>match x.ev ρ with
   |some (.agg l)=>aGs agg off l
   |_=>none
 | .alW s x i=>match x.ev ρ with
   |some (.slice b o _ n c)=>match i.ev ρ with
    |some (.int _ j)=>if 0≤j∧j<n∧0<c then some (.ptr b (o+j.toNat*s)) else none
    |_=>none
   |_=>none
 | .bcL ln s x i=>match x.ev ρ with
   |some (.ptr b o)=>match i.ev ρ with
    |some (.int _ j)=>if 0≤j∧j<ln then some (.ptr b (o+j.toNat*s)) else none
    |_=>none
   |_=>none
 | .ixS x i=>match x.ev ρ with
   |some (.str ln n)=>match i.ev ρ with
    |some (.int _ j)=>if 0≤j∧j<ln then some (.int .u8 (((n / 256^j.toNat%256:Nat)):Int)) else none
    |_=>none
   |_=>none
 | .ixA ln s g x i=>match x.ev ρ with
   |some (.agg l)=>match i.ev ρ with
    |some (.int _ j)=>if 0≤j∧j<ln then aGs (if g then some s else none) (j.toNat*s) l else none
    |_=>none
   |_=>none
 | .ext i x=>match x.ev ρ with
   |some (.tup l)=>l[i]?
   |_=>none
 | .bcM t ok z x=>match x.ev ρ with
   |some .arD=>if ok then some (.tup [z,.bool false]) else none
   |some (.iface u v)=>if u=t then some (if ok then .tup [v,.bool true] else v) else if ok then some (.tup [z,.bool false]) else none
   |_=>none
 | .afD x=>match x.ev ρ with
   |some (.ptr b o)=>some (.ptr b o)
   |some (.func f a c)=>some (.func f a c)
   |_=>none
 | .len x=>match x.ev ρ with
   |some (.slice _ _ _ n _)=>some (.int .i64 n)
   |some .acB=>some (.int .i64 0)
   |_=>none
 | .a05 x=>match x.ev ρ with
   |some (.str l _)=>some (.int .i64 l)
   |_=>none
 | .mm mx x y=>match x.ev ρ with
   |some (.int k a)=>match y.ev ρ with
    |some (.int _ b)=>some (.int k (if mx then (if b>a then b else a) else (if b<a then b else a)))
    |_=>none
   |_=>none
 | .build z parts=>match aGr ρ z parts with
   |some l=>some (.agg l)
   |none=>none
end
end Ex
end
section
open Go.RowKit
namespace Ex
noncomputable section
section
variable {P:Program}{φ:Nat→Loc}{dm:Nat→Prop}{ρ:Nat→Option AV}{a:Act}
theorem aeb {t n:Nat}(h:sizeT P t=some n)(w:World):(sizeOf t).run P w= .ok n w:=by
 unfold sizeT at h
 cases hi:P.info? t with
 |none=>rw[hi]at h;cases h
 |some i=>
  rw[hi]at h
  injection h with h
  simp[sizeOf,typeInfo,hi,h]
theorem auR {t:Nat}{b:Bool}(h:aEA P t=some b)(w:World):(isAgg t).run P w= .ok b w:=by
 unfold aEA at h
 cases hd:P.underlying t with
 |none=>rw[hd]at h;cases h
 |some d=>
  rw[hd]at h
  cases d<;>(simp only[]at h;injection h with h;subst h;simp[isAgg,run_underlying hd])
theorem agL (l:List AV)(i:Nat):(ab2 φ l)[i]? =l[i]?.map (abe φ):=by rw[anl];simp
theorem adP (l:List AV):(ab2 φ l).length=l.length:=by rw[anl];simp
theorem aoL {l:List AV}(h:scL dm l){i:Nat}{v:AV}(hv:l[i]? =some v):sc dm v:=
 (agH dm l).1 h v (aaH hv)
theorem aX4 {l l':List AV}(h:scL dm l)(hs:∀v∈l',v∈l):scL dm l':=(agH dm l').2 fun v hv=>(agH dm l).1 h v (hs v hv)
theorem aV2 (l:List AV)(k:Nat):ab2 φ (l.drop k)=(ab2 φ l).drop k:=by simp[anl,List.map_drop]
theorem aGw (l:List AV)(k:Nat):ab2 φ (l.take k)=(ab2 φ l).take k:=by simp[anl,List.map_take]
theorem ame (l m:List AV):ab2 φ (l++m)=ab2 φ l++ab2 φ m:=by simp[anl]
theorem aAZ {t:TypeId}{g:Bool}{s off:Nat}{l:List AV}{v:AV}(hg:aEA P t=some g)(hs:sizeT P t=some s)
 (hv:aGs (if g then some s else none) off l=some v)(hl:scL dm l)(w:World):
 (part t (ab2 φ l).toArray off).run P w= .ok (abe φ v) w∧sc dm v:=by
 cases g with
 |true=>
  simp only[aGs,if_true]at hv
  split at hv
  ·rename_i hle
   injection hv with hv
   subst hv
   refine⟨?_,aX4 hl fun x hx=>List.mem_of_mem_drop (List.mem_of_mem_take hx)⟩
   simp only[part,aa0,auR hg,aay,if_true,aeb hs,abA]
   simp only[abe,aGw,aV2,List.extract_toArray,List.extract_eq_take_drop]
   rw[show off+s - off=s by omega]
  ·contradiction
 |false=>
  simp only[aGs]at hv
  have hv':l[off]? =some v:=hv
  refine⟨?_,aoL hl hv'⟩
  have:(ab2 φ l).toArray[off]? =some (abe φ v):=by rw[adY,agL,hv'];rfl
  simp only[part,aa0,auR hg,aay,acf,if_false,this,abA]
theorem anO (R:RR φ dm ρ a){x:Option Operand}{d:Option Od}{dflt top n:Nat}(h:odO x=some d)(hv:bnd ρ d dflt top=some n):
 (x=none∧n=dflt)∨∃y k,x=some y∧a.eval y= .int k n∧n≤top:=by
 cases x with
 |none=>
  injection h with h
  subst h
  injection hv with hv
  exact .inl ⟨rfl,hv.symm⟩
 |some y=>
  simp only[odO]at h
  split at h
  ·rename_i z hz
   injection h with h
   subst h
   simp only[bnd]at hv
   split at hv
   ·rename_i k i hi
    split at hv
    ·rename_i hb
     injection hv with hv
     obtain⟨h1,_⟩:=abU R hz hi
     refine .inr ⟨y,k,rfl,?_,by omega⟩
     rw[h1]
     show Value.int k i=_
     congr 1
     omega
    ·contradiction
   ·contradiction
  ·contradiction
theorem run_sliceBound (k:IntKind)(n top:Nat)(code:BoundsCode)(h:n≤top)(w:World):(Instr.sliceBound (.int k n) top code).run P w= .ok n w:=by
 simp[Instr.sliceBound,asIntOf,h]
theorem aqy (R:RR φ dm ρ a){lo hi:Option Operand}{l h:Option Od}{n c top lv hv:Nat}(s:Bool)(hl:odO lo=some l)(hh:odO hi=some h)
 (e1:bnd ρ h n top=some hv)(e2:bnd ρ l 0 hv=some lv)(ht:top≤c)(w:World):
 (Instr.sliceBounds s n c (lo.map a.eval) (hi.map a.eval) none).run P w= .ok (lv,hv,c) w:=by
 rcases anO R hh e1 with⟨rfl,rfl⟩|⟨y,k,rfl,hy,hle⟩<;>rcases anO R hl e2 with⟨rfl,rfl⟩|⟨z,j,rfl,hz,hle2⟩
 ·simp[Instr.sliceBounds]
 ·simp[Instr.sliceBounds,hz,run_sliceBound _ _ _ _ hle2]
 ·simp[Instr.sliceBounds,hy,run_sliceBound _ _ _ _ (aa7 hle ht)]
 ·simp[Instr.sliceBounds,hy,hz,run_sliceBound _ _ _ _ (aa7 hle ht),run_sliceBound _ _ _ _ hle2]
theorem axR:∀(l:List AV)(o:Nat)(vs:List AV),o+vs.length≤l.length→∀i,(over l o vs)[i]? =if o≤i∧i<o+vs.length then vs[i - o]? else l[i]?
 | [],o,vs,h,i=>by
   have:vs= []:=acU (by simp only[aeM]at h;omega)
   subst this
   simp[over]
 |x::l,0,[],h,i=>by simp[over]
 |x::l,0,v::vs,h,i=>by
  cases i with
  |zero=>simp[over]
  |succ i=>
   have ih:=axR l 0 vs (by simp at h ⊢;omega) i
   simp only[over,ad6,ih,abJ,ab6,true_and,adI,alp]
   by_cases hi:i<vs.length
   ·rw[if_pos hi,if_pos (by omega)]
   ·rw[if_neg hi,if_neg (by omega)]
 |x::l,o+1,vs,h,i=>by
  cases i with
  |zero=>simp[over]
  |succ i=>
   have ih:=axR l o vs (by simp at h;omega) i
   simp only[over,ad6,ih]
   by_cases hi:o≤i∧i<o+vs.length
   ·rw[if_pos hi,if_pos (by omega),show i+1 - (o+1)=i - o by omega]
   ·rw[if_neg hi,if_neg (by omega)]
theorem a6u (l:List AV)(o:Nat)(vs:List AV)(h:o+vs.length≤l.length){v:AV}(hv:v∈over l o vs):v∈vs∨v∈l:=by
 obtain⟨i,hi⟩:=abM.1 hv
 rw[axR l o vs h]at hi
 split at hi
 ·exact .inl (aaH hi)
 ·exact .inr (aaH hi)
theorem foldl_set (vs:List Value):∀(cs:Array Value)(o k:Nat),o+k+vs.length≤cs.size→
 ((vs.zipIdx k).foldl (fun cs (c,j)=>cs.setIfInBounds (o+j) c) cs).size=cs.size∧
 ∀i,((vs.zipIdx k).foldl (fun cs (c,j)=>cs.setIfInBounds (o+j) c) cs)[i]? =if o+k≤i∧i<o+k+vs.length then vs[i - (o+k)]? else cs[i]? :=by
 induction vs with
 |nil=>
  intro cs o k h
  refine⟨rfl,fun i=>?_⟩
  simp only[List.zipIdx_nil,List.foldl_nil,aeM]
  rw[if_neg (by omega)]
 |cons v vs ih=>
  intro cs o k h
  simp only[List.zipIdx_cons,List.foldl_cons]
  simp only[abJ]at h ⊢
  obtain⟨h1,h2⟩:=ih (cs.setIfInBounds (o+k) v) o (k+1) (by simp only[Array.size_setIfInBounds];omega)
  refine⟨by rw[h1];simp,fun i=>?_⟩
  rw[h2]
  by_cases hi:o+(k+1)≤i∧i<o+(k+1)+vs.length
  ·rw[if_pos hi,if_pos (by omega),show i - (o+k)=(i - (o+(k+1)))+1 by omega];rfl
  ·rw[if_neg hi]
   by_cases he:i=o+k
   ·subst he
    rw[if_pos (by omega)]
    rw[abk (by omega)]
    simp
   ·rw[if_neg (by omega),abN (by omega)]
theorem awz (v:AV):(abe φ v).cells=(ab2 φ v.cells).toArray:=by cases v<;>rfl
theorem agS {v:AV}(h:sc dm v):scL dm v.cells:=by cases v<;>first|exact⟨h,trivial⟩|exact h
theorem a1b (l:List AV)(off:Nat)(vs:List AV)(h:off+vs.length≤l.length):
 ((ab2 φ vs).toArray.zipIdx.foldl (fun cs (c,j)=>cs.setIfInBounds (off+j) c) (ab2 φ l).toArray)=(ab2 φ (over l off vs)).toArray:=by
 have hz:((ab2 φ vs).toArray.zipIdx.foldl (fun cs (c,j)=>cs.setIfInBounds (off+j) c) (ab2 φ l).toArray)=
  ((ab2 φ vs).zipIdx 0).foldl (fun cs (c,j)=>cs.setIfInBounds (off+j) c) (ab2 φ l).toArray:=by
  rw[←Array.foldl_toList];simp[Array.toList_zipIdx]
 rw[hz]
 obtain⟨h1,h2⟩:=foldl_set (ab2 φ vs) (ab2 φ l).toArray off 0 (by simp[adP];omega)
 apply Array.ext_getElem?
 intro i
 rw[h2]
 simp only[adP,adK,adY,agL,axR l off vs h]
 split<;>simp
theorem auS (place:Nat→Option (Nat×Nat))(R:RR φ dm ρ a):∀(ops:List (Nat×Operand))(ps:List (Nat×Nat×Od))(z l:List AV),
 (ps.length=ops.length∧∀(i:Nat)(p:Nat×Operand)(q:Nat×Nat×Od),ops[i]? =some p→ps[i]? =some q→place p.1=some (q.1,q.2.1)∧adC p.2=some q.2.2)→
 aGr ρ z ps=some l→scL dm z→
 Instr.fill place (ab2 φ z).toArray (ops.map fun(i,x)=>(i,a.eval x))=some (ab2 φ l).toArray∧scL dm l
 | [],ps,z,l,h,hf,hz=>by
   have:ps= []:=acU (by simpa using h.1)
   subst this
   injection hf with hf
   subst hf
   exact⟨rfl,hz⟩
 |(i,x)::ops,ps,z,l,h,hf,hz=>by
  cases ps with
  |nil=>simp at h
  |cons q ps=>
   obtain⟨off,s,y⟩:=q
   obtain⟨hp,hy⟩:=h.2 0 _ _ rfl rfl
   simp only[aGr]at hf
   split at hf
   ·rename_i v hv
    split at hf
    ·rename_i hc
     obtain⟨h1,h2⟩:=abU R hy hv
     have hs2:=agS h2
     have hrec:=auS place R ops ps (over z off v.cells) l ⟨by simpa using h.1,fun j p q hp hq=>h.2 (j+1) p q hp hq⟩ hf
      ((agH dm _).2 fun u hu=>by
        rcases a6u z off v.cells (by omega) hu with h3|h3
        ·exact(agH dm _).1 hs2 u h3
        ·exact(agH dm _).1 hz u h3)
     refine⟨?_,hrec.2⟩
     simp only[acv,Instr.fill,hp]
     simp only at h1
     have e1:(a.eval x).cells=(ab2 φ v.cells).toArray:=by rw[h1,awz]
     rw[if_neg (by rw[e1];simp[adP];omega),e1,a1b z off v.cells (by omega)]
     exact hrec.1
    ·contradiction
   ·contradiction
theorem aCq (R:RR φ dm ρ a)(fs:Array Field):∀(l:List (Nat×Operand))(r:List (Nat×Nat×Od)),aNv P fs l=some r→
 r.length=l.length∧∀(i:Nat)(p:Nat×Operand)(q:Nat×Nat×Od),l[i]? =some p→r[i]? =some q→
  (∃f,fs[p.1]? =some f∧f.offset=q.1∧sizeT P f.type=some q.2.1)∧adC p.2=some q.2.2
 | [],r,h=>by injection h with h;subst h;exact⟨rfl,fun i p q hp=>by simp at hp⟩
 |(j,x)::l,r,h=>by
  simp only[aNv]at h
  split at h
  ·rename_i f hf
   split at h
   ·rename_i s y z h1 h2 h3
    injection h with h
    subst h
    obtain⟨h4,h5⟩:=aCq R fs l z h3
    refine⟨by simp[h4],fun i p q hp hq=>?_⟩
    cases i with
    |zero=>
     simp only[ac3,aej]at hp hq
     subst hp;subst hq
     exact⟨⟨f,hf,rfl,h1⟩,h2⟩
    |succ i=>exact h5 i p q (by simpa using hp) (by simpa using hq)
   ·contradiction
  ·contradiction
theorem ata (s:Nat):∀(l:List (Nat×Operand))(r:List (Nat×Nat×Od)),awx s l=some r→
 r.length=l.length∧∀(i:Nat)(p:Nat×Operand)(q:Nat×Nat×Od),l[i]? =some p→r[i]? =some q→(q.1=p.1*s∧q.2.1=s)∧adC p.2=some q.2.2
 | [],r,h=>by injection h with h;subst h;exact⟨rfl,fun i p q hp=>by simp at hp⟩
 |(j,x)::l,r,h=>by
  simp only[awx]at h
  split at h
  ·rename_i y z h1 h2
   injection h with h
   subst h
   obtain⟨h4,h5⟩:=ata s l z h2
   refine⟨by simp[h4],fun i p q hp hq=>?_⟩
   cases i with
   |zero=>
    simp only[ac3,aej]at hp hq
    subst hp;subst hq
    exact⟨⟨rfl,rfl⟩,h1⟩
   |succ i=>exact h5 i p q (by simpa using hp) (by simpa using hq)
  ·contradiction
theorem run_places (fs:Array Field)(h:aNx P fs=true)(w:World):
 (fs.mapM fun f=>do pure (f.offset,←sizeOf f.type):Sem (Array (Nat×Nat))).run P w= .ok (fs.map fun f=>(f.offset,(sizeT P f.type).getD 0)) w:=by
 have key:∀l:List Field,(∀f∈l,(P.info? f.type).isSome=true)→
  (l.mapM fun f=>do pure (f.offset,←sizeOf f.type):Sem (List (Nat×Nat))).run P w= .ok (l.map fun f=>(f.offset,(sizeT P f.type).getD 0)) w:=by
  intro l
  induction l with
  |nil=>intro _;rfl
  |cons f l ih=>
   intro hl
   obtain⟨i,hi⟩:=ajO.1 (hl f (by simp))
   have hs:sizeT P f.type=some i.size:=by simp[sizeT,hi]
   simp only[List.mapM_cons,aa0,aeb hs,aay,abA,ih fun g hg=>hl g (by simp[hg]),hs,acv,ahc]
 rw[Array.mapM_eq_mapM_toList]
 simp only[Sem.run_map]
 rw[key fs.toList (fun f hf=>by unfold aNx at h;exact acg.1 h f hf)]
 simp only[aay]
 congr 1
 apply ac4.1
 simp
end
end
end Ex
end
section
open Go.RowKit
namespace Ex
noncomputable section
section
variable {P:Program}{φ:Nat→Loc}{dm:Nat→Prop}{ρ:Nat→Option AV}{a:Act}
theorem aGx (t:TypeId):match aCo P t with
 |0=>P.underlying t=some .bool
 |1=>∃e,P.underlying t=some (.pointer e)
 |2=>∃e,P.underlying t=some (.slice e)
 |3=>∃e,P.underlying t=some (.interface e)
 |4=>∃e f g,P.underlying t=some (.func e f g)
 |5=>∃e f,P.underlying t=some (.map e f)
 |_=>True:=by
 unfold aCo
 cases P.underlying t with
 |none=>simp
 |some d=>cases d<;>simp
theorem aRE {t:TypeId}{cst b:Bool}{x y:AV}{X Y:Operand}(h:aeq (aCo P t) cst x y=some b)(hc:(isC X||isC Y)=cst)(w:World):
 (Op.equal t (abe φ x) (abe φ y)).run P w= .ok b w∧∀op,(eqGuard op t X Y (abe φ x) (abe φ y)).run P w= .ok () w:=by
 show(Op.equalIn (9999+1) t (abe φ x) (abe φ y)).run P w= .ok b w∧_
 have hd:=aGx (P:=P) t
 generalize aCo P t=k at h hd
 unfold aeq at h
 split at h
 case h_8=>
  obtain⟨e,hd⟩:=hd
  split at h
  ·contradiction
  ·rename_i hne
   injection h with h
   subst h
   refine⟨?_,fun op=>?_⟩
   ·rw[Op.equalIn];simp[run_underlying hd,abe,hne]
   ·cases op<;>simp[eqGuard,abe]
 case h_9=>
  obtain⟨e,hd⟩:=hd
  split at h
  ·rename_i hcs
   injection h with h
   subst h
   refine⟨?_,fun op=>?_⟩
   ·rw[Op.equalIn];simp[run_underlying hd,abe]
   ·rw[hcs]at hc
    cases X<;>cases Y<;>first
     |(simp[isC]at hc;done)
     |(cases op<;>simp[eqGuard,abe])
  ·contradiction
 case h_18=>contradiction
 all_goals
  injection h with h
  subst h
  refine⟨?_,fun op=>?_⟩
  ·rw[Op.equalIn]
   first
    |(simp[run_underlying hd,abe];done)
    |(obtain⟨e,hd⟩:=hd;simp[run_underlying hd,abe];done)
    |(obtain⟨e,f,hd⟩:=hd;simp[run_underlying hd,abe];done)
    |(obtain⟨e,f,g,hd⟩:=hd;simp[run_underlying hd,abe];done)
  ·cases op<;>simp[eqGuard,abe]
theorem aV4 {t:Nat}(h:(aX1 P).contains t=true):∃k i,P.underlying t=some (.int k)∧P.info? t=some i∧i.comparable=true:=by
 have h1:t∈aX1 P:=by simpa using h
 have h2:=(acD.1 h1).2
 unfold bDX at h2
 split at h2
 ·rename_i k i h3 h4;exact⟨k,i,h3,h4,h2⟩
 ·cases h2
theorem a6v {t:TypeId}{b:Bool}{x y:AV}{X Y:Operand}(ht:aCo P t=3)(h:ieq (aX1 P) x y=some b)(hc:(isC X||isC Y)=false)(w:World):
 (Op.equal t (abe φ x) (abe φ y)).run P w= .ok b w∧(∀op,(eqGuard op t X Y (abe φ x) (abe φ y)).run P w= .ok () w):=by
 unfold ieq at h
 split at h
 ·rename_i b' hb
  injection h with h
  subst h
  exact aRE (P:=P) (φ:=φ) (X:=X) (Y:=Y) (by rw[ht];exact hb) hc w
 ·split at h
  ·rename_i t1 k a u l c
   split at h
   ·rename_i hcond
    obtain⟨rfl,rfl,hts⟩:=hcond
    injection h with h
    subst h
    have hd:=aGx (P:=P) t
    rw[ht]at hd
    obtain⟨e,hd⟩:=hd
    obtain⟨k',i,q1,q2,q3⟩:=aV4 hts
    refine⟨?_,fun op=>?_⟩
    ·show(Op.equalIn ((9998+1)+1) t _ _).run P w=_
     rw[Op.equalIn]
     simp only[abe,aa0,run_underlying hd,aay,ne_eq,not_true_eq_false,if_false,typeInfo,run_program,q2,q3,Bool.not_true,acf,abA]
     rw[Op.equalIn]
     simp[run_underlying q1]
    ·cases op<;>simp[eqGuard,abe]
   ·contradiction
  ·contradiction
end
end
end Ex
end
section
open Go.RowKit
namespace Ex
noncomputable section
section
variable {P:Program}{φ:Nat→Loc}{dm:Nat→Prop}{ρ:Nat→Option AV}{a:Act}
theorem aCs {t:TypeId}{z:AV}(h:aAX P t=some z)(φ:Nat→Loc)(dm:Nat→Prop)(w:World):(zeroValue t).run P w= .ok (abe φ z) w∧sc dm z:=by
 unfold aAX at h
 split at h
 ·rename_i i hi
  split at h
  ·rename_i cs hz
   simp only[ac1]at h
   obtain⟨l,hl,rfl⟩:=h
   obtain⟨h1,h2,_⟩:=auI hl φ dm
   refine⟨?_,h2⟩
   simp only[zeroValue,typeInfo,aa0,run_program,aay,hi,abA,hz,abe,h1]
  ·rename_i z' hz _
   obtain⟨h1,h2,_⟩:=aAR h φ dm
   refine⟨?_,h2⟩
   rename_i _ _ hz2
   simp[zeroValue,typeInfo,hi, *]
  ·contradiction
 ·contradiction
theorem aqA (P:Program)(s:Sem Value)(w:World){v:Value}(h:s.run P w= .ok v w):(do pure (Next.value (←s)):Sem Next).run P w= .ok (.value v) w:=by
 simp[h]
theorem a6w {t e:TypeId}{s:Nat}{x:Operand}{lo hi:Option Operand}{u:Od}{l h:Option Od}{v:AV}
 (hx:adC x=some u)(hl:odO lo=some l)(hh:odO hi=some h)(ht:P.underlying t=some (.slice e))(hs:sizeT P e=some s)
 (R:RR φ dm ρ a)(hv:(PIR.slice s u l h).ev ρ=some v)(w:World):
 (Instr.sliceAt t (a.eval x) (lo.map a.eval) (hi.map a.eval) none).run P w= .ok (abe φ v) w∧sc dm v:=by
 simp only[PIR.ev]at hv
 split at hv
 ·rename_i b o d n c he
  obtain⟨h1,h2⟩:=abU R hx he
  split at hv
  ·rename_i hv' e1
   split at hv
   ·rename_i lv e2
    split at hv
    case isFalse=>contradiction
    rename_i hlc
    injection hv with hv
    subst hv
    refine⟨?_,h2⟩
    have hb:=aqy (P:=P) R (s:=true) hl hh e1 e2 (Nat.le_add_right c (φ b).ext) w
    rw[h1]
    simp only[Instr.sliceAt,aa0,run_underlying ht,aay,abe,Instr.slice,hb,aeb hs,abA,adn]
    have hlv:lv≤hv':=by
     rcases anO R hl e2 with⟨_,rfl⟩|⟨_,_,_,_,h3⟩
     ·omega
     ·exact h3
    have hA:(if c+(φ b).ext=lv then some (⟨(φ b).blk,(φ b).base+(if c+(φ b).ext=0 then d else o),none⟩ :Addr)
     else some (Addr.add ⟨(φ b).blk,(φ b).base+(if c+(φ b).ext=0 then d else o),none⟩ (lv*s)))=
     some ⟨(φ b).blk,(φ b).base+(if c - lv+(φ b).ext=0 then (if c=0 then d else o) else o+lv*s),none⟩:=by
     by_cases hc:c+(φ b).ext=lv
     ·rw[if_pos hc,if_pos (show c - lv+(φ b).ext=0 by omega)]
      by_cases h0:c=0
      ·rw[if_pos (show c+(φ b).ext=0 by omega),if_pos h0]
      ·rw[if_neg (show ¬c+(φ b).ext=0 by omega),if_neg h0]
     ·rw[if_neg hc,if_neg (show ¬c+(φ b).ext=0 by omega),if_neg (show ¬c - lv+(φ b).ext=0 by omega),agO,agI]
    rw[hA]
    congr 2
    omega
   ·contradiction
  ·contradiction
 ·rename_i he
  obtain⟨h1,h2⟩:=abU R hx he
  split at hv
  ·rename_i hv' e1
   split at hv
   ·rename_i lv e2
    injection hv with hv
    subst hv
    refine⟨?_,h2⟩
    have z1:hv'=0:=by
     rcases anO R hh e1 with⟨_,rfl⟩|⟨_,_,_,_,h3⟩<;>omega
    subst z1
    have z2:lv=0:=by
     rcases anO R hl e2 with⟨_,rfl⟩|⟨_,_,_,_,h3⟩<;>omega
    subst z2
    have hb:=aqy (P:=P) R (s:=true) hl hh e1 e2 (aai 0) w
    rw[h1]
    simp[Instr.sliceAt,run_underlying ht,abe,Instr.slice,hb,aeb hs]
   ·contradiction
  ·contradiction
 ·contradiction
end
end
end Ex
end
section
open Go.RowKit
namespace Ex
noncomputable section
section
variable {P:Program}{φ:Nat→Loc}{dm:Nat→Prop}{ρ:Nat→Option AV}{a:Act}
theorem a1c {t:TypeId}{x:Operand}{lo hi:Option Operand}{u:Od}{l h:Option Od}{v:AV}
 (hx:adC x=some u)(hl:odO lo=some l)(hh:odO hi=some h)(ht:P.underlying t=some .string)
 (R:RR φ dm ρ a)(hv:(PIR.aGp u l h).ev ρ=some v)(w:World):
 (Instr.sliceAt t (a.eval x) (lo.map a.eval) (hi.map a.eval) none).run P w= .ok (abe φ v) w∧sc dm v:=by
 simp only[PIR.ev]at hv
 split at hv
 ·rename_i len n he
  obtain⟨h1,h2⟩:=abU R hx he
  split at hv
  ·rename_i hv' e1
   split at hv
   ·rename_i lv e2
    injection hv with hv
    subst hv
    refine⟨?_,by simp[sc]⟩
    have hb:=aqy (P:=P) R (s:=false) hl hh e1 e2 (aai len) w
    have hlv:lv≤hv':=by
     rcases anO R hl e2 with⟨_,rfl⟩|⟨_,_,_,_,h3⟩
     ·omega
     ·exact h3
    have hvl:hv'≤len:=by
     rcases anO R hh e1 with⟨_,rfl⟩|⟨_,_,_,_,h3⟩
     ·omega
     ·exact h3
    rw[h1]
    simp only[Instr.sliceAt,aa0,run_underlying ht,aay,abe,Instr.slice,aob,Option.isSome_none,acf,if_false,hb,abA,axQ len n lv hv' hlv hvl]
   ·contradiction
  ·contradiction
 ·contradiction
theorem bcO {t e:TypeId}{s:Nat}{x i:Operand}{u y:Od}{v:AV}(hx:adC x=some u)(hi:adC i=some y)(ht:P.underlying t=some (.slice e))
 (hs:sizeT P e=some s)(R:RR φ dm ρ a)(hv:(PIR.alW s u y).ev ρ=some v)(w:World):
 (Instr.indexAt t (a.eval x) (a.eval i)).run P w= .ok (abe φ v) w∧sc dm v:=by
 simp only[PIR.ev]at hv
 split at hv
 ·rename_i b o d n c he
  obtain⟨h1,h2⟩:=abU R hx he
  split at hv
  ·rename_i k j hj
   obtain⟨h3,_⟩:=abU R hi hj
   split at hv
   ·rename_i hb
    injection hv with hv
    subst hv
    refine⟨?_,h2⟩
    rw[h1,h3]
    simp only[abe,Instr.indexAt,asIntOf,aa0,abA,aay,run_underlying ht]
    rw[if_pos ⟨hb.1,hb.2.1⟩]
    simp only[aa0,aeb hs,aay,abA,agO]
    rw[if_neg (show ¬c+(φ b).ext=0 by omega),agI]
   ·contradiction
  ·contradiction
 ·contradiction
theorem bcR {t e:TypeId}{s n:Nat}{x i:Operand}{u y:Od}{v:AV}(hx:adC x=some u)(hi:adC i=some y)(ht:P.underlying t=some (.array n e))
 (hs:sizeT P e=some s)(R:RR φ dm ρ a)(hv:(PIR.bcL n s u y).ev ρ=some v)(w:World):
 (Instr.indexAt t (a.eval x) (a.eval i)).run P w= .ok (abe φ v) w∧sc dm v:=by
 simp only[PIR.ev]at hv
 split at hv
 ·rename_i b o he
  obtain⟨h1,h2⟩:=abU R hx he
  split at hv
  ·rename_i k j hj
   obtain⟨h3,_⟩:=abU R hi hj
   split at hv
   ·rename_i hb
    injection hv with hv
    subst hv
    refine⟨?_,h2⟩
    rw[h1,h3]
    simp only[abe,Instr.indexAt,asIntOf,aa0,abA,aay,run_underlying ht,Instr.sureAddr]
    rw[if_pos ⟨hb.1,hb.2⟩]
    simp only[aa0,aeb hs,aay,abA,agO,agI]
   ·contradiction
  ·contradiction
 ·contradiction
theorem bsP {t:TypeId}{x i:Operand}{u y:Od}{v:AV}(hx:adC x=some u)(hi:adC i=some y)(ht:P.underlying t=some .string)
 (R:RR φ dm ρ a)(hv:(PIR.ixS u y).ev ρ=some v)(w:World):
 (Instr.index t (a.eval x) (a.eval i)).run P w= .ok (abe φ v) w∧sc dm v:=by
 simp only[PIR.ev]at hv
 split at hv
 ·rename_i len n he
  obtain⟨h1,h2⟩:=abU R hx he
  split at hv
  ·rename_i k j hj
   obtain⟨h3,_⟩:=abU R hi hj
   split at hv
   ·rename_i hb
    injection hv with hv
    subst hv
    refine⟨?_,by simp[sc]⟩
    rw[h1,h3]
    have hg:=a6i len n j.toNat (by omega)
    simp only[abe,Instr.index,asIntOf,aa0,abA,aay,run_underlying ht]
    rw[if_pos hb.1,hg]
    simp
   ·contradiction
  ·contradiction
 ·contradiction
theorem bsS {t e:TypeId}{s n:Nat}{g:Bool}{x i:Operand}{u y:Od}{v:AV}(hx:adC x=some u)(hi:adC i=some y)(ht:P.underlying t=some (.array n e))
 (hg:aEA P e=some g)(hs:sizeT P e=some s)(R:RR φ dm ρ a)(hv:(PIR.ixA n s g u y).ev ρ=some v)(w:World):
 (Instr.index t (a.eval x) (a.eval i)).run P w= .ok (abe φ v) w∧sc dm v:=by
 simp only[PIR.ev]at hv
 split at hv
 ·rename_i l he
  obtain⟨h1,h2⟩:=abU R hx he
  split at hv
  ·rename_i k j hj
   obtain⟨h3,_⟩:=abU R hi hj
   split at hv
   ·rename_i hb
    rw[h1,h3]
    have hp:=aAZ (φ:=φ) hg hs hv h2 w
    simp only[abe,Instr.index,asIntOf,aa0,abA,aay,run_underlying ht]
    rw[if_pos hb]
    simp only[aa0,aeb hs,aay]
    exact hp
   ·contradiction
  ·contradiction
 ·contradiction
theorem bcS {t xt:TypeId}{ok:Bool}{z:AV}{x:Operand}{u:Od}{v:AV}{d:TypeDesc}(hx:adC x=some u)(ht:P.underlying t=some d)
 (hd:∀m,d≠ .interface m)(hz:aAX P t=some z)(R:RR φ dm ρ a)(hv:(PIR.bcM t ok z u).ev ρ=some v)(w:World):
 (Instr.typeAssert (a.eval x) xt t ok).run P w= .ok (abe φ v) w∧sc dm v:=by
 obtain⟨z1,z2⟩:=aCs hz φ dm w
 simp only[PIR.ev]at hv
 split at hv
 ·rename_i he
  obtain⟨h1,h2⟩:=abU R hx he
  split at hv
  ·rename_i hok
   injection hv with hv
   subst hv
   subst hok
   refine⟨?_,by simp[sc,scL,z2]⟩
   rw[h1]
   simp only[Instr.typeAssert,aa0,run_underlying ht,aay,abe]
   cases d<;>first|(exact absurd rfl (hd _))|simp[z1,abe,ab2]
  ·contradiction
 ·rename_i k y he
  obtain⟨h1,h2⟩:=abU R hx he
  simp only[sc]at h2
  split at hv
  ·rename_i hk
   injection hv with hv
   subst hv
   subst hk
   rw[h1]
   refine⟨?_,by cases ok<;>simp[sc,scL,h2]⟩
   simp only[Instr.typeAssert,aa0,run_underlying ht,aay,abe]
   cases d<;>first|(exact absurd rfl (hd _))|(cases ok<;>simp[abe,ab2])
  ·rename_i hk
   split at hv
   ·rename_i hok
    injection hv with hv
    subst hv
    subst hok
    rw[h1]
    refine⟨?_,by simp[sc,scL,z2]⟩
    simp only[Instr.typeAssert,aa0,run_underlying ht,aay,abe]
    cases d<;>first|(exact absurd rfl (hd _))|simp[z1,abe,ab2,hk]
   ·contradiction
 ·contradiction
theorem a6z {t:TypeId}{parts:Array (Nat×Operand)}{ir:PIR}{v:AV}(h:aqw P (.build t parts)=some ir)(R:RR φ dm ρ a)(hv:ir.ev ρ=some v)(w:World):
 (Instr.build t (parts.map fun(i,x)=>(i,a.eval x))).run P w= .ok (abe φ v) w∧sc dm v:=by
 simp only[aqw]at h
 split at h
 ·rename_i fs z ht hz
  obtain⟨i,z0,hi,hz0,hzz⟩:=ant hz
  obtain⟨hc,hsz,_⟩:=hzz φ dm
  split at h
  ·rename_i hsz2
   simp only[ac1]at h
   obtain⟨ps,hps,rfl⟩:=h
   simp only[PIR.ev]at hv
   split at hv
   ·rename_i l hl
    injection hv with hv
    subst hv
    obtain⟨hlen,hsp⟩:=aCq R fs parts.toList ps hps
    have hfs:=auS (fun k=>(fs.map fun f=>(f.offset,(sizeT P f.type).getD 0))[k]?) R parts.toList ps z l
     ⟨hlen,fun k p q hp hq=>by
      obtain⟨⟨f,hf,h1,h2⟩,h3⟩:=hsp k p q hp hq
      refine⟨?_,h3⟩
      simp[hf,h1,h2]⟩ hl hsz
    refine⟨?_,hfs.2⟩
    have hpl:=run_places (P:=P) fs hsz2 w
    simp only[Instr.build,aa0,zeroValue,typeInfo,run_program,aay,hi,abA,hz0,run_underlying ht]
    rw[hpl]
    simp only[aay]
    have ep:(parts.map fun(x:Nat×Operand)=>(x.1,a.eval x.2)).toList=parts.toList.map fun(x:Nat×Operand)=>(x.1,a.eval x.2):=by simp
    rw[←hc]
    have hf2:=hfs.1
    rw[←ep]at hf2
    rw[hf2]
    rfl
   ·contradiction
  ·contradiction
 ·rename_i n e z ht hz
  obtain⟨i,z0,hi,hz0,hzz⟩:=ant hz
  obtain⟨hc,hsz,_⟩:=hzz φ dm
  split at h
  ·rename_i s hs
   simp only[ac1]at h
   obtain⟨ps,hps,rfl⟩:=h
   simp only[PIR.ev]at hv
   split at hv
   ·rename_i l hl
    injection hv with hv
    subst hv
    obtain⟨hlen,hsp⟩:=ata s parts.toList ps hps
    have hfs:=auS (fun k=>some (k*s,s)) R parts.toList ps z l
     ⟨hlen,fun k p q hp hq=>by
      obtain⟨⟨h1,h2⟩,h3⟩:=hsp k p q hp hq
      refine⟨?_,h3⟩
      rw[h1,h2]⟩ hl hsz
    refine⟨?_,hfs.2⟩
    simp only[Instr.build,aa0,zeroValue,typeInfo,run_program,aay,hi,abA,hz0,run_underlying ht,aeb hs]
    have ep:(parts.map fun(x:Nat×Operand)=>(x.1,a.eval x.2)).toList=parts.toList.map fun(x:Nat×Operand)=>(x.1,a.eval x.2):=by simp
    rw[←hc]
    have hf2:=hfs.1
    rw[←ep]at hf2
    rw[hf2]
    rfl
   ·contradiction
  ·contradiction
 ·contradiction
end
end
end Ex
end
section
open Go.RowKit
namespace Ex
noncomputable section
section
variable {P:Program}{φ:Nat→Loc}{dm:Nat→Prop}{ρ:Nat→Option AV}{a:Act}
theorem aCt {o:Oper}{ir:PIR}{v:AV}(h:aqw P o.op=some ir)(R:RR φ dm ρ a)(hv:ir.ev ρ=some v)(w:World):
 (execOp a.eval o).run P w= .ok (.value (abe φ v)) w∧sc dm v:=by
 obtain⟨dst,op,type,pos,after,guard⟩:=o
 simp only at h
 have hold:=h
 cases op<;>simp only[aqw]at h<;>try contradiction
 case move x=>
  simp only[ac1]at h
  obtain⟨u,hu,rfl⟩:=h
  obtain⟨h1,h2⟩:=abU R hu hv
  exact⟨by simp[execOp,h1],h2⟩
 case assign x=>
  simp only[ac1]at h
  obtain⟨u,hu,rfl⟩:=h
  obtain⟨h1,h2⟩:=abU R hu hv
  exact⟨by simp[execOp,h1],h2⟩
 case pick c x y=>
  split at h
  ·rename_i c' x' y' hc hx hy
   injection h with h
   subst h
   simp only[PIR.ev]at hv
   split at hv
   ·rename_i he
    obtain⟨h1,_⟩:=abU R hc he
    obtain⟨h3,h4⟩:=abU R hx hv
    exact⟨by simp[execOp,h1,h3,abe,asBool],h4⟩
   ·rename_i he
    obtain⟨h1,_⟩:=abU R hc he
    obtain⟨h3,h4⟩:=abU R hy hv
    exact⟨by simp[execOp,h1,h3,abe,asBool],h4⟩
   ·contradiction
  ·contradiction
 case build t parts=>
  have hb:=a6z (P:=P) hold R hv w
  exact⟨by simp only[execOp];exact aqA P _ w hb.1,hb.2⟩
 case nilCheck x=>
  simp only[ac1]at h
  obtain⟨u,hu,rfl⟩:=h
  simp only[PIR.ev]at hv
  split at hv
  ·rename_i b o' he
   injection hv with hv
   subst hv
   obtain⟨h1,h2⟩:=abU R hu he
   exact⟨by simp[execOp,h1,abe],h2⟩
  ·rename_i f p q he
   injection hv with hv
   subst hv
   obtain⟨h1,h2⟩:=abU R hu he
   exact⟨by simp[execOp,h1,abe],h2⟩
  ·contradiction
 case binOp op t x y yt=>
  split at h
  ·rename_i u v' hu hv'
   split at h
   ·rename_i hc
    injection h with h
    subst h
    simp only[PIR.ev]at hv
    split at hv
    ·rename_i x1 hx1
     split at hv
     ·rename_i y1 hy1
      split at hv
      ·rename_i b hb
       injection hv with hv
       subst hv
       obtain⟨h1,h2⟩:=abU R hu hx1
       obtain⟨h3,h4⟩:=abU R hv' hy1
       simp only[aa6,afU,beq_iff_eq,ak0]at hc
       obtain⟨e1,e2⟩:=a6v (P:=P) (φ:=φ) (X:=x) (Y:=y) hc.2.1 hb hc.2.2 w
       refine⟨?_,by simp[sc]⟩
       simp only[execOp]
       apply aqA
       rw[aa0,h1,h3,e2,aay]
       have hshape:∀op,op=BinOp.eql∨op= .neq→(binOp op t (abe φ x1) (abe φ y1)).run P w=((Op.equal t (abe φ x1) (abe φ y1)).run P w).andThen fun b w'=> .ok (.bool (if op== .neq then !b else b)) w':=by
        intro op hop
        unfold ieq at hb
        split at hb
        ·rename_i b' hb'
         unfold aeq at hb'
         rcases hop with rfl|rfl<;>split at hb'<;>first
          |contradiction
          |(simp[binOp,abe])
        ·split at hb
         ·rcases hop with rfl|rfl<;>simp[binOp,abe]
         ·contradiction
       rw[hshape op hc.1,e1]
       simp[abe]
      ·contradiction
     ·contradiction
    ·contradiction
   ·rename_i hc0
    split at h
    ·rename_i hc
     injection h with h
     subst h
     simp only[PIR.ev]at hv
     split at hv
     ·rename_i x1 hx1
      split at hv
      ·rename_i y1 hy1
       split at hv
       ·rename_i b hb
        injection hv with hv
        subst hv
        obtain⟨h1,h2⟩:=abU R hu hx1
        obtain⟨h3,h4⟩:=abU R hv' hy1
        obtain⟨e1,e2⟩:=aRE (P:=P) (φ:=φ) (X:=x) (Y:=y) hb rfl w
        refine⟨?_,by simp[sc]⟩
        simp only[execOp]
        apply aqA
        rw[aa0,h1,h3,e2,aay]
        have hop:op= .eql∨op= .neq:=by
         rw[aa6,afU]at hc
         rcases hc.1 with h|h
         ·exact .inl (beq_iff_eq.1 h)
         ·exact .inr (beq_iff_eq.1 h)
        have hshape:∀op,op=BinOp.eql∨op= .neq→(binOp op t (abe φ x1) (abe φ y1)).run P w=((Op.equal t (abe φ x1) (abe φ y1)).run P w).andThen fun b w'=> .ok (.bool (if op== .neq then !b else b)) w':=by
         intro op hop
         unfold aeq at hb
         rcases hop with rfl|rfl<;>split at hb<;>first
          |contradiction
          |(simp[binOp,abe])
        rw[hshape op hop,e1]
        simp[abe]
       ·contradiction
      ·contradiction
     ·contradiction
    ·injection h with h
     subst h
     simp only[PIR.ev]at hv
     split at hv
     ·rename_i x1 hx1
      split at hv
      ·rename_i y1 hy1
       obtain⟨h1,h2⟩:=abU R hu hx1
       obtain⟨h3,h4⟩:=abU R hv' hy1
       obtain⟨e1,e2,e3⟩:=a09 (P:=P) (t:=t) (X:=x) (Y:=y) hv φ dm w
       refine⟨?_,e3⟩
       simp only[execOp]
       apply aqA
       rw[aa0,h1,h3,e1,aay,e2]
      ·contradiction
     ·contradiction
  ·contradiction
 case unOp op t x=>
  cases op<;>(try (simp[aqw]at hold;done))
  simp only[aqw,ac1]at hold
  clear h
  have h:=hold
  obtain⟨u,hu,rfl⟩:=h
  simp only[PIR.ev]at hv
  split at hv
  ·rename_i b he
   injection hv with hv
   subst hv
   obtain⟨h1,h2⟩:=abU R hu he
   exact⟨by simp[execOp,h1,abe,Op.unary],by simp[sc]⟩
  ·contradiction
 case convert src dst x=>
  split at h
  ·rename_i u ds k hu hs hd
   injection h with h
   subst h
   simp only[PIR.ev]at hv
   split at hv
   ·rename_i k' n he
    injection hv with hv
    subst hv
    obtain⟨h1,h2⟩:=abU R hu he
    exact⟨by simp[execOp,h1,abe,convert,run_underlying hs,run_underlying hd,Conv.intToInt],by simp[sc]⟩
   ·contradiction
  ·contradiction
 case makeInterface t x=>
  split at h
  ·rename_i hc
   simp only[ac1]at h
   obtain⟨u,hu,rfl⟩:=h
   simp only[PIR.ev]at hv
   split at hv
   ·rename_i v' he
    injection hv with hv
    subst hv
    obtain⟨h1,h2⟩:=abU R hu he
    exact⟨by simp[execOp,h1,abe,run_makeInterface w t _ hc],h2⟩
   ·contradiction
  ·contradiction
 case makeFunc fn first cap=>
  cases fn<;>(try (simp[aqw]at hold;done))
  simp only[aqw]at hold
  clear h
  have h:=hold
  split at h
  ·rename_i u v' hu hv'
   injection h with h
   subst h
   simp only[PIR.ev]at hv
   split at hv
   ·rename_i p hp
    split at hv
    ·rename_i q hq
     injection hv with hv
     subst hv
     obtain⟨h1,h2⟩:=aq6 R hu hp
     obtain⟨h3,h4⟩:=aq6 R hv' hq
     refine⟨?_,h2,h4⟩
     have e1:first.map a.eval=(ab2 φ p).toArray:=by rw[←h1];apply ac4.1;rw[Array.toList_map]
     have e2:cap.map a.eval=(ab2 φ q).toArray:=by rw[←h3];apply ac4.1;rw[Array.toList_map]
     simp[execOp,Instr.makeFunc,e1,e2,abe]
    ·contradiction
   ·contradiction
  ·contradiction
 case slice t x lo hi mx=>
  cases mx with
  |some m=>simp[aqw]at hold
  |none=>
   simp only[aqw]at hold
   clear h
   have h:=hold
   split at h
   ·rename_i u l hh e hu hl hh' ht
    split at h
    ·rename_i s hs
     injection h with h
     subst h
     obtain⟨e1,e2⟩:=a6w (P:=P) hu hl hh' ht hs R hv w
     refine⟨?_,e2⟩
     simp only[execOp]
     apply aqA
     exact e1
    ·contradiction
   ·rename_i u l hh hu hl hh' ht
    injection h with h
    subst h
    obtain⟨e1,e2⟩:=a1c (P:=P) hu hl hh' ht R hv w
    refine⟨?_,e2⟩
    simp only[execOp]
    apply aqA
    exact e1
   ·contradiction
 case fieldAddr s x i=>
  split at h
  ·rename_i fs u hs hu
   split at h
   ·rename_i f hf
    split at h
    ·rename_i n hn
     split at h
     ·contradiction
     ·rename_i hn0
      injection h with h
      subst h
      simp only[PIR.ev]at hv
      split at hv
      ·rename_i b o' he
       injection hv with hv
       subst hv
       obtain⟨h1,h2⟩:=abU R hu he
       refine⟨?_,h2⟩
       simp only[execOp]
       apply aqA
       simp[Instr.fieldAt,run_underlying hs,hf,h1,abe,Instr.sureAddr,fieldPlace,aeb hn,hn0,agO,agI]
      ·contradiction
    ·contradiction
   ·contradiction
  ·contradiction
 case field t x i=>
  split at h
  ·rename_i fs u hs hu
   split at h
   ·rename_i f hf
    split at h
    ·rename_i n hg hn
     injection h with h
     subst h
     simp only[PIR.ev]at hv
     split at hv
     ·rename_i l he
      obtain⟨h1,h2⟩:=abU R hu he
      obtain⟨e1,e2⟩:=aAZ (φ:=φ) hg hn (by simpa using hv) h2 w
      refine⟨?_,e2⟩
      simp only[execOp]
      apply aqA
      simp[Instr.field,run_underlying hs,hf,h1,abe,asAgg,e1]
     ·contradiction
    ·rename_i n hg hn
     injection h with h
     subst h
     simp only[PIR.ev]at hv
     split at hv
     ·rename_i l he
      obtain⟨h1,h2⟩:=abU R hu he
      obtain⟨e1,e2⟩:=aAZ (φ:=φ) hg hn (by simpa using hv) h2 w
      refine⟨?_,e2⟩
      simp only[execOp]
      apply aqA
      simp[Instr.field,run_underlying hs,hf,h1,abe,asAgg,e1]
     ·contradiction
    ·contradiction
   ·contradiction
  ·contradiction
 case indexAddr t x i=>
  split at h
  ·rename_i e u y ht hu hy
   split at h
   ·rename_i s hs
    injection h with h
    subst h
    obtain⟨e1,e2⟩:=bcO (P:=P) hu hy ht hs R hv w
    exact⟨by simp only[execOp];exact aqA P _ w e1,e2⟩
   ·contradiction
  ·rename_i n e u y ht hu hy
   split at h
   ·rename_i s hs
    injection h with h
    subst h
    obtain⟨e1,e2⟩:=bcR (P:=P) hu hy ht hs R hv w
    exact⟨by simp only[execOp];exact aqA P _ w e1,e2⟩
   ·contradiction
  ·contradiction
 case index t x i=>
  split at h
  ·rename_i u y ht hu hy
   injection h with h
   subst h
   obtain⟨e1,e2⟩:=bsP (P:=P) hu hy ht R hv w
   exact⟨by simp only[execOp];exact aqA P _ w e1,e2⟩
  ·rename_i n e u y ht hu hy
   split at h
   ·rename_i g s hg hs
    injection h with h
    subst h
    obtain⟨e1,e2⟩:=bsS (P:=P) hu hy ht hg hs R hv w
    exact⟨by simp only[execOp];exact aqA P _ w e1,e2⟩
   ·contradiction
  ·contradiction
 case extract x i=>
  simp only[ac1]at h
  obtain⟨u,hu,rfl⟩:=h
  simp only[PIR.ev]at hv
  split at hv
  ·rename_i l he
   obtain⟨h1,h2⟩:=abU R hu he
   refine⟨?_,aoL h2 hv⟩
   have:(ab2 φ l)[i]? =some (abe φ v):=by rw[agL,hv];rfl
   simp[execOp,h1,abe,Instr.extract,this]
  ·contradiction
 case typeAssert x xt t ok=>
  split at h
  ·contradiction
  ·rename_i d u z hni ht hu hz
   injection h with h
   subst h
   obtain⟨e1,e2⟩:=bcS (P:=P) (xt:=xt) hu ht (fun m hm=>hni m hm) hz R hv w
   exact⟨by simp only[execOp];exact aqA P _ w e1,e2⟩
  ·contradiction
 case call c=>
  obtain⟨callee,args,argTypes⟩:=c
  cases callee with
  |value f=>simp at h
  |invoke r m=>simp at h
  |builtin bi=>
  cases bi<;>(try (simp at h;done))
  case max=>
   simp only[]at h
   split at h
   ·rename_i x y hx
    have hx':args= #[x,y]:=by apply ac4.1;rw[hx]
    subst hx'
    split at h
    ·rename_i u v' hu hv'
     injection h with h
     subst h
     simp only[PIR.ev]at hv
     split at hv
     ·rename_i k a' he
      split at hv
      ·rename_i k' b' he'
       injection hv with hv
       subst hv
       obtain⟨h1,_⟩:=abU R hu he
       obtain⟨h3,_⟩:=abU R hv' he'
       exact⟨by simp[execOp,resolve,invoke,builtin,h1,h3,abe,run_max_int2],by simp[sc]⟩
      ·contradiction
     ·contradiction
    ·contradiction
   ·contradiction
  case min=>
   simp only[]at h
   split at h
   ·rename_i x y hx
    have hx':args= #[x,y]:=by apply ac4.1;rw[hx]
    subst hx'
    split at h
    ·rename_i u v' hu hv'
     injection h with h
     subst h
     simp only[PIR.ev]at hv
     split at hv
     ·rename_i k a' he
      split at hv
      ·rename_i k' b' he'
       injection hv with hv
       subst hv
       obtain⟨h1,_⟩:=abU R hu he
       obtain⟨h3,_⟩:=abU R hv' he'
       exact⟨by simp[execOp,resolve,invoke,builtin,h1,h3,abe,run_min_int2],by simp[sc]⟩
      ·contradiction
     ·contradiction
    ·contradiction
   ·contradiction
  simp only[]at h
  split at h
  ·rename_i x t hx ht
   have hx':args= #[x]:=by apply ac4.1;rw[hx]
   have ht':argTypes= #[t]:=by apply ac4.1;rw[ht]
   subst hx'
   subst ht'
   split at h
   ·rename_i e u hd hu
    injection h with h
    subst h
    simp only[PIR.ev]at hv
    split at hv
    ·rename_i b o' d n c he
     injection hv with hv
     subst hv
     obtain⟨h1,h2⟩:=abU R hu he
     exact⟨by simp[execOp,resolve,invoke,builtin,h1,abe,Builtin.len_,run_underlying hd,goInt],by simp[sc]⟩
    ·rename_i he
     injection hv with hv
     subst hv
     obtain⟨h1,h2⟩:=abU R hu he
     exact⟨by simp[execOp,resolve,invoke,builtin,h1,abe,Builtin.len_,run_underlying hd,goInt],by simp[sc]⟩
    ·contradiction
   ·rename_i u hd hu
    injection h with h
    subst h
    simp only[PIR.ev]at hv
    split at hv
    ·rename_i l n he
     injection hv with hv
     subst hv
     obtain⟨h1,h2⟩:=abU R hu he
     exact⟨by simp[execOp,resolve,invoke,builtin,h1,abe,Builtin.len_,run_underlying hd,goInt,aob],by simp[sc]⟩
    ·contradiction
   ·contradiction
  ·contradiction
end
end
end Ex
end
end Go.Proofs.YtfehlbepjmmkeaaGreatDoor
