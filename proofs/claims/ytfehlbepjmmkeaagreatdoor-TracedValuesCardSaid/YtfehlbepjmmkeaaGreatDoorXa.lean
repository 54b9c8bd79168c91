/-
  DERIVED. An abstract machine, and that its runs are runs of the model: part 1 of 11. No condition.
-/
import Derived.Orders
import Derived.Recover
import Derived.Below
import Derived.Laws.Strings
import Derived.Laws.Small
import Derived.Laws.Entries
import Derived.Laws.Build
import Derived.Laws.Cover3
import Derived.WalkSpells
namespace Go.Proofs.YtfehlbepjmmkeaaGreatDoor
namespace Ex
inductive AV where
  | bool (b : Bool)
  | int (k : IntKind) (n : Int)
  | str (len n : Nat)
  | ptr (b o : Nat)
  | pnil
  | slice (b o d n c : Nat)
  | snil
  | map (b : Nat)
  | mnil
  | func (f : Nat) (first cap : List AV)
  | fnil
  | iface (t : Nat) (v : AV)
  | inil
  | agg (l : List AV)
  | tup (l : List AV)
  | yld (l : Nat)
  deriving Inhabited
mutual
def avEq : AV → AV → Bool
  | .bool a, .bool b => a == b
  | .int k a, .int l b => k == l && a == b
  | .str l n, .str l' n' => l == l' && n == n'
  | .ptr b o, .ptr b' o' => b == b' && o == o'
  | .pnil, .pnil => true
  | .slice b o d n c, .slice b' o' d' n' c' => b == b' && o == o' && d == d' && n == n' && c == c'
  | .snil, .snil => true
  | .map b, .map b' => b == b'
  | .mnil, .mnil => true
  | .func f a c, .func f' a' c' => f == f' && avEqL a a' && avEqL c c'
  | .fnil, .fnil => true
  | .iface t v, .iface t' v' => t == t' && avEq v v'
  | .inil, .inil => true
  | .agg l, .agg l' => avEqL l l'
  | .tup l, .tup l' => avEqL l l'
  | .yld l, .yld l' => l == l'
  | _, _ => false
def avEqL : List AV → List AV → Bool
  | [], [] => true
  | v :: l, v' :: l' => avEq v v' && avEqL l l'
  | _, _ => false
end
mutual
theorem avEq_eq : ∀ {x y : AV}, avEq x y = true → x = y
  | .bool a, y, h => by cases y <;> simp_all [avEq]
  | .int k a, y, h => by cases y <;> simp_all [avEq]
  | .str l n, y, h => by cases y <;> simp_all [avEq]
  | .ptr b o, y, h => by cases y <;> simp_all [avEq]
  | .pnil, y, h => by cases y <;> simp_all [avEq]
  | .slice b o d n c, y, h => by cases y <;> simp_all [avEq]
  | .snil, y, h => by cases y <;> simp_all [avEq]
  | .map b, y, h => by cases y <;> simp_all [avEq]
  | .mnil, y, h => by cases y <;> simp_all [avEq]
  | .func f a c, y, h => by
    cases y with
    | func f' a' c' =>
      simp only [avEq, Bool.and_eq_true, beq_iff_eq] at h
      rw [h.1.1, avEqL_eq h.1.2, avEqL_eq h.2]
    | _ => simp [avEq] at h
  | .fnil, y, h => by cases y <;> simp_all [avEq]
  | .iface t v, y, h => by
    cases y with
    | iface t' v' =>
      simp only [avEq, Bool.and_eq_true, beq_iff_eq] at h
      rw [h.1, avEq_eq h.2]
    | _ => simp [avEq] at h
  | .inil, y, h => by cases y <;> simp_all [avEq]
  | .agg l, y, h => by
    cases y with
    | agg l' => simp only [avEq] at h; rw [avEqL_eq h]
    | _ => simp [avEq] at h
  | .tup l, y, h => by
    cases y with
    | tup l' => simp only [avEq] at h; rw [avEqL_eq h]
    | _ => simp [avEq] at h
  | .yld l, y, h => by cases y <;> simp_all [avEq]
theorem avEqL_eq : ∀ {l m : List AV}, avEqL l m = true → l = m
  | [], m, h => by cases m <;> simp_all [avEqL]
  | v :: l, m, h => by
    cases m with
    | nil => simp [avEqL] at h
    | cons v' m =>
      simp only [avEqL, Bool.and_eq_true] at h
      rw [avEq_eq h.1, avEqL_eq h.2]
end
mutual
theorem avEq_refl : ∀ x : AV, avEq x x = true
  | .bool _ | .int _ _ | .str _ _ | .ptr _ _ | .pnil | .slice _ _ _ _ _ | .snil | .map _ | .mnil | .fnil | .inil | .yld _ => by simp [avEq]
  | .func f a c => by simp [avEq, avEqL_refl a, avEqL_refl c]
  | .iface t v => by simp [avEq, avEq_refl v]
  | .agg l => by simp [avEq, avEqL_refl l]
  | .tup l => by simp [avEq, avEqL_refl l]
theorem avEqL_refl : ∀ l : List AV, avEqL l l = true
  | [] => rfl
  | v :: l => by simp [avEqL, avEq_refl v, avEqL_refl l]
end
instance : DecidableEq AV := fun x y => match h : avEq x y with
  | true => isTrue (avEq_eq h)
  | false => isFalse fun e => by rw [e, avEq_refl] at h; cases h
structure Loc where
  blk : Nat
  base : Nat
  ext : Nat
  deriving Inhabited
def strL (n : Nat) : Nat → List UInt8
  | 0 => []
  | l + 1 => UInt8.ofNat (n % 256) :: strL (n / 256) l
def strB (len n : Nat) : ByteArray := ⟨(strL n len).toArray⟩
mutual
def conc (φ : Nat → Loc) : AV → Value
  | .bool b => .bool b
  | .int k n => .int k n
  | .str l n => .string (strB l n)
  | .ptr b o => .pointer (some ⟨(φ b).blk, (φ b).base + o, none⟩)
  | .pnil => .pointer none
  | .slice b o d n c => .slice (some ⟨(φ b).blk, (φ b).base + (if c + (φ b).ext = 0 then d else o), none⟩) n (c + (φ b).ext)
  | .snil => .slice none 0 0
  | .map b => .map (some (φ b).blk)
  | .mnil => .map none
  | .func f a c => .func (.func f) (concL φ a).toArray (concL φ c).toArray
  | .fnil => .nilFunc
  | .iface t v => .iface t (conc φ v)
  | .inil => .nilIface
  | .agg l => .agg (concL φ l).toArray
  | .tup l => .tuple (concL φ l).toArray
  | .yld l => .func (.yield (φ l).blk) #[] #[]
def concL (φ : Nat → Loc) : List AV → List Value
  | [] => []
  | v :: l => conc φ v :: concL φ l
end
mutual
def sc (dm : Nat → Prop) : AV → Prop
  | .ptr b _ => dm b
  | .slice b _ _ _ _ => dm b
  | .map b => dm b
  | .yld b => dm b
  | .func _ a c => scL dm a ∧ scL dm c
  | .iface _ v => sc dm v
  | .agg l => scL dm l
  | .tup l => scL dm l
  | _ => True
def scL (dm : Nat → Prop) : List AV → Prop
  | [] => True
  | v :: l => sc dm v ∧ scL dm l
end
theorem concL_map (φ : Nat → Loc) (l : List AV) : concL φ l = l.map (conc φ) := by
  induction l with
  | nil => rfl
  | cons v l ih => simp [concL, ih]
theorem scL_iff (dm : Nat → Prop) (l : List AV) : scL dm l ↔ ∀ v ∈ l, sc dm v := by
  induction l with
  | nil => simp [scL]
  | cons v l ih => simp [scL, ih]
mutual
theorem sc_mono {dm dm' : Nat → Prop} (h : ∀ b, dm b → dm' b) : ∀ v : AV, sc dm v → sc dm' v
  | .bool _, _ | .int _ _, _ | .str _ _, _ | .pnil, _ | .snil, _ | .mnil, _ | .fnil, _ | .inil, _ => by simp [sc]
  | .ptr _ _, hv | .slice _ _ _ _ _, hv | .map _, hv | .yld _, hv => by simp only [sc] at hv ⊢; exact h _ hv
  | .func _ a c, hv => by simp only [sc] at hv ⊢; exact ⟨scL_mono h a hv.1, scL_mono h c hv.2⟩
  | .iface _ v, hv => by simp only [sc] at hv ⊢; exact sc_mono h v hv
  | .agg l, hv => by simp only [sc] at hv ⊢; exact scL_mono h l hv
  | .tup l, hv => by simp only [sc] at hv ⊢; exact scL_mono h l hv
theorem scL_mono {dm dm' : Nat → Prop} (h : ∀ b, dm b → dm' b) : ∀ l : List AV, scL dm l → scL dm' l
  | [], _ => trivial
  | v :: l, hv => ⟨sc_mono h v hv.1, scL_mono h l hv.2⟩
end
mutual
theorem conc_ext {φ φ' : Nat → Loc} {dm : Nat → Prop} (h : ∀ b, dm b → φ' b = φ b) : ∀ v : AV, sc dm v → conc φ' v = conc φ v
  | .bool _, _ | .int _ _, _ | .str _ _, _ | .pnil, _ | .snil, _ | .mnil, _ | .fnil, _ | .inil, _ => by simp [conc]
  | .ptr _ _, hv | .slice _ _ _ _ _, hv | .map _, hv | .yld _, hv => by simp only [sc] at hv; simp [conc, h _ hv]
  | .func _ a c, hv => by simp only [sc] at hv; simp [conc, concL_ext h a hv.1, concL_ext h c hv.2]
  | .iface _ v, hv => by simp only [sc] at hv; simp [conc, conc_ext h v hv]
  | .agg l, hv => by simp only [sc] at hv; simp [conc, concL_ext h l hv]
  | .tup l, hv => by simp only [sc] at hv; simp [conc, concL_ext h l hv]
theorem concL_ext {φ φ' : Nat → Loc} {dm : Nat → Prop} (h : ∀ b, dm b → φ' b = φ b) : ∀ l : List AV, scL dm l → concL φ' l = concL φ l
  | [], _ => rfl
  | v :: l, hv => by simp only [scL] at hv; simp [concL, conc_ext h v hv.1, concL_ext h l hv.2]
end
inductive T (α : Type) where
  | E
  | N (v : Option α) (l r : T α)
  deriving Inhabited
namespace T
variable {α : Type}
noncomputable def get (t : T α) (k : Nat) : Option α :=
  T.rec (motive := fun _ => Nat → Option α) (fun _ => none)
    (fun v _ _ gl gr k => Bool.rec (Bool.rec (gr (Nat.sub (Nat.div k 2) 1)) (gl (Nat.div k 2)) (Nat.beq (Nat.mod k 2) 1)) v (Nat.beq k 0)) t k
noncomputable def set (x : Option α) (f : Nat) (t : T α) (k : Nat) : T α :=
  Nat.rec (motive := fun _ => T α → Nat → T α) (fun _ _ => .E)
    (fun _ ih t k => T.rec (motive := fun _ => T α)
      (Bool.rec (Bool.rec (.N none .E (ih .E (Nat.sub (Nat.div k 2) 1))) (.N none (ih .E (Nat.div k 2)) .E) (Nat.beq (Nat.mod k 2) 1)) (.N x .E .E) (Nat.beq k 0))
      (fun v l r _ _ => Bool.rec (Bool.rec (.N v l (ih r (Nat.sub (Nat.div k 2) 1))) (.N v (ih l (Nat.div k 2)) r) (Nat.beq (Nat.mod k 2) 1)) (.N x l r) (Nat.beq k 0)) t) f t k
theorem beq_if {β : Type} (a b : Nat) (x y : β) : (Bool.rec x y (Nat.beq a b) : β) = if a = b then y else x := by
  by_cases h : a = b
  · subst h; rw [Nat.beq_refl]; simp
  · have : Nat.beq a b = false := by
      cases hb : Nat.beq a b with
      | false => rfl
      | true => exact absurd (Nat.eq_of_beq_eq_true hb) h
    rw [this, if_neg h]
theorem get_E (k : Nat) : (T.E : T α).get k = none := rfl
theorem get_N (v : Option α) (l r : T α) (k : Nat) :
    (T.N v l r).get k = if k = 0 then v else if k % 2 = 1 then l.get (k / 2) else r.get (k / 2 - 1) := by
  show (Bool.rec (Bool.rec (r.get (k / 2 - 1)) (l.get (k / 2)) (Nat.beq (k % 2) 1)) v (Nat.beq k 0) : Option α) = _
  rw [beq_if, beq_if]
theorem set_E (x : Option α) (f k : Nat) :
    set x (f + 1) .E k = if k = 0 then .N x .E .E else if k % 2 = 1 then .N none (set x f .E (k / 2)) .E else .N none .E (set x f .E (k / 2 - 1)) := by
  show (Bool.rec (Bool.rec (.N none .E (set x f .E (k / 2 - 1))) (.N none (set x f .E (k / 2)) .E) (Nat.beq (k % 2) 1)) (.N x .E .E) (Nat.beq k 0) : T α) = _
  rw [beq_if, beq_if]
theorem set_N (x v : Option α) (l r : T α) (f k : Nat) :
    set x (f + 1) (.N v l r) k = if k = 0 then .N x l r else if k % 2 = 1 then .N v (set x f l (k / 2)) r else .N v l (set x f r (k / 2 - 1)) := by
  show (Bool.rec (Bool.rec (.N v l (set x f r (k / 2 - 1))) (.N v (set x f l (k / 2)) r) (Nat.beq (k % 2) 1)) (.N x l r) (Nat.beq k 0) : T α) = _
  rw [beq_if, beq_if]
attribute [irreducible] get set
theorem get_set (x : Option α) : ∀ (f : Nat) (t : T α) (k j : Nat), k + 1 < 2 ^ f → (set x f t k).get j = if j = k then x else t.get j := by
  intro f
  induction f with
  | zero => intro t k j h; simp at h
  | succ f ih =>
    intro t k j h
    have h2 : 2 ^ (f + 1) = 2 * 2 ^ f := by rw [Nat.pow_succ]; omega
    have hodd : k % 2 = 1 → k / 2 + 1 < 2 ^ f ∨ k / 2 + 1 ≤ 2 ^ f := fun _ => .inr (by omega)
    cases t with
    | E =>
      rw [set_E]
      by_cases hk : k = 0
      · subst hk; rw [if_pos rfl, get_N]; by_cases hj : j = 0
        · simp [hj]
        · simp [hj, get_E]
      · rw [if_neg hk]
        by_cases h1 : k % 2 = 1
        · rw [if_pos h1, get_N]
          by_cases hj : j = 0
          · subst hj; simp [get_E]; omega
          · rw [if_neg hj]
            by_cases hj1 : j % 2 = 1
            · rw [if_pos hj1, ih _ _ _ (by omega), get_E, get_E]
              by_cases he : j = k
              · subst he; simp
              · rw [if_neg he, if_neg (by omega)]
            · rw [if_neg hj1, get_E, get_E, if_neg (by rintro rfl; exact hj1 h1)]
        · rw [if_neg h1, get_N]
          by_cases hj : j = 0
          · subst hj; simp [get_E]; omega
          · rw [if_neg hj]
            by_cases hj1 : j % 2 = 1
            · rw [if_pos hj1, get_E, get_E, if_neg (by rintro rfl; exact h1 hj1)]
            · rw [if_neg hj1, ih _ _ _ (by omega), get_E, get_E]
              by_cases he : j = k
              · subst he; simp
              · rw [if_neg he, if_neg (by omega)]
    | N v l r =>
      rw [set_N]
      by_cases hk : k = 0
      · subst hk; rw [if_pos rfl, get_N, get_N]; by_cases hj : j = 0
        · simp [hj]
        · simp [hj]
      · rw [if_neg hk]
        by_cases h1 : k % 2 = 1
        · rw [if_pos h1, get_N, get_N]
          by_cases hj : j = 0
          · subst hj; simp; omega
          · rw [if_neg hj, if_neg hj]
            by_cases hj1 : j % 2 = 1
            · rw [if_pos hj1, if_pos hj1, ih _ _ _ (by omega)]
              by_cases he : j = k
              · subst he; simp
              · rw [if_neg he, if_neg (by omega)]
            · rw [if_neg hj1, if_neg hj1, if_neg (by rintro rfl; exact hj1 h1)]
        · rw [if_neg h1, get_N, get_N]
          by_cases hj : j = 0
          · subst hj; simp; omega
          · rw [if_neg hj, if_neg hj]
            by_cases hj1 : j % 2 = 1
            · rw [if_pos hj1, if_pos hj1, if_neg (by rintro rfl; exact h1 hj1)]
            · rw [if_neg hj1, if_neg hj1, ih _ _ _ (by omega)]
              by_cases he : j = k
              · subst he; simp
              · rw [if_neg he, if_neg (by omega)]
end T
end Ex
end Go.Proofs.YtfehlbepjmmkeaaGreatDoor
namespace Go.Proofs.YtfehlbepjmmkeaaGreatDoor
namespace Ex
theorem strL_length : ∀ (l n : Nat), (strL n l).length = l
  | 0, _ => rfl
  | l + 1, n => by simp [strL, strL_length l]
theorem u8_eq (a b : Nat) : UInt8.ofNat (a % 256) = UInt8.ofNat (b % 256) ↔ a % 256 = b % 256 := by
  constructor
  · intro h
    have := congrArg UInt8.toNat h
    simpa using this
  · intro h; rw [h]
theorem mod_pow_split (a b l : Nat) : a % 256 ^ (l + 1) = b % 256 ^ (l + 1) ↔ a % 256 = b % 256 ∧ a / 256 % 256 ^ l = b / 256 % 256 ^ l := by
  have key : ∀ n : Nat, n % 256 ^ (l + 1) = n % 256 + 256 * (n / 256 % 256 ^ l) := by
    intro n
    rw [Nat.pow_succ, Nat.mul_comm, Nat.mod_mul]
  rw [key a, key b]
  have h1 := Nat.mod_lt a (show 256 > 0 by omega)
  have h2 := Nat.mod_lt b (show 256 > 0 by omega)
  omega
theorem strL_eq : ∀ (l a b : Nat), strL a l = strL b l ↔ a % 256 ^ l = b % 256 ^ l
  | 0, a, b => by simp [strL, Nat.mod_one]
  | l + 1, a, b => by rw [mod_pow_split]; simp only [strL, List.cons.injEq, u8_eq, strL_eq l]
theorem strL_append : ∀ (la a b lb : Nat), strL (a % 256 ^ la + b * 256 ^ la) (la + lb) = strL a la ++ strL b lb
  | 0, a, b, lb => by simp [strL, Nat.mod_one]
  | la + 1, a, b, lb => by
    have hk : a % 256 ^ (la + 1) = a % 256 + 256 * (a / 256 % 256 ^ la) := by rw [Nat.pow_succ, Nat.mul_comm (256 ^ la), Nat.mod_mul]
    have hp : b * 256 ^ (la + 1) = 256 * (b * 256 ^ la) := by rw [Nat.pow_succ]; simp [Nat.mul_comm, Nat.mul_left_comm]
    have e : a % 256 ^ (la + 1) + b * 256 ^ (la + 1) = a % 256 + 256 * (a / 256 % 256 ^ la + b * 256 ^ la) := by rw [hk, hp]; omega
    rw [show la + 1 + lb = (la + lb) + 1 by omega, e]
    have h1 := Nat.mod_lt a (show 256 > 0 by omega)
    simp only [strL, List.cons_append, List.cons.injEq]
    refine ⟨?_, ?_⟩
    · rw [show (a % 256 + 256 * (a / 256 % 256 ^ la + b * 256 ^ la)) % 256 = a % 256 by omega]
    · rw [show (a % 256 + 256 * (a / 256 % 256 ^ la + b * 256 ^ la)) / 256 = a / 256 % 256 ^ la + b * 256 ^ la by omega]
      exact strL_append la (a / 256) b lb
theorem strL_drop : ∀ (k n l : Nat), strL (n / 256 ^ k) (l - k) = (strL n l).drop k
  | 0, n, l => by simp
  | k + 1, n, 0 => by simp [strL]
  | k + 1, n, l + 1 => by
    simp only [strL, List.drop_succ_cons]
    rw [← strL_drop k (n / 256) l, Nat.div_div_eq_div_mul, Nat.pow_succ, Nat.mul_comm (256 ^ k), Nat.add_sub_add_right]
theorem strL_take : ∀ (k n l : Nat), k ≤ l → strL n k = (strL n l).take k
  | 0, n, l, _ => by simp [strL]
  | k + 1, n, 0, h => by omega
  | k + 1, n, l + 1, h => by simp only [strL, List.take_succ_cons]; rw [strL_take k _ l (by omega)]
theorem strL_get : ∀ (i n l : Nat), i < l → (strL n l)[i]? = some (UInt8.ofNat (n / 256 ^ i % 256))
  | 0, n, l + 1, _ => by simp [strL]
  | i + 1, n, l + 1, h => by
    simp only [strL, List.getElem?_cons_succ]
    rw [strL_get i _ l (by omega), Nat.div_div_eq_div_mul, Nat.pow_succ, Nat.mul_comm]
  | i, n, 0, h => by omega
theorem strB_size (l n : Nat) : (strB l n).size = l := by
  show (strL n l).toArray.size = l
  simp [strL_length]
theorem strB_toList (l n : Nat) : (strB l n).toList = strL n l := ByteArray.toList_mk _
theorem strB_get (l n i : Nat) (h : i < l) : (strB l n)[i]? = some (UInt8.ofNat (n / 256 ^ i % 256)) := by
  have h1 := strL_get i n l h
  have hs : i < (strB l n).size := by rw [strB_size]; exact h
  rw [getElem?_pos (strB l n) i hs]
  congr 1
  show (strL n l).toArray[i]'(by simpa [strL_length] using h) = _
  have : (strL n l)[i]'(by rw [strL_length]; exact h) = UInt8.ofNat (n / 256 ^ i % 256) := by
    have h2 : (strL n l)[i]? = some ((strL n l)[i]'(by rw [strL_length]; exact h)) := List.getElem?_eq_getElem _
    rw [h1] at h2
    injection h2 with h2
    exact h2.symm
  simpa using this
def strEq (la a lb b : Nat) : Bool := Nat.beq la lb && Nat.beq (a % 256 ^ la) (b % 256 ^ la)
theorem strEq_iff (la a lb b : Nat) : strEq la a lb b = true ↔ strB la a = strB lb b := by
  unfold strEq
  have hb : ∀ x y : Nat, Nat.beq x y = true ↔ x = y := fun x y => ⟨Nat.eq_of_beq_eq_true, fun h => by subst h; exact Nat.beq_refl _⟩
  simp only [Bool.and_eq_true, hb, strB]
  constructor
  · rintro ⟨rfl, h⟩
    rw [(strL_eq _ _ _).2 h]
  · intro h
    have h1 : strL a la = strL b lb := by
      have := congrArg (fun s : ByteArray => s.data.toList) h
      simpa using this
    have h2 : la = lb := by have := congrArg List.length h1; simpa [strL_length] using this
    subst h2
    exact ⟨rfl, (strL_eq _ _ _).1 h1⟩
theorem strEq_list (la a lb b : Nat) : ((strB la a).toList == (strB lb b).toList) = strEq la a lb b := by
  rw [strB_toList, strB_toList, Bool.eq_iff_iff, strEq_iff, beq_iff_eq]
  constructor
  · intro h; unfold strB; rw [h]
  · intro h
    have := congrArg (fun s : ByteArray => s.data.toList) h
    simpa [strB] using this
theorem strB_append (la a lb b : Nat) : strB la a ++ strB lb b = strB (la + lb) (a % 256 ^ la + b * 256 ^ la) := by
  have : (strB la a ++ strB lb b).data.toList = (strB (la + lb) (a % 256 ^ la + b * 256 ^ la)).data.toList := by
    show (ByteArray.append _ _).data.toList = _
    simp [strB, strL_append]
  have h2 := Array.toList_inj.1 this
  cases h : strB la a ++ strB lb b
  rw [h] at h2
  simp only at h2
  rw [h2]
theorem strB_extract (l n lo hi : Nat) (_h1 : lo ≤ hi) (h2 : hi ≤ l) : (strB l n).extract lo hi = strB (hi - lo) (n / 256 ^ lo) := by
  have : ((strB l n).extract lo hi).data.toList = (strB (hi - lo) (n / 256 ^ lo)).data.toList := by
    rw [ByteArray.data_extract]
    simp only [strB, List.extract_toArray]
    rw [strL_drop lo n hi, strL_take hi n l h2]
    simp [List.drop_take]
  have h3 := Array.toList_inj.1 this
  cases h : (strB l n).extract lo hi
  rw [h] at h3
  simp only at h3
  rw [h3]
def strN : List UInt8 → Nat
  | [] => 0
  | b :: l => b.toNat + 256 * strN l
theorem strL_strN : ∀ l : List UInt8, strL (strN l) l.length = l
  | [] => rfl
  | b :: l => by
    have h := b.toNat_lt
    simp only [strN, List.length_cons, strL]
    rw [show (b.toNat + 256 * strN l) % 256 = b.toNat by omega, show (b.toNat + 256 * strN l) / 256 = strN l by omega, strL_strN l]
    simp
theorem strB_strN (s : ByteArray) : strB s.data.toList.length (strN s.data.toList) = s := by
  unfold strB
  rw [strL_strN]
end Ex
end Go.Proofs.YtfehlbepjmmkeaaGreatDoor
namespace Go.Proofs.YtfehlbepjmmkeaaGreatDoor
open Go.RowKit
namespace Ex
noncomputable section
def absS : Value → Option AV
  | .bool b => some (.bool b)
  | .int k n => some (.int k n)
  | .string s => some (.str s.data.toList.length (strN s.data.toList))
  | .pointer none => some .pnil
  | .slice none 0 0 => some .snil
  | .map none => some .mnil
  | .nilFunc => some .fnil
  | .nilIface => some .inil
  | _ => none
def AV.one : AV → Bool
  | .agg _ | .tup _ => false
  | _ => true
theorem conc_one (φ : Nat → Loc) (v : AV) (h : v.one = true) : (conc φ v).oneCell' = true := by cases v <;> first | rfl | simp [AV.one] at h
theorem absS_spec {v : Value} {x : AV} (h : absS v = some x) (φ : Nat → Loc) (dm : Nat → Prop) : conc φ x = v ∧ sc dm x ∧ x.one = true := by
  unfold absS at h
  split at h <;> first | (injection h with h; subst h; refine ⟨?_, ?_, rfl⟩ <;> simp [conc, sc, strB_strN, -Array.length_toList]) | cases h
def absL : List Value → Option (List AV)
  | [] => some []
  | v :: l => match absS v, absL l with
    | some x, some y => some (x :: y)
    | _, _ => none
theorem absL_spec : ∀ {l : List Value} {x : List AV}, absL l = some x → ∀ (φ : Nat → Loc) (dm : Nat → Prop), concL φ x = l ∧ scL dm x ∧ ∀ v ∈ x, v.one = true
  | [], x, h, φ, dm => by injection h with h; subst h; exact ⟨rfl, trivial, by simp⟩
  | v :: l, x, h, φ, dm => by
    unfold absL at h
    split at h
    · rename_i y z h1 h2
      injection h with h
      subst h
      obtain ⟨a1, a2, a3⟩ := absS_spec h1 φ dm
      obtain ⟨b1, b2, b3⟩ := absL_spec h2 φ dm
      exact ⟨by simp [concL, a1, b1], ⟨a2, b2⟩, by simp [a3]; exact b3⟩
    · cases h
def zeroOf (P : Program) (t : TypeId) : Option (List AV) :=
  match P.info? t with
  | some i => match i.zero with
    | some z => absL z.cells.toList
    | none => none
  | none => none
theorem zeroOf_spec {P : Program} {t : TypeId} {l : List AV} (h : zeroOf P t = some l) :
    ∃ i z, P.info? t = some i ∧ i.zero = some z ∧ ∀ (φ : Nat → Loc) (dm : Nat → Prop), (concL φ l).toArray = z.cells ∧ scL dm l ∧ ∀ v ∈ l, v.one = true := by
  unfold zeroOf at h
  split at h
  · rename_i i hi
    split at h
    · rename_i z hz
      refine ⟨i, z, hi, hz, fun φ dm => ?_⟩
      obtain ⟨h1, h2, h3⟩ := absL_spec h φ dm
      exact ⟨by rw [h1], h2, h3⟩
    · cases h
  · cases h
inductive Od where
  | t (n : Nat)
  | c (v : AV)
  deriving Inhabited, DecidableEq
def Od.ev (ρ : Nat → Option AV) : Od → Option AV
  | .t n => ρ n
  | .c v => some v
abbrev GMAX : Nat := 64
def odOf : Operand → Option Od
  | .tmp t => some (.t t)
  | .const (.agg cs) => (absL cs.toList).map fun l => .c (.agg l)
  | .const v => (absS v).map .c
  | .func f => some (.c (.func f [] []))
  | .global g => if g < GMAX then some (.c (.ptr g 0)) else none
def odsOf : List Operand → Option (List Od)
  | [] => some []
  | x :: l => match odOf x, odsOf l with
    | some y, some z => some (y :: z)
    | _, _ => none
def evs (ρ : Nat → Option AV) : List Od → Option (List AV)
  | [] => some []
  | x :: l => match x.ev ρ with
    | some v => match evs ρ l with
      | some r => some (v :: r)
      | none => none
    | none => none
structure RR (φ : Nat → Loc) (dm : Nat → Prop) (ρ : Nat → Option AV) (a : Act) : Prop where
  reg : ∀ t v, ρ t = some v → sc dm v ∧ a.tmps.getD t undef = conc φ v
  glob : ∀ g, g < GMAX → dm g ∧ φ g = ⟨g, 0, 0⟩
section
variable {φ : Nat → Loc} {dm : Nat → Prop} {ρ : Nat → Option AV} {a : Act}
theorem od_spec (R : RR φ dm ρ a) {x : Operand} {d : Od} {v : AV} (h : odOf x = some d) (hv : d.ev ρ = some v) : a.eval x = conc φ v ∧ sc dm v := by
  cases x with
  | tmp t =>
    injection h with h
    subst h
    exact ⟨(R.reg t v hv).2, (R.reg t v hv).1⟩
  | const c =>
    unfold odOf at h
    split at h
    · rename_i heq; cases heq
    · rename_i cs heq
      injection heq with heq
      subst heq
      simp only [Option.map_eq_some_iff] at h
      obtain ⟨y, hy, rfl⟩ := h
      injection hv with hv
      subst hv
      obtain ⟨h1, h2, _⟩ := absL_spec hy φ dm
      exact ⟨by simp [Act.eval, conc, h1], h2⟩
    · rename_i heq
      injection heq with heq
      subst heq
      simp only [Option.map_eq_some_iff] at h
      obtain ⟨y, hy, rfl⟩ := h
      injection hv with hv
      subst hv
      obtain ⟨h1, h2, _⟩ := absS_spec hy φ dm
      exact ⟨h1.symm, h2⟩
    · rename_i heq; cases heq
    · rename_i heq; cases heq
  | func f =>
    injection h with h
    subst h
    injection hv with hv
    subst hv
    exact ⟨by simp [Act.eval, conc, concL], by simp [sc, scL]⟩
  | global g =>
    rw [show odOf (.global g) = if g < GMAX then some (.c (.ptr g 0)) else none from rfl] at h
    split at h
    · rename_i hg
      injection h with h
      subst h
      injection hv with hv
      subst hv
      obtain ⟨h1, h2⟩ := R.glob g hg
      exact ⟨by simp [Act.eval, conc, h2], h1⟩
    · contradiction
theorem ods_spec (R : RR φ dm ρ a) : ∀ {l : List Operand} {d : List Od} {v : List AV}, odsOf l = some d → evs ρ d = some v → l.map a.eval = concL φ v ∧ scL dm v
  | [], d, v, h, hv => by
    injection h with h; subst h
    injection hv with hv; subst hv
    exact ⟨rfl, trivial⟩
  | x :: l, d, v, h, hv => by
    unfold odsOf at h
    split at h
    · rename_i y z h1 h2
      injection h with h; subst h
      unfold evs at hv
      split at hv
      · rename_i u hu
        split at hv
        · rename_i r hr
          injection hv with hv; subst hv
          obtain ⟨a1, a2⟩ := od_spec R h1 hu
          obtain ⟨b1, b2⟩ := ods_spec R h2 hr
          exact ⟨by simp [concL, a1, b1], ⟨a2, b2⟩⟩
        · cases hv
      · cases hv
    · cases h
end
def bitsN (k : IntKind) (a : Int) : Nat := (a % ((2 ^ k.bits : Nat) : Int)).toNat
def abin (op : BinOp) (x y : AV) : Option AV :=
  match x, y with
  | .int k a, .int k' b =>
    match op with
    | .shl => if b < 0 then none else some (.int k (k.wrap (a * 2 ^ (min b.toNat k.bits))))
    | .shr => if b < 0 then none else some (.int k (a.fdiv (2 ^ (min b.toNat k.bits))))
    | .add => if k = k' then some (.int k (k.wrap (a + b))) else none
    | .sub => if k = k' then some (.int k (k.wrap (a - b))) else none
    | .mul => if k = k' then some (.int k (k.wrap (a * b))) else none
    | .quo => if k = k' ∧ b ≠ 0 then some (.int k (k.wrap (a.tdiv b))) else none
    | .rem => if k = k' ∧ b ≠ 0 then some (.int k (a.tmod b)) else none
    | .eql => if k = k' then some (.bool (a == b)) else none
    | .neq => if k = k' then some (.bool (a != b)) else none
    | .lss => if k = k' then some (.bool (a < b)) else none
    | .leq => if k = k' then some (.bool (a ≤ b)) else none
    | .gtr => if k = k' then some (.bool (a > b)) else none
    | .geq => if k = k' then some (.bool (a ≥ b)) else none
    | .and => if k = k' then some (.int k (k.wrap (Nat.land (bitsN k a) (bitsN k b) : Nat))) else none
    | .or => if k = k' then some (.int k (k.wrap (Nat.lor (bitsN k a) (bitsN k b) : Nat))) else none
    | .xor => if k = k' then some (.int k (k.wrap (Nat.xor (bitsN k a) (bitsN k b) : Nat))) else none
    | .andNot => if k = k' then some (.int k (k.wrap (Nat.land (bitsN k a) (2 ^ k.bits - 1 - bitsN k b) : Nat))) else none
  | .str l n, .str l' n' =>
    match op with
    | .eql => some (.bool (strEq l n l' n'))
    | .neq => some (.bool (!strEq l n l' n'))
    | .add => if l + l' < 1000000 then some (.str (l + l') (n % 256 ^ l + n' * 256 ^ l)) else none
    | _ => none
  | _, _ => none
theorem toNat_ofInt (k : IntKind) (a : Int) : (BitVec.ofInt k.bits a).toNat = bitsN k a := by
  simp [bitsN, BitVec.toNat_ofInt]
theorem abin_spec {P : Program} {op : BinOp} {t : TypeId} {x y v : AV} {X Y : Operand} (h : abin op x y = some v) (φ : Nat → Loc) (dm : Nat → Prop) (w : World) :
    (eqGuard op t X Y (conc φ x) (conc φ y)).run P w = .ok () w ∧ (binOp op t (conc φ x) (conc φ y)).run P w = .ok (conc φ v) w ∧ sc dm v := by
  unfold abin at h
  split at h
  · rename_i k a k' b
    split at h
    · split at h
      · contradiction
      · rename_i hb
        injection h with h
        subst h
        refine ⟨by simp [eqGuard], ?_, by simp [sc]⟩
        simp [conc, binOp, Op.shift, hb]
    · split at h
      · contradiction
      · rename_i hb
        injection h with h
        subst h
        refine ⟨by simp [eqGuard], ?_, by simp [sc]⟩
        simp [conc, binOp, Op.shift, hb]
    all_goals
      split at h
      case isFalse => contradiction
      case isTrue =>
        rename_i hk
        injection h with h
        subst h
        first
          | (obtain ⟨rfl, hb⟩ := hk
             refine ⟨by simp [conc, eqGuard_at_int], ?_, by simp [sc]⟩
             simp [conc, binOp, Op.intDiv, hb])
          | (subst hk
             refine ⟨by simp [conc, eqGuard_at_int], ?_, by simp [sc]⟩
             first
               | (simp [conc, binOp, Op.intArith, Op.intCmp]; done)
               | (simp only [conc, binOp, Op.intBits, ne_eq, not_true_eq_false, if_false, BitVec.toNat_and, BitVec.toNat_or, BitVec.toNat_xor, BitVec.toNat_not, toNat_ofInt]; rfl))
  · rename_i l n l' n'
    refine ⟨by simp [conc, eqGuard_at_string], ?_, ?_⟩
    · cases op <;> simp only [] at h <;> first
        | contradiction
        | (injection h with h; subst h; simp [conc, binOp, Op.stringOp, strEq_list])
        | (split at h
           · rename_i hl
             injection h with h; subst h
             have h2 : ¬ (((strB l n).size + (strB l' n').size : Nat) : Int) > IntKind.i64.max := by
               rw [strB_size, strB_size, IntKind.max_i64]; omega
             simp only [conc, binOp, Op.stringOp]
             rw [if_neg h2, strB_append]; rfl
           · contradiction)
    · cases op <;> simp only [] at h <;> first
        | contradiction
        | (injection h with h; subst h; simp [sc])
        | (split at h
           · injection h with h; subst h; simp [sc]
           · contradiction)
  · cases h
end
end Ex
end Go.Proofs.YtfehlbepjmmkeaaGreatDoor
namespace Go.Proofs.YtfehlbepjmmkeaaGreatDoor
open Go.RowKit
namespace Ex
noncomputable section
inductive PIR where
  | mov (x : Od)
  | pick (c a b : Od)
  | bin (op : BinOp) (x y : Od)
  | eqk (neg : Bool) (d : Nat) (cst : Bool) (x y : Od)
  | eqI (neg : Bool) (ts : List Nat) (x y : Od)
  | not (x : Od)
  | conv (k : IntKind) (x : Od)
  | mkI (t : Nat) (x : Od)
  | mkF (f : Nat) (first cap : List Od)
  | slice (size : Nat) (x : Od) (lo hi : Option Od)
  | sliceS (x : Od) (lo hi : Option Od)
  | fieldA (k : Nat) (x : Od)
  | field (agg : Option Nat) (off : Nat) (x : Od)
  | idxS (size : Nat) (x i : Od)
  | idxA (len size : Nat) (x i : Od)
  | ixS (x i : Od)
  | ixA (len size : Nat) (agg : Bool) (x i : Od)
  | ext (i : Nat) (x : Od)
  | tass (t : Nat) (ok : Bool) (zero : AV) (x : Od)
  | nilC (x : Od)
  | len (x : Od)
  | lenS (x : Od)
  | build (zero : List AV) (parts : List (Nat × Nat × Od))
  | mm (max : Bool) (x y : Od)
  deriving Inhabited, DecidableEq
def odO : Option Operand → Option (Option Od)
  | none => some none
  | some x => match odOf x with
    | some y => some (some y)
    | none => none
def aggB (P : Program) (t : TypeId) : Option Bool :=
  match P.underlying t with
  | some (.struct _) => some true
  | some (.array _ _) => some true
  | some _ => some false
  | none => none
def sizeT (P : Program) (t : TypeId) : Option Nat := (P.info? t).map (·.size)
def kindE (P : Program) (t : TypeId) : Nat :=
  match P.underlying t with
  | some .bool => 0
  | some (.pointer _) => 1
  | some (.slice _) => 2
  | some (.interface _) => 3
  | some (.func _ _ _) => 4
  | some (.map _ _) => 5
  | _ => 9
def intT (P : Program) (t : TypeId) : Bool :=
  match P.underlying t, P.info? t with
  | some (.int _), some i => i.comparable
  | _, _ => false
def intTs (P : Program) : List Nat := (List.range P.types.size).filter (intT P)
def isC : Operand → Bool
  | .const _ => true
  | _ => false
def zeroAV (P : Program) (t : TypeId) : Option AV :=
  match P.info? t with
  | some i => match i.zero with
    | some (.agg cs) => (absL cs.toList).map .agg
    | some z => absS z
    | none => none
  | none => none
def partsA (P : Program) (fs : Array Field) : List (Nat × Operand) → Option (List (Nat × Nat × Od))
  | [] => some []
  | (i, x) :: l => match fs[i]? with
    | some f => match sizeT P f.type, odOf x, partsA P fs l with
      | some s, some y, some r => some ((f.offset, s, y) :: r)
      | _, _, _ => none
    | none => none
def partsR (s : Nat) : List (Nat × Operand) → Option (List (Nat × Nat × Od))
  | [] => some []
  | (i, x) :: l => match odOf x, partsR s l with
    | some y, some r => some ((i * s, s, y) :: r)
    | _, _ => none
def sizesOk (P : Program) (fs : Array Field) : Bool := fs.toList.all fun f => (P.info? f.type).isSome
def prepP (P : Program) : Op → Option PIR
  | .move x => (odOf x).map .mov
  | .assign x => (odOf x).map .mov
  | .pick c a b => match odOf c, odOf a, odOf b with
    | some c, some a, some b => some (.pick c a b)
    | _, _, _ => none
  | .binOp op t x y _ => match odOf x, odOf y with
    | some u, some v =>
      if (op == .eql || op == .neq) && (kindE P t == 3 && !(isC x || isC y)) then some (.eqI (op == .neq) (intTs P) u v)
      else if (op == .eql || op == .neq) && kindE P t != 9 then some (.eqk (op == .neq) (kindE P t) (isC x || isC y) u v) else some (.bin op u v)
    | _, _ => none
  | .unOp .not _ x => (odOf x).map .not
  | .convert src dst x => match odOf x, P.underlying src, P.underlying dst with
    | some u, some _, some (.int k) => some (.conv k u)
    | _, _, _ => none
  | .makeInterface t x => if P.concrete t then (odOf x).map (.mkI t) else none
  | .makeFunc (.func f) first cap => match odsOf first.toList, odsOf cap.toList with
    | some u, some v => some (.mkF f u v)
    | _, _ => none
  | .slice t x lo hi none => match odOf x, odO lo, odO hi, P.underlying t with
    | some u, some l, some h, some (.slice e) => match sizeT P e with
      | some s => some (.slice s u l h)
      | none => none
    | some u, some l, some h, some .string => some (.sliceS u l h)
    | _, _, _, _ => none
  | .fieldAddr s x i => match P.underlying s, odOf x with
    | some (.struct fs), some u => match fs[i]? with
      | some f => match sizeT P f.type with
        | some n => if n = 0 then none else some (.fieldA f.offset u)
        | none => none
      | none => none
    | _, _ => none
  | .field t x i => match P.underlying t, odOf x with
    | some (.struct fs), some u => match fs[i]? with
      | some f => match aggB P f.type, sizeT P f.type with
        | some true, some n => some (.field (some n) f.offset u)
        | some false, some _ => some (.field none f.offset u)
        | _, _ => none
      | none => none
    | _, _ => none
  | .indexAddr t x i => match P.underlying t, odOf x, odOf i with
    | some (.slice e), some u, some v => match sizeT P e with
      | some s => some (.idxS s u v)
      | none => none
    | some (.array n e), some u, some v => match sizeT P e with
      | some s => some (.idxA n s u v)
      | none => none
    | _, _, _ => none
  | .index t x i => match P.underlying t, odOf x, odOf i with
    | some .string, some u, some v => some (.ixS u v)
    | some (.array n e), some u, some v => match aggB P e, sizeT P e with
      | some g, some s => some (.ixA n s g u v)
      | _, _ => none
    | _, _, _ => none
  | .extract x i => (odOf x).map (.ext i)
  | .typeAssert x _ t ok => match P.underlying t, odOf x, zeroAV P t with
    | some (.interface _), _, _ => none
    | some _, some u, some z => some (.tass t ok z u)
    | _, _, _ => none
  | .nilCheck x => (odOf x).map .nilC
  | .call c => match c.callee with
    | .builtin .len => match c.args.toList, c.argTypes.toList with
      | [x], [t] => match P.underlying t, odOf x with
        | some (.slice _), some u => some (.len u)
        | some .string, some u => some (.lenS u)
        | _, _ => none
      | _, _ => none
    | .builtin .max => match c.args.toList with
      | [x, y] => match odOf x, odOf y with
        | some u, some v => some (.mm true u v)
        | _, _ => none
      | _ => none
    | .builtin .min => match c.args.toList with
      | [x, y] => match odOf x, odOf y with
        | some u, some v => some (.mm false u v)
        | _, _ => none
      | _ => none
    | _ => none
  | .build t parts => match P.underlying t, zeroOf P t with
    | some (.struct fs), some z => if sizesOk P fs then (partsA P fs parts.toList).map (.build z) else none
    | some (.array _ e), some z => match sizeT P e with
      | some s => (partsR s parts.toList).map (.build z)
      | none => none
    | _, _ => none
  | _ => none
def AV.cells : AV → List AV
  | .agg l => l
  | v => [v]
def over : List AV → Nat → List AV → List AV
  | [], _, _ => []
  | x :: l, 0, vs => match vs with
    | [] => x :: l
    | v :: vs => v :: over l 0 vs
  | x :: l, o + 1, vs => x :: over l o vs
def fillA (ρ : Nat → Option AV) : List AV → List (Nat × Nat × Od) → Option (List AV)
  | z, [] => some z
  | z, (off, s, x) :: r => match x.ev ρ with
    | some v => if v.cells.length = s ∧ off + s ≤ z.length then fillA ρ (over z off v.cells) r else none
    | none => none
def bnd (ρ : Nat → Option AV) (x : Option Od) (dflt top : Nat) : Option Nat :=
  match x with
  | none => some dflt
  | some y => match y.ev ρ with
    | some (.int _ i) => if 0 ≤ i ∧ i ≤ top then some i.toNat else none
    | _ => none
def aeq (d : Nat) (cst : Bool) (x y : AV) : Option Bool :=
  match d, x, y with
  | 0, .bool a, .bool b => some (a == b)
  | 1, .pnil, .pnil => some true
  | 1, .pnil, .ptr _ _ => some false
  | 1, .ptr _ _, .pnil => some false
  | 2, .snil, .snil => some true
  | 2, .snil, .slice _ _ _ _ _ => some false
  | 2, .slice _ _ _ _ _, .snil => some false
  | 3, .iface t _, .iface u _ => if t = u then none else some false
  | 3, .inil, .inil => if cst then some true else none
  | 3, .inil, .iface _ _ => some false
  | 3, .iface _ _, .inil => some false
  | 4, .fnil, .fnil => some true
  | 4, .fnil, .func _ _ _ => some false
  | 4, .func _ _ _, .fnil => some false
  | 5, .mnil, .mnil => some true
  | 5, .mnil, .map _ => some false
  | 5, .map _, .mnil => some false
  | _, _, _ => none
def ieq (ts : List Nat) (x y : AV) : Option Bool :=
  match aeq 3 false x y with
  | some b => some b
  | none => match x, y with
    | .iface t (.int k a), .iface u (.int l b) => if t = u ∧ k = l ∧ ts.contains t = true then some (a == b) else none
    | _, _ => none
def partV (agg : Option Nat) (off : Nat) (l : List AV) : Option AV :=
  match agg with
  | some n => if off + n ≤ l.length then some (.agg ((l.drop off).take n)) else none
  | none => l[off]?
def PIR.ev (ρ : Nat → Option AV) : PIR → Option AV
  | .mov x => x.ev ρ
  | .pick c a b => match c.ev ρ with
    | some (.bool true) => a.ev ρ
    | some (.bool false) => b.ev ρ
    | _ => none
  | .bin op x y => match x.ev ρ with
    | some u => match y.ev ρ with
      | some v => abin op u v
      | none => none
    | none => none
  | .eqk neg d cst x y => match x.ev ρ with
    | some u => match y.ev ρ with
      | some v => match aeq d cst u v with
        | some b => some (.bool (if neg then !b else b))
        | none => none
      | none => none
    | none => none
  | .eqI neg ts x y => match x.ev ρ with
    | some u => match y.ev ρ with
      | some v => match ieq ts u v with
        | some b => some (.bool (if neg then !b else b))
        | none => none
      | none => none
    | none => none
  | .not x => match x.ev ρ with
    | some (.bool b) => some (.bool !b)
    | _ => none
  | .conv k x => match x.ev ρ with
    | some (.int _ n) => some (.int k (k.wrap n))
    | _ => none
  | .mkI t x => match x.ev ρ with
    | some v => some (.iface t v)
    | none => none
  | .mkF f u v => match evs ρ u with
    | some a => match evs ρ v with
      | some b => some (.func f a b)
      | none => none
    | none => none
  | .slice s x lo hi => match x.ev ρ with
    | some (.slice b o d n c) => match bnd ρ hi n c with
      | some h => match bnd ρ lo 0 h with
        | some l => if l ≤ c then some (.slice b (o + l * s) (if c = 0 then d else o) (h - l) (c - l)) else none
        | none => none
      | none => none
    | some .snil => match bnd ρ hi 0 0 with
      | some _ => match bnd ρ lo 0 0 with
        | some _ => some .snil
        | none => none
      | none => none
    | _ => none
  | .sliceS x lo hi => match x.ev ρ with
    | some (.str ln n) => match bnd ρ hi ln ln with
      | some h => match bnd ρ lo 0 h with
        | some l => some (.str (h - l) (n / 256 ^ l))
        | none => none
      | none => none
    | _ => none
  | .fieldA k x => match x.ev ρ with
    | some (.ptr b o) => some (.ptr b (o + k))
    | _ => none
  | .field agg off x => match x.ev ρ with
    | some (.agg l) => partV agg off l
    | _ => none
  | .idxS s x i => match x.ev ρ with
    | some (.slice b o _ n c) => match i.ev ρ with
      | some (.int _ j) => if 0 ≤ j ∧ j < n ∧ 0 < c then some (.ptr b (o + j.toNat * s)) else none
      | _ => none
    | _ => none
  | .idxA ln s x i => match x.ev ρ with
    | some (.ptr b o) => match i.ev ρ with
      | some (.int _ j) => if 0 ≤ j ∧ j < ln then some (.ptr b (o + j.toNat * s)) else none
      | _ => none
    | _ => none
  | .ixS x i => match x.ev ρ with
    | some (.str ln n) => match i.ev ρ with
      | some (.int _ j) => if 0 ≤ j ∧ j < ln then some (.int .u8 (((n / 256 ^ j.toNat % 256 : Nat)) : Int)) else none
      | _ => none
    | _ => none
  | .ixA ln s g x i => match x.ev ρ with
    | some (.agg l) => match i.ev ρ with
      | some (.int _ j) => if 0 ≤ j ∧ j < ln then partV (if g then some s else none) (j.toNat * s) l else none
      | _ => none
    | _ => none
  | .ext i x => match x.ev ρ with
    | some (.tup l) => l[i]?
    | _ => none
  | .tass t ok z x => match x.ev ρ with
    | some .inil => if ok then some (.tup [z, .bool false]) else none
    | some (.iface u v) => if u = t then some (if ok then .tup [v, .bool true] else v) else if ok then some (.tup [z, .bool false]) else none
    | _ => none
  | .nilC x => match x.ev ρ with
    | some (.ptr b o) => some (.ptr b o)
    | some (.func f a c) => some (.func f a c)
    | _ => none
  | .len x => match x.ev ρ with
    | some (.slice _ _ _ n _) => some (.int .i64 n)
    | some .snil => some (.int .i64 0)
    | _ => none
  | .lenS x => match x.ev ρ with
    | some (.str l _) => some (.int .i64 l)
    | _ => none
  | .mm mx x y => match x.ev ρ with
    | some (.int k a) => match y.ev ρ with
      | some (.int _ b) => some (.int k (if mx then (if b > a then b else a) else (if b < a then b else a)))
      | _ => none
    | _ => none
  | .build z parts => match fillA ρ z parts with
    | some l => some (.agg l)
    | none => none
end
end Ex
end Go.Proofs.YtfehlbepjmmkeaaGreatDoor
namespace Go.Proofs.YtfehlbepjmmkeaaGreatDoor
open Go.RowKit
namespace Ex
noncomputable section
section
variable {P : Program} {φ : Nat → Loc} {dm : Nat → Prop} {ρ : Nat → Option AV} {a : Act}
theorem sizeT_spec {t n : Nat} (h : sizeT P t = some n) (w : World) : (sizeOf t).run P w = .ok n w := by
  unfold sizeT at h
  cases hi : P.info? t with
  | none => rw [hi] at h; cases h
  | some i =>
    rw [hi] at h
    injection h with h
    simp [sizeOf, typeInfo, hi, h]
theorem aggB_spec {t : Nat} {b : Bool} (h : aggB P t = some b) (w : World) : (isAgg t).run P w = .ok b w := by
  unfold aggB at h
  cases hd : P.underlying t with
  | none => rw [hd] at h; cases h
  | some d =>
    rw [hd] at h
    cases d <;> (simp only [] at h; injection h with h; subst h; simp [isAgg, run_underlying hd])
theorem concL_getElem (l : List AV) (i : Nat) : (concL φ l)[i]? = l[i]?.map (conc φ) := by rw [concL_map]; simp
theorem concL_length (l : List AV) : (concL φ l).length = l.length := by rw [concL_map]; simp
theorem scL_get {l : List AV} (h : scL dm l) {i : Nat} {v : AV} (hv : l[i]? = some v) : sc dm v :=
  (scL_iff dm l).1 h v (List.mem_of_getElem? hv)
theorem scL_sub {l l' : List AV} (h : scL dm l) (hs : ∀ v ∈ l', v ∈ l) : scL dm l' := (scL_iff dm l').2 fun v hv => (scL_iff dm l).1 h v (hs v hv)
theorem concL_drop (l : List AV) (k : Nat) : concL φ (l.drop k) = (concL φ l).drop k := by simp [concL_map, List.map_drop]
theorem concL_take (l : List AV) (k : Nat) : concL φ (l.take k) = (concL φ l).take k := by simp [concL_map, List.map_take]
theorem concL_append (l m : List AV) : concL φ (l ++ m) = concL φ l ++ concL φ m := by simp [concL_map]
theorem part_spec {t : TypeId} {g : Bool} {s off : Nat} {l : List AV} {v : AV} (hg : aggB P t = some g) (hs : sizeT P t = some s)
    (hv : partV (if g then some s else none) off l = some v) (hl : scL dm l) (w : World) :
    (part t (concL φ l).toArray off).run P w = .ok (conc φ v) w ∧ sc dm v := by
  cases g with
  | true =>
    simp only [partV, if_true] at hv
    split at hv
    · rename_i hle
      injection hv with hv
      subst hv
      refine ⟨?_, scL_sub hl fun x hx => List.mem_of_mem_drop (List.mem_of_mem_take hx)⟩
      simp only [part, Sem.run_bind, aggB_spec hg, Result.andThen_ok, if_true, sizeT_spec hs, Sem.run_pure]
      simp only [conc, concL_take, concL_drop, List.extract_toArray, List.extract_eq_take_drop]
      rw [show off + s - off = s by omega]
    · contradiction
  | false =>
    simp only [partV] at hv
    have hv' : l[off]? = some v := hv
    refine ⟨?_, scL_get hl hv'⟩
    have : (concL φ l).toArray[off]? = some (conc φ v) := by rw [List.getElem?_toArray, concL_getElem, hv']; rfl
    simp only [part, Sem.run_bind, aggB_spec hg, Result.andThen_ok, Bool.false_eq_true, if_false, this, Sem.run_pure]
theorem bnd_spec (R : RR φ dm ρ a) {x : Option Operand} {d : Option Od} {dflt top n : Nat} (h : odO x = some d) (hv : bnd ρ d dflt top = some n) :
    (x = none ∧ n = dflt) ∨ ∃ y k, x = some y ∧ a.eval y = .int k n ∧ n ≤ top := by
  cases x with
  | none =>
    injection h with h
    subst h
    injection hv with hv
    exact .inl ⟨rfl, hv.symm⟩
  | some y =>
    simp only [odO] at h
    split at h
    · rename_i z hz
      injection h with h
      subst h
      simp only [bnd] at hv
      split at hv
      · rename_i k i hi
        split at hv
        · rename_i hb
          injection hv with hv
          obtain ⟨h1, _⟩ := od_spec R hz hi
          refine .inr ⟨y, k, rfl, ?_, by omega⟩
          rw [h1]
          show Value.int k i = _
          congr 1
          omega
        · contradiction
      · contradiction
    · contradiction
theorem run_sliceBound (k : IntKind) (n top : Nat) (code : BoundsCode) (h : n ≤ top) (w : World) : (Instr.sliceBound (.int k n) top code).run P w = .ok n w := by
  simp [Instr.sliceBound, asIntOf, h]
theorem bounds_spec (R : RR φ dm ρ a) {lo hi : Option Operand} {l h : Option Od} {n c top lv hv : Nat} (s : Bool) (hl : odO lo = some l) (hh : odO hi = some h)
    (e1 : bnd ρ h n top = some hv) (e2 : bnd ρ l 0 hv = some lv) (ht : top ≤ c) (w : World) :
    (Instr.sliceBounds s n c (lo.map a.eval) (hi.map a.eval) none).run P w = .ok (lv, hv, c) w := by
  rcases bnd_spec R hh e1 with ⟨rfl, rfl⟩ | ⟨y, k, rfl, hy, hle⟩ <;> rcases bnd_spec R hl e2 with ⟨rfl, rfl⟩ | ⟨z, j, rfl, hz, hle2⟩
  · simp [Instr.sliceBounds]
  · simp [Instr.sliceBounds, hz, run_sliceBound _ _ _ _ hle2]
  · simp [Instr.sliceBounds, hy, run_sliceBound _ _ _ _ (Nat.le_trans hle ht)]
  · simp [Instr.sliceBounds, hy, hz, run_sliceBound _ _ _ _ (Nat.le_trans hle ht), run_sliceBound _ _ _ _ hle2]
theorem over_get : ∀ (l : List AV) (o : Nat) (vs : List AV), o + vs.length ≤ l.length → ∀ i, (over l o vs)[i]? = if o ≤ i ∧ i < o + vs.length then vs[i - o]? else l[i]?
  | [], o, vs, h, i => by
    have : vs = [] := List.eq_nil_of_length_eq_zero (by simp only [List.length_nil] at h; omega)
    subst this
    simp [over]
  | x :: l, 0, [], h, i => by simp [over]
  | x :: l, 0, v :: vs, h, i => by
    cases i with
    | zero => simp [over]
    | succ i =>
      have ih := over_get l 0 vs (by simp at h ⊢; omega) i
      simp only [over, List.getElem?_cons_succ, ih, List.length_cons, Nat.zero_le, true_and, Nat.zero_add, Nat.sub_zero]
      by_cases hi : i < vs.length
      · rw [if_pos hi, if_pos (by omega)]
      · rw [if_neg hi, if_neg (by omega)]
  | x :: l, o + 1, vs, h, i => by
    cases i with
    | zero => simp [over]
    | succ i =>
      have ih := over_get l o vs (by simp at h; omega) i
      simp only [over, List.getElem?_cons_succ, ih]
      by_cases hi : o ≤ i ∧ i < o + vs.length
      · rw [if_pos hi, if_pos (by omega), show i + 1 - (o + 1) = i - o by omega]
      · rw [if_neg hi, if_neg (by omega)]
theorem over_mem (l : List AV) (o : Nat) (vs : List AV) (h : o + vs.length ≤ l.length) {v : AV} (hv : v ∈ over l o vs) : v ∈ vs ∨ v ∈ l := by
  obtain ⟨i, hi⟩ := List.mem_iff_getElem?.1 hv
  rw [over_get l o vs h] at hi
  split at hi
  · exact .inl (List.mem_of_getElem? hi)
  · exact .inr (List.mem_of_getElem? hi)
theorem foldl_set (vs : List Value) : ∀ (cs : Array Value) (o k : Nat), o + k + vs.length ≤ cs.size →
    ((vs.zipIdx k).foldl (fun cs (c, j) => cs.setIfInBounds (o + j) c) cs).size = cs.size ∧
    ∀ i, ((vs.zipIdx k).foldl (fun cs (c, j) => cs.setIfInBounds (o + j) c) cs)[i]? = if o + k ≤ i ∧ i < o + k + vs.length then vs[i - (o + k)]? else cs[i]? := by
  induction vs with
  | nil =>
    intro cs o k h
    refine ⟨rfl, fun i => ?_⟩
    simp only [List.zipIdx_nil, List.foldl_nil, List.length_nil]
    rw [if_neg (by omega)]
  | cons v vs ih =>
    intro cs o k h
    simp only [List.zipIdx_cons, List.foldl_cons]
    simp only [List.length_cons] at h ⊢
    obtain ⟨h1, h2⟩ := ih (cs.setIfInBounds (o + k) v) o (k + 1) (by simp only [Array.size_setIfInBounds]; omega)
    refine ⟨by rw [h1]; simp, fun i => ?_⟩
    rw [h2]
    by_cases hi : o + (k + 1) ≤ i ∧ i < o + (k + 1) + vs.length
    · rw [if_pos hi, if_pos (by omega), show i - (o + k) = (i - (o + (k + 1))) + 1 by omega]; rfl
    · rw [if_neg hi]
      by_cases he : i = o + k
      · subst he
        rw [if_pos (by omega)]
        rw [Array.getElem?_setIfInBounds_self_of_lt (by omega)]
        simp
      · rw [if_neg (by omega), Array.getElem?_setIfInBounds_ne (by omega)]
theorem cells_conc (v : AV) : (conc φ v).cells = (concL φ v.cells).toArray := by cases v <;> rfl
theorem sc_cells {v : AV} (h : sc dm v) : scL dm v.cells := by cases v <;> first | exact ⟨h, trivial⟩ | exact h
theorem fill_step (l : List AV) (off : Nat) (vs : List AV) (h : off + vs.length ≤ l.length) :
    ((concL φ vs).toArray.zipIdx.foldl (fun cs (c, j) => cs.setIfInBounds (off + j) c) (concL φ l).toArray) = (concL φ (over l off vs)).toArray := by
  have hz : ((concL φ vs).toArray.zipIdx.foldl (fun cs (c, j) => cs.setIfInBounds (off + j) c) (concL φ l).toArray) =
      ((concL φ vs).zipIdx 0).foldl (fun cs (c, j) => cs.setIfInBounds (off + j) c) (concL φ l).toArray := by
    rw [← Array.foldl_toList]; simp
  rw [hz]
  obtain ⟨h1, h2⟩ := foldl_set (concL φ vs) (concL φ l).toArray off 0 (by simp [concL_length]; omega)
  apply Array.ext_getElem?
  intro i
  rw [h2]
  simp only [concL_length, Nat.add_zero, List.getElem?_toArray, concL_getElem, over_get l off vs h]
  split <;> simp
theorem fill_spec (place : Nat → Option (Nat × Nat)) (R : RR φ dm ρ a) : ∀ (ops : List (Nat × Operand)) (ps : List (Nat × Nat × Od)) (z l : List AV),
    (ps.length = ops.length ∧ ∀ (i : Nat) (p : Nat × Operand) (q : Nat × Nat × Od), ops[i]? = some p → ps[i]? = some q → place p.1 = some (q.1, q.2.1) ∧ odOf p.2 = some q.2.2) →
    fillA ρ z ps = some l → scL dm z →
    Instr.fill place (concL φ z).toArray (ops.map fun (i, x) => (i, a.eval x)) = some (concL φ l).toArray ∧ scL dm l
  | [], ps, z, l, h, hf, hz => by
    have : ps = [] := List.eq_nil_of_length_eq_zero (by simpa using h.1)
    subst this
    injection hf with hf
    subst hf
    exact ⟨rfl, hz⟩
  | (i, x) :: ops, ps, z, l, h, hf, hz => by
    cases ps with
    | nil => simp at h
    | cons q ps =>
      obtain ⟨off, s, y⟩ := q
      obtain ⟨hp, hy⟩ := h.2 0 _ _ rfl rfl
      simp only [fillA] at hf
      split at hf
      · rename_i v hv
        split at hf
        · rename_i hc
          obtain ⟨h1, h2⟩ := od_spec R hy hv
          have hs2 := sc_cells h2
          have hrec := fill_spec place R ops ps (over z off v.cells) l ⟨by simpa using h.1, fun j p q hp hq => h.2 (j + 1) p q hp hq⟩ hf
            ((scL_iff dm _).2 fun u hu => by
              rcases over_mem z off v.cells (by omega) hu with h3 | h3
              · exact (scL_iff dm _).1 hs2 u h3
              · exact (scL_iff dm _).1 hz u h3)
          refine ⟨?_, hrec.2⟩
          simp only [List.map_cons, Instr.fill, hp]
          simp only at h1
          have e1 : (a.eval x).cells = (concL φ v.cells).toArray := by rw [h1, cells_conc]
          rw [if_neg (by rw [e1]; simp [concL_length]; omega), e1, fill_step z off v.cells (by omega)]
          exact hrec.1
        · contradiction
      · contradiction
theorem partsA_spec (R : RR φ dm ρ a) (fs : Array Field) : ∀ (l : List (Nat × Operand)) (r : List (Nat × Nat × Od)), partsA P fs l = some r →
    r.length = l.length ∧ ∀ (i : Nat) (p : Nat × Operand) (q : Nat × Nat × Od), l[i]? = some p → r[i]? = some q →
      (∃ f, fs[p.1]? = some f ∧ f.offset = q.1 ∧ sizeT P f.type = some q.2.1) ∧ odOf p.2 = some q.2.2
  | [], r, h => by injection h with h; subst h; exact ⟨rfl, fun i p q hp => by simp at hp⟩
  | (j, x) :: l, r, h => by
    simp only [partsA] at h
    split at h
    · rename_i f hf
      split at h
      · rename_i s y z h1 h2 h3
        injection h with h
        subst h
        obtain ⟨h4, h5⟩ := partsA_spec R fs l z h3
        refine ⟨by simp [h4], fun i p q hp hq => ?_⟩
        cases i with
        | zero =>
          simp only [List.getElem?_cons_zero, Option.some.injEq] at hp hq
          subst hp; subst hq
          exact ⟨⟨f, hf, rfl, h1⟩, h2⟩
        | succ i => exact h5 i p q (by simpa using hp) (by simpa using hq)
      · contradiction
    · contradiction
theorem partsR_spec (s : Nat) : ∀ (l : List (Nat × Operand)) (r : List (Nat × Nat × Od)), partsR s l = some r →
    r.length = l.length ∧ ∀ (i : Nat) (p : Nat × Operand) (q : Nat × Nat × Od), l[i]? = some p → r[i]? = some q → (q.1 = p.1 * s ∧ q.2.1 = s) ∧ odOf p.2 = some q.2.2
  | [], r, h => by injection h with h; subst h; exact ⟨rfl, fun i p q hp => by simp at hp⟩
  | (j, x) :: l, r, h => by
    simp only [partsR] at h
    split at h
    · rename_i y z h1 h2
      injection h with h
      subst h
      obtain ⟨h4, h5⟩ := partsR_spec s l z h2
      refine ⟨by simp [h4], fun i p q hp hq => ?_⟩
      cases i with
      | zero =>
        simp only [List.getElem?_cons_zero, Option.some.injEq] at hp hq
        subst hp; subst hq
        exact ⟨⟨rfl, rfl⟩, h1⟩
      | succ i => exact h5 i p q (by simpa using hp) (by simpa using hq)
    · contradiction
theorem run_places (fs : Array Field) (h : sizesOk P fs = true) (w : World) :
    (fs.mapM fun f => do pure (f.offset, ← sizeOf f.type) : Sem (Array (Nat × Nat))).run P w = .ok (fs.map fun f => (f.offset, (sizeT P f.type).getD 0)) w := by
  have key : ∀ l : List Field, (∀ f ∈ l, (P.info? f.type).isSome = true) →
      (l.mapM fun f => do pure (f.offset, ← sizeOf f.type) : Sem (List (Nat × Nat))).run P w = .ok (l.map fun f => (f.offset, (sizeT P f.type).getD 0)) w := by
    intro l
    induction l with
    | nil => intro _; rfl
    | cons f l ih =>
      intro hl
      obtain ⟨i, hi⟩ := Option.isSome_iff_exists.1 (hl f (by simp))
      have hs : sizeT P f.type = some i.size := by simp [sizeT, hi]
      simp only [List.mapM_cons, Sem.run_bind, sizeT_spec hs, Result.andThen_ok, Sem.run_pure, ih fun g hg => hl g (by simp [hg]), hs, List.map_cons, Option.getD_some]
  rw [Array.mapM_eq_mapM_toList]
  simp only [Sem.run_map]
  rw [key fs.toList (fun f hf => by unfold sizesOk at h; exact List.all_eq_true.1 h f hf)]
  simp only [Result.andThen_ok]
  congr 1
  apply Array.toList_inj.1
  simp
end
end
end Ex
end Go.Proofs.YtfehlbepjmmkeaaGreatDoor
namespace Go.Proofs.YtfehlbepjmmkeaaGreatDoor
open Go.RowKit
namespace Ex
noncomputable section
section
variable {P : Program} {φ : Nat → Loc} {dm : Nat → Prop} {ρ : Nat → Option AV} {a : Act}
theorem kindE_desc (t : TypeId) : match kindE P t with
    | 0 => P.underlying t = some .bool
    | 1 => ∃ e, P.underlying t = some (.pointer e)
    | 2 => ∃ e, P.underlying t = some (.slice e)
    | 3 => ∃ e, P.underlying t = some (.interface e)
    | 4 => ∃ e f g, P.underlying t = some (.func e f g)
    | 5 => ∃ e f, P.underlying t = some (.map e f)
    | _ => True := by
  unfold kindE
  cases P.underlying t with
  | none => simp
  | some d => cases d <;> simp
theorem aeq_spec {t : TypeId} {cst b : Bool} {x y : AV} {X Y : Operand} (h : aeq (kindE P t) cst x y = some b) (hc : (isC X || isC Y) = cst) (w : World) :
    (Op.equal t (conc φ x) (conc φ y)).run P w = .ok b w ∧ ∀ op, (eqGuard op t X Y (conc φ x) (conc φ y)).run P w = .ok () w := by
  show (Op.equalIn (9999 + 1) t (conc φ x) (conc φ y)).run P w = .ok b w ∧ _
  have hd := kindE_desc (P := P) t
  generalize kindE P t = k at h hd
  unfold aeq at h
  split at h
  case h_8 =>
    obtain ⟨e, hd⟩ := hd
    split at h
    · contradiction
    · rename_i hne
      injection h with h
      subst h
      refine ⟨?_, fun op => ?_⟩
      · rw [Op.equalIn]; simp [run_underlying hd, conc, hne]
      · cases op <;> simp [eqGuard, conc]
  case h_9 =>
    obtain ⟨e, hd⟩ := hd
    split at h
    · rename_i hcs
      injection h with h
      subst h
      refine ⟨?_, fun op => ?_⟩
      · rw [Op.equalIn]; simp [run_underlying hd, conc]
      · rw [hcs] at hc
        cases X <;> cases Y <;> first
          | (simp [isC] at hc; done)
          | (cases op <;> simp [eqGuard, conc])
    · contradiction
  case h_18 => contradiction
  all_goals
    injection h with h
    subst h
    refine ⟨?_, fun op => ?_⟩
    · rw [Op.equalIn]
      first
        | (simp [run_underlying hd, conc]; done)
        | (obtain ⟨e, hd⟩ := hd; simp [run_underlying hd, conc]; done)
        | (obtain ⟨e, f, hd⟩ := hd; simp [run_underlying hd, conc]; done)
        | (obtain ⟨e, f, g, hd⟩ := hd; simp [run_underlying hd, conc]; done)
    · cases op <;> simp [eqGuard, conc]
theorem intTs_spec {t : Nat} (h : (intTs P).contains t = true) : ∃ k i, P.underlying t = some (.int k) ∧ P.info? t = some i ∧ i.comparable = true := by
  have h1 : t ∈ intTs P := by simpa using h
  have h2 := (List.mem_filter.1 h1).2
  unfold intT at h2
  split at h2
  · rename_i k i h3 h4; exact ⟨k, i, h3, h4, h2⟩
  · cases h2
theorem ieq_spec {t : TypeId} {b : Bool} {x y : AV} {X Y : Operand} (ht : kindE P t = 3) (h : ieq (intTs P) x y = some b) (hc : (isC X || isC Y) = false) (w : World) :
    (Op.equal t (conc φ x) (conc φ y)).run P w = .ok b w ∧ (∀ op, (eqGuard op t X Y (conc φ x) (conc φ y)).run P w = .ok () w) := by
  unfold ieq at h
  split at h
  · rename_i b' hb
    injection h with h
    subst h
    exact aeq_spec (P := P) (φ := φ) (X := X) (Y := Y) (by rw [ht]; exact hb) hc w
  · split at h
    · rename_i t1 k a u l c
      split at h
      · rename_i hcond
        obtain ⟨rfl, rfl, hts⟩ := hcond
        injection h with h
        subst h
        have hd := kindE_desc (P := P) t
        rw [ht] at hd
        obtain ⟨e, hd⟩ := hd
        obtain ⟨k', i, q1, q2, q3⟩ := intTs_spec hts
        refine ⟨?_, fun op => ?_⟩
        · show (Op.equalIn ((9998 + 1) + 1) t _ _).run P w = _
          rw [Op.equalIn]
          simp only [conc, Sem.run_bind, run_underlying hd, Result.andThen_ok, ne_eq, not_true_eq_false, if_false, typeInfo, run_program, q2, q3, Bool.not_true, Bool.false_eq_true, Sem.run_pure]
          rw [Op.equalIn]
          simp [run_underlying q1]
        · cases op <;> simp [eqGuard, conc]
      · contradiction
    · contradiction
end
end
end Ex
end Go.Proofs.YtfehlbepjmmkeaaGreatDoor
namespace Go.Proofs.YtfehlbepjmmkeaaGreatDoor
open Go.RowKit
namespace Ex
noncomputable section
section
variable {P : Program} {φ : Nat → Loc} {dm : Nat → Prop} {ρ : Nat → Option AV} {a : Act}
theorem zeroAV_spec {t : TypeId} {z : AV} (h : zeroAV P t = some z) (φ : Nat → Loc) (dm : Nat → Prop) (w : World) : (zeroValue t).run P w = .ok (conc φ z) w ∧ sc dm z := by
  unfold zeroAV at h
  split at h
  · rename_i i hi
    split at h
    · rename_i cs hz
      simp only [Option.map_eq_some_iff] at h
      obtain ⟨l, hl, rfl⟩ := h
      obtain ⟨h1, h2, _⟩ := absL_spec hl φ dm
      refine ⟨?_, h2⟩
      simp only [zeroValue, typeInfo, Sem.run_bind, run_program, Result.andThen_ok, hi, Sem.run_pure, hz, conc, h1]
    · rename_i z' hz _
      obtain ⟨h1, h2, _⟩ := absS_spec h φ dm
      refine ⟨?_, h2⟩
      rename_i _ _ hz2
      simp [zeroValue, typeInfo, *]
    · contradiction
  · contradiction
theorem run_v (P : Program) (s : Sem Value) (w : World) {v : Value} (h : s.run P w = .ok v w) : (do pure (Next.value (← s)) : Sem Next).run P w = .ok (.value v) w := by
  simp [h]
theorem ev_slice {t e : TypeId} {s : Nat} {x : Operand} {lo hi : Option Operand} {u : Od} {l h : Option Od} {v : AV}
    (hx : odOf x = some u) (hl : odO lo = some l) (hh : odO hi = some h) (ht : P.underlying t = some (.slice e)) (hs : sizeT P e = some s)
    (R : RR φ dm ρ a) (hv : (PIR.slice s u l h).ev ρ = some v) (w : World) :
    (Instr.sliceAt t (a.eval x) (lo.map a.eval) (hi.map a.eval) none).run P w = .ok (conc φ v) w ∧ sc dm v := by
  simp only [PIR.ev] at hv
  split at hv
  · rename_i b o d n c he
    obtain ⟨h1, h2⟩ := od_spec R hx he
    split at hv
    · rename_i hv' e1
      split at hv
      · rename_i lv e2
        split at hv
        case isFalse => contradiction
        rename_i hlc
        injection hv with hv
        subst hv
        refine ⟨?_, h2⟩
        have hb := bounds_spec (P := P) R (s := true) hl hh e1 e2 (Nat.le_add_right c (φ b).ext) w
        rw [h1]
        simp only [Instr.sliceAt, Sem.run_bind, run_underlying ht, Result.andThen_ok, conc, Instr.slice, hb, sizeT_spec hs, Sem.run_pure, Option.map_some]
        have hlv : lv ≤ hv' := by
          rcases bnd_spec R hl e2 with ⟨_, rfl⟩ | ⟨_, _, _, _, h3⟩
          · omega
          · exact h3
        have hA : (if c + (φ b).ext = lv then some (⟨(φ b).blk, (φ b).base + (if c + (φ b).ext = 0 then d else o), none⟩ : Addr)
            else some (Addr.add ⟨(φ b).blk, (φ b).base + (if c + (φ b).ext = 0 then d else o), none⟩ (lv * s))) =
            some ⟨(φ b).blk, (φ b).base + (if c - lv + (φ b).ext = 0 then (if c = 0 then d else o) else o + lv * s), none⟩ := by
          by_cases hc : c + (φ b).ext = lv
          · rw [if_pos hc, if_pos (show c - lv + (φ b).ext = 0 by omega)]
            by_cases h0 : c = 0
            · rw [if_pos (show c + (φ b).ext = 0 by omega), if_pos h0]
            · rw [if_neg (show ¬ c + (φ b).ext = 0 by omega), if_neg h0]
          · rw [if_neg hc, if_neg (show ¬ c + (φ b).ext = 0 by omega), if_neg (show ¬ c - lv + (φ b).ext = 0 by omega), Addr.add_lit, Nat.add_assoc]
        rw [hA]
        congr 2
        omega
      · contradiction
    · contradiction
  · rename_i he
    obtain ⟨h1, h2⟩ := od_spec R hx he
    split at hv
    · rename_i hv' e1
      split at hv
      · rename_i lv e2
        injection hv with hv
        subst hv
        refine ⟨?_, h2⟩
        have z1 : hv' = 0 := by
          rcases bnd_spec R hh e1 with ⟨_, rfl⟩ | ⟨_, _, _, _, h3⟩ <;> omega
        subst z1
        have z2 : lv = 0 := by
          rcases bnd_spec R hl e2 with ⟨_, rfl⟩ | ⟨_, _, _, _, h3⟩ <;> omega
        subst z2
        have hb := bounds_spec (P := P) R (s := true) hl hh e1 e2 (Nat.le_refl 0) w
        rw [h1]
        simp [Instr.sliceAt, run_underlying ht, conc, Instr.slice, hb, sizeT_spec hs]
      · contradiction
    · contradiction
  · contradiction
end
end
end Ex
end Go.Proofs.YtfehlbepjmmkeaaGreatDoor
namespace Go.Proofs.YtfehlbepjmmkeaaGreatDoor
open Go.RowKit
namespace Ex
noncomputable section
section
variable {P : Program} {φ : Nat → Loc} {dm : Nat → Prop} {ρ : Nat → Option AV} {a : Act}
theorem ev_sliceS {t : TypeId} {x : Operand} {lo hi : Option Operand} {u : Od} {l h : Option Od} {v : AV}
    (hx : odOf x = some u) (hl : odO lo = some l) (hh : odO hi = some h) (ht : P.underlying t = some .string)
    (R : RR φ dm ρ a) (hv : (PIR.sliceS u l h).ev ρ = some v) (w : World) :
    (Instr.sliceAt t (a.eval x) (lo.map a.eval) (hi.map a.eval) none).run P w = .ok (conc φ v) w ∧ sc dm v := by
  simp only [PIR.ev] at hv
  split at hv
  · rename_i len n he
    obtain ⟨h1, h2⟩ := od_spec R hx he
    split at hv
    · rename_i hv' e1
      split at hv
      · rename_i lv e2
        injection hv with hv
        subst hv
        refine ⟨?_, by simp [sc]⟩
        have hb := bounds_spec (P := P) R (s := false) hl hh e1 e2 (Nat.le_refl len) w
        have hlv : lv ≤ hv' := by
          rcases bnd_spec R hl e2 with ⟨_, rfl⟩ | ⟨_, _, _, _, h3⟩
          · omega
          · exact h3
        have hvl : hv' ≤ len := by
          rcases bnd_spec R hh e1 with ⟨_, rfl⟩ | ⟨_, _, _, _, h3⟩
          · omega
          · exact h3
        rw [h1]
        simp only [Instr.sliceAt, Sem.run_bind, run_underlying ht, Result.andThen_ok, conc, Instr.slice, strB_size, Option.isSome_none, Bool.false_eq_true, if_false, hb, Sem.run_pure, strB_extract len n lv hv' hlv hvl]
      · contradiction
    · contradiction
  · contradiction
theorem ev_idxS {t e : TypeId} {s : Nat} {x i : Operand} {u y : Od} {v : AV} (hx : odOf x = some u) (hi : odOf i = some y) (ht : P.underlying t = some (.slice e))
    (hs : sizeT P e = some s) (R : RR φ dm ρ a) (hv : (PIR.idxS s u y).ev ρ = some v) (w : World) :
    (Instr.indexAt t (a.eval x) (a.eval i)).run P w = .ok (conc φ v) w ∧ sc dm v := by
  simp only [PIR.ev] at hv
  split at hv
  · rename_i b o d n c he
    obtain ⟨h1, h2⟩ := od_spec R hx he
    split at hv
    · rename_i k j hj
      obtain ⟨h3, _⟩ := od_spec R hi hj
      split at hv
      · rename_i hb
        injection hv with hv
        subst hv
        refine ⟨?_, h2⟩
        rw [h1, h3]
        simp only [conc, Instr.indexAt, asIntOf, Sem.run_bind, Sem.run_pure, Result.andThen_ok, run_underlying ht]
        rw [if_pos ⟨hb.1, hb.2.1⟩]
        simp only [Sem.run_bind, sizeT_spec hs, Result.andThen_ok, Sem.run_pure, Addr.add_lit]
        rw [if_neg (show ¬ c + (φ b).ext = 0 by omega), Nat.add_assoc]
      · contradiction
    · contradiction
  · contradiction
theorem ev_idxA {t e : TypeId} {s n : Nat} {x i : Operand} {u y : Od} {v : AV} (hx : odOf x = some u) (hi : odOf i = some y) (ht : P.underlying t = some (.array n e))
    (hs : sizeT P e = some s) (R : RR φ dm ρ a) (hv : (PIR.idxA n s u y).ev ρ = some v) (w : World) :
    (Instr.indexAt t (a.eval x) (a.eval i)).run P w = .ok (conc φ v) w ∧ sc dm v := by
  simp only [PIR.ev] at hv
  split at hv
  · rename_i b o he
    obtain ⟨h1, h2⟩ := od_spec R hx he
    split at hv
    · rename_i k j hj
      obtain ⟨h3, _⟩ := od_spec R hi hj
      split at hv
      · rename_i hb
        injection hv with hv
        subst hv
        refine ⟨?_, h2⟩
        rw [h1, h3]
        simp only [conc, Instr.indexAt, asIntOf, Sem.run_bind, Sem.run_pure, Result.andThen_ok, run_underlying ht, Instr.sureAddr]
        rw [if_pos ⟨hb.1, hb.2⟩]
        simp only [Sem.run_bind, sizeT_spec hs, Result.andThen_ok, Sem.run_pure, Addr.add_lit, Nat.add_assoc]
      · contradiction
    · contradiction
  · contradiction
theorem ev_ixS {t : TypeId} {x i : Operand} {u y : Od} {v : AV} (hx : odOf x = some u) (hi : odOf i = some y) (ht : P.underlying t = some .string)
    (R : RR φ dm ρ a) (hv : (PIR.ixS u y).ev ρ = some v) (w : World) :
    (Instr.index t (a.eval x) (a.eval i)).run P w = .ok (conc φ v) w ∧ sc dm v := by
  simp only [PIR.ev] at hv
  split at hv
  · rename_i len n he
    obtain ⟨h1, h2⟩ := od_spec R hx he
    split at hv
    · rename_i k j hj
      obtain ⟨h3, _⟩ := od_spec R hi hj
      split at hv
      · rename_i hb
        injection hv with hv
        subst hv
        refine ⟨?_, by simp [sc]⟩
        rw [h1, h3]
        have hg := strB_get len n j.toNat (by omega)
        simp only [conc, Instr.index, asIntOf, Sem.run_bind, Sem.run_pure, Result.andThen_ok, run_underlying ht]
        rw [if_pos hb.1, hg]
        simp
      · contradiction
    · contradiction
  · contradiction
theorem ev_ixA {t e : TypeId} {s n : Nat} {g : Bool} {x i : Operand} {u y : Od} {v : AV} (hx : odOf x = some u) (hi : odOf i = some y) (ht : P.underlying t = some (.array n e))
    (hg : aggB P e = some g) (hs : sizeT P e = some s) (R : RR φ dm ρ a) (hv : (PIR.ixA n s g u y).ev ρ = some v) (w : World) :
    (Instr.index t (a.eval x) (a.eval i)).run P w = .ok (conc φ v) w ∧ sc dm v := by
  simp only [PIR.ev] at hv
  split at hv
  · rename_i l he
    obtain ⟨h1, h2⟩ := od_spec R hx he
    split at hv
    · rename_i k j hj
      obtain ⟨h3, _⟩ := od_spec R hi hj
      split at hv
      · rename_i hb
        rw [h1, h3]
        have hp := part_spec (φ := φ) hg hs hv h2 w
        simp only [conc, Instr.index, asIntOf, Sem.run_bind, Sem.run_pure, Result.andThen_ok, run_underlying ht]
        rw [if_pos hb]
        simp only [Sem.run_bind, sizeT_spec hs, Result.andThen_ok]
        exact hp
      · contradiction
    · contradiction
  · contradiction
theorem ev_tass {t xt : TypeId} {ok : Bool} {z : AV} {x : Operand} {u : Od} {v : AV} {d : TypeDesc} (hx : odOf x = some u) (ht : P.underlying t = some d)
    (hd : ∀ m, d ≠ .interface m) (hz : zeroAV P t = some z) (R : RR φ dm ρ a) (hv : (PIR.tass t ok z u).ev ρ = some v) (w : World) :
    (Instr.typeAssert (a.eval x) xt t ok).run P w = .ok (conc φ v) w ∧ sc dm v := by
  obtain ⟨z1, z2⟩ := zeroAV_spec hz φ dm w
  simp only [PIR.ev] at hv
  split at hv
  · rename_i he
    obtain ⟨h1, h2⟩ := od_spec R hx he
    split at hv
    · rename_i hok
      injection hv with hv
      subst hv
      subst hok
      refine ⟨?_, by simp [sc, scL, z2]⟩
      rw [h1]
      simp only [Instr.typeAssert, Sem.run_bind, run_underlying ht, Result.andThen_ok, conc]
      cases d <;> first | (exact absurd rfl (hd _)) | simp [z1, conc, concL]
    · contradiction
  · rename_i k y he
    obtain ⟨h1, h2⟩ := od_spec R hx he
    simp only [sc] at h2
    split at hv
    · rename_i hk
      injection hv with hv
      subst hv
      subst hk
      rw [h1]
      refine ⟨?_, by cases ok <;> simp [sc, scL, h2]⟩
      simp only [Instr.typeAssert, Sem.run_bind, run_underlying ht, Result.andThen_ok, conc]
      cases d <;> first | (exact absurd rfl (hd _)) | (cases ok <;> simp [conc, concL])
    · rename_i hk
      split at hv
      · rename_i hok
        injection hv with hv
        subst hv
        subst hok
        rw [h1]
        refine ⟨?_, by simp [sc, scL, z2]⟩
        simp only [Instr.typeAssert, Sem.run_bind, run_underlying ht, Result.andThen_ok, conc]
        cases d <;> first | (exact absurd rfl (hd _)) | simp [z1, conc, concL, hk]
      · contradiction
  · contradiction
theorem ev_build {t : TypeId} {parts : Array (Nat × Operand)} {ir : PIR} {v : AV} (h : prepP P (.build t parts) = some ir) (R : RR φ dm ρ a) (hv : ir.ev ρ = some v) (w : World) :
    (Instr.build t (parts.map fun (i, x) => (i, a.eval x))).run P w = .ok (conc φ v) w ∧ sc dm v := by
  simp only [prepP] at h
  split at h
  · rename_i fs z ht hz
    obtain ⟨i, z0, hi, hz0, hzz⟩ := zeroOf_spec hz
    obtain ⟨hc, hsz, _⟩ := hzz φ dm
    split at h
    · rename_i hsz2
      simp only [Option.map_eq_some_iff] at h
      obtain ⟨ps, hps, rfl⟩ := h
      simp only [PIR.ev] at hv
      split at hv
      · rename_i l hl
        injection hv with hv
        subst hv
        obtain ⟨hlen, hsp⟩ := partsA_spec R fs parts.toList ps hps
        have hfs := fill_spec (fun k => (fs.map fun f => (f.offset, (sizeT P f.type).getD 0))[k]?) R parts.toList ps z l
          ⟨hlen, fun k p q hp hq => by
            obtain ⟨⟨f, hf, h1, h2⟩, h3⟩ := hsp k p q hp hq
            refine ⟨?_, h3⟩
            simp [hf, h1, h2]⟩ hl hsz
        refine ⟨?_, hfs.2⟩
        have hpl := run_places (P := P) fs hsz2 w
        simp only [Instr.build, Sem.run_bind, zeroValue, typeInfo, run_program, Result.andThen_ok, hi, Sem.run_pure, hz0, run_underlying ht]
        rw [hpl]
        simp only [Result.andThen_ok]
        have ep : (parts.map fun (x : Nat × Operand) => (x.1, a.eval x.2)).toList = parts.toList.map fun (x : Nat × Operand) => (x.1, a.eval x.2) := by simp
        rw [← hc]
        have hf2 := hfs.1
        rw [← ep] at hf2
        rw [hf2]
        rfl
      · contradiction
    · contradiction
  · rename_i n e z ht hz
    obtain ⟨i, z0, hi, hz0, hzz⟩ := zeroOf_spec hz
    obtain ⟨hc, hsz, _⟩ := hzz φ dm
    split at h
    · rename_i s hs
      simp only [Option.map_eq_some_iff] at h
      obtain ⟨ps, hps, rfl⟩ := h
      simp only [PIR.ev] at hv
      split at hv
      · rename_i l hl
        injection hv with hv
        subst hv
        obtain ⟨hlen, hsp⟩ := partsR_spec s parts.toList ps hps
        have hfs := fill_spec (fun k => some (k * s, s)) R parts.toList ps z l
          ⟨hlen, fun k p q hp hq => by
            obtain ⟨⟨h1, h2⟩, h3⟩ := hsp k p q hp hq
            refine ⟨?_, h3⟩
            rw [h1, h2]⟩ hl hsz
        refine ⟨?_, hfs.2⟩
        simp only [Instr.build, Sem.run_bind, zeroValue, typeInfo, run_program, Result.andThen_ok, hi, Sem.run_pure, hz0, run_underlying ht, sizeT_spec hs]
        have ep : (parts.map fun (x : Nat × Operand) => (x.1, a.eval x.2)).toList = parts.toList.map fun (x : Nat × Operand) => (x.1, a.eval x.2) := by simp
        rw [← hc]
        have hf2 := hfs.1
        rw [← ep] at hf2
        rw [hf2]
        rfl
      · contradiction
    · contradiction
  · contradiction
end
end
end Ex
end Go.Proofs.YtfehlbepjmmkeaaGreatDoor
namespace Go.Proofs.YtfehlbepjmmkeaaGreatDoor
open Go.RowKit
namespace Ex
noncomputable section
section
variable {P : Program} {φ : Nat → Loc} {dm : Nat → Prop} {ρ : Nat → Option AV} {a : Act}
theorem prepP_sound {o : Oper} {ir : PIR} {v : AV} (h : prepP P o.op = some ir) (R : RR φ dm ρ a) (hv : ir.ev ρ = some v) (w : World) :
    (execOp a.eval o).run P w = .ok (.value (conc φ v)) w ∧ sc dm v := by
  obtain ⟨dst, op, type, pos, after, guard⟩ := o
  simp only at h
  have hold := h
  cases op <;> simp only [prepP] at h <;> try contradiction
  case move x =>
    simp only [Option.map_eq_some_iff] at h
    obtain ⟨u, hu, rfl⟩ := h
    obtain ⟨h1, h2⟩ := od_spec R hu hv
    exact ⟨by simp [execOp, h1], h2⟩
  case assign x =>
    simp only [Option.map_eq_some_iff] at h
    obtain ⟨u, hu, rfl⟩ := h
    obtain ⟨h1, h2⟩ := od_spec R hu hv
    exact ⟨by simp [execOp, h1], h2⟩
  case pick c x y =>
    split at h
    · rename_i c' x' y' hc hx hy
      injection h with h
      subst h
      simp only [PIR.ev] at hv
      split at hv
      · rename_i he
        obtain ⟨h1, _⟩ := od_spec R hc he
        obtain ⟨h3, h4⟩ := od_spec R hx hv
        exact ⟨by simp [execOp, h1, h3, conc, asBool], h4⟩
      · rename_i he
        obtain ⟨h1, _⟩ := od_spec R hc he
        obtain ⟨h3, h4⟩ := od_spec R hy hv
        exact ⟨by simp [execOp, h1, h3, conc, asBool], h4⟩
      · contradiction
    · contradiction
  case build t parts =>
    have hb := ev_build (P := P) hold R hv w
    exact ⟨by simp only [execOp]; exact run_v P _ w hb.1, hb.2⟩
  case nilCheck x =>
    simp only [Option.map_eq_some_iff] at h
    obtain ⟨u, hu, rfl⟩ := h
    simp only [PIR.ev] at hv
    split at hv
    · rename_i b o' he
      injection hv with hv
      subst hv
      obtain ⟨h1, h2⟩ := od_spec R hu he
      exact ⟨by simp [execOp, h1, conc], h2⟩
    · rename_i f p q he
      injection hv with hv
      subst hv
      obtain ⟨h1, h2⟩ := od_spec R hu he
      exact ⟨by simp [execOp, h1, conc], h2⟩
    · contradiction
  case binOp op t x y yt =>
    split at h
    · rename_i u v' hu hv'
      split at h
      · rename_i hc
        injection h with h
        subst h
        simp only [PIR.ev] at hv
        split at hv
        · rename_i x1 hx1
          split at hv
          · rename_i y1 hy1
            split at hv
            · rename_i b hb
              injection hv with hv
              subst hv
              obtain ⟨h1, h2⟩ := od_spec R hu hx1
              obtain ⟨h3, h4⟩ := od_spec R hv' hy1
              simp only [Bool.and_eq_true, Bool.or_eq_true, beq_iff_eq, Bool.not_eq_true'] at hc
              obtain ⟨e1, e2⟩ := ieq_spec (P := P) (φ := φ) (X := x) (Y := y) hc.2.1 hb hc.2.2 w
              refine ⟨?_, by simp [sc]⟩
              simp only [execOp]
              apply run_v
              rw [Sem.run_bind, h1, h3, e2, Result.andThen_ok]
              have hshape : ∀ op, op = BinOp.eql ∨ op = .neq → (binOp op t (conc φ x1) (conc φ y1)).run P w = ((Op.equal t (conc φ x1) (conc φ y1)).run P w).andThen fun b w' => .ok (.bool (if op == .neq then !b else b)) w' := by
                intro op hop
                unfold ieq at hb
                split at hb
                · rename_i b' hb'
                  unfold aeq at hb'
                  rcases hop with rfl | rfl <;> split at hb' <;> first
                    | contradiction
                    | (simp [binOp, conc])
                · split at hb
                  · rcases hop with rfl | rfl <;> simp [binOp, conc]
                  · contradiction
              rw [hshape op hc.1, e1]
              simp [conc]
            · contradiction
          · contradiction
        · contradiction
      · rename_i hc0
        split at h
        · rename_i hc
          injection h with h
          subst h
          simp only [PIR.ev] at hv
          split at hv
          · rename_i x1 hx1
            split at hv
            · rename_i y1 hy1
              split at hv
              · rename_i b hb
                injection hv with hv
                subst hv
                obtain ⟨h1, h2⟩ := od_spec R hu hx1
                obtain ⟨h3, h4⟩ := od_spec R hv' hy1
                obtain ⟨e1, e2⟩ := aeq_spec (P := P) (φ := φ) (X := x) (Y := y) hb rfl w
                refine ⟨?_, by simp [sc]⟩
                simp only [execOp]
                apply run_v
                rw [Sem.run_bind, h1, h3, e2, Result.andThen_ok]
                have hop : op = .eql ∨ op = .neq := by
                  rw [Bool.and_eq_true, Bool.or_eq_true] at hc
                  rcases hc.1 with h | h
                  · exact .inl (beq_iff_eq.1 h)
                  · exact .inr (beq_iff_eq.1 h)
                have hshape : ∀ op, op = BinOp.eql ∨ op = .neq → (binOp op t (conc φ x1) (conc φ y1)).run P w = ((Op.equal t (conc φ x1) (conc φ y1)).run P w).andThen fun b w' => .ok (.bool (if op == .neq then !b else b)) w' := by
                  intro op hop
                  unfold aeq at hb
                  rcases hop with rfl | rfl <;> split at hb <;> first
                    | contradiction
                    | (simp [binOp, conc])
                rw [hshape op hop, e1]
                simp [conc]
              · contradiction
            · contradiction
          · contradiction
        · injection h with h
          subst h
          simp only [PIR.ev] at hv
          split at hv
          · rename_i x1 hx1
            split at hv
            · rename_i y1 hy1
              obtain ⟨h1, h2⟩ := od_spec R hu hx1
              obtain ⟨h3, h4⟩ := od_spec R hv' hy1
              obtain ⟨e1, e2, e3⟩ := abin_spec (P := P) (t := t) (X := x) (Y := y) hv φ dm w
              refine ⟨?_, e3⟩
              simp only [execOp]
              apply run_v
              rw [Sem.run_bind, h1, h3, e1, Result.andThen_ok, e2]
            · contradiction
          · contradiction
    · contradiction
  case unOp op t x =>
    cases op <;> (try (simp [prepP] at hold; done))
    simp only [prepP, Option.map_eq_some_iff] at hold
    clear h
    have h := hold
    obtain ⟨u, hu, rfl⟩ := h
    simp only [PIR.ev] at hv
    split at hv
    · rename_i b he
      injection hv with hv
      subst hv
      obtain ⟨h1, h2⟩ := od_spec R hu he
      exact ⟨by simp [execOp, h1, conc, Op.unary], by simp [sc]⟩
    · contradiction
  case convert src dst x =>
    split at h
    · rename_i u ds k hu hs hd
      injection h with h
      subst h
      simp only [PIR.ev] at hv
      split at hv
      · rename_i k' n he
        injection hv with hv
        subst hv
        obtain ⟨h1, h2⟩ := od_spec R hu he
        exact ⟨by simp [execOp, h1, conc, convert, run_underlying hs, run_underlying hd, Conv.intToInt], by simp [sc]⟩
      · contradiction
    · contradiction
  case makeInterface t x =>
    split at h
    · rename_i hc
      simp only [Option.map_eq_some_iff] at h
      obtain ⟨u, hu, rfl⟩ := h
      simp only [PIR.ev] at hv
      split at hv
      · rename_i v' he
        injection hv with hv
        subst hv
        obtain ⟨h1, h2⟩ := od_spec R hu he
        exact ⟨by simp [execOp, h1, conc, run_makeInterface w t _ hc], h2⟩
      · contradiction
    · contradiction
  case makeFunc fn first cap =>
    cases fn <;> (try (simp [prepP] at hold; done))
    simp only [prepP] at hold
    clear h
    have h := hold
    split at h
    · rename_i u v' hu hv'
      injection h with h
      subst h
      simp only [PIR.ev] at hv
      split at hv
      · rename_i p hp
        split at hv
        · rename_i q hq
          injection hv with hv
          subst hv
          obtain ⟨h1, h2⟩ := ods_spec R hu hp
          obtain ⟨h3, h4⟩ := ods_spec R hv' hq
          refine ⟨?_, h2, h4⟩
          have e1 : first.map a.eval = (concL φ p).toArray := by rw [← h1]; apply Array.toList_inj.1; rw [Array.toList_map]
          have e2 : cap.map a.eval = (concL φ q).toArray := by rw [← h3]; apply Array.toList_inj.1; rw [Array.toList_map]
          simp [execOp, Instr.makeFunc, e1, e2, conc]
        · contradiction
      · contradiction
    · contradiction
  case slice t x lo hi mx =>
    cases mx with
    | some m => simp [prepP] at hold
    | none =>
      simp only [prepP] at hold
      clear h
      have h := hold
      split at h
      · rename_i u l hh e hu hl hh' ht
        split at h
        · rename_i s hs
          injection h with h
          subst h
          obtain ⟨e1, e2⟩ := ev_slice (P := P) hu hl hh' ht hs R hv w
          refine ⟨?_, e2⟩
          simp only [execOp]
          apply run_v
          exact e1
        · contradiction
      · rename_i u l hh hu hl hh' ht
        injection h with h
        subst h
        obtain ⟨e1, e2⟩ := ev_sliceS (P := P) hu hl hh' ht R hv w
        refine ⟨?_, e2⟩
        simp only [execOp]
        apply run_v
        exact e1
      · contradiction
  case fieldAddr s x i =>
    split at h
    · rename_i fs u hs hu
      split at h
      · rename_i f hf
        split at h
        · rename_i n hn
          split at h
          · contradiction
          · rename_i hn0
            injection h with h
            subst h
            simp only [PIR.ev] at hv
            split at hv
            · rename_i b o' he
              injection hv with hv
              subst hv
              obtain ⟨h1, h2⟩ := od_spec R hu he
              refine ⟨?_, h2⟩
              simp only [execOp]
              apply run_v
              simp [Instr.fieldAt, run_underlying hs, hf, h1, conc, Instr.sureAddr, fieldPlace, sizeT_spec hn, hn0, Addr.add_lit, Nat.add_assoc]
            · contradiction
        · contradiction
      · contradiction
    · contradiction
  case field t x i =>
    split at h
    · rename_i fs u hs hu
      split at h
      · rename_i f hf
        split at h
        · rename_i n hg hn
          injection h with h
          subst h
          simp only [PIR.ev] at hv
          split at hv
          · rename_i l he
            obtain ⟨h1, h2⟩ := od_spec R hu he
            obtain ⟨e1, e2⟩ := part_spec (φ := φ) hg hn (by simpa using hv) h2 w
            refine ⟨?_, e2⟩
            simp only [execOp]
            apply run_v
            simp [Instr.field, run_underlying hs, hf, h1, conc, asAgg, e1]
          · contradiction
        · rename_i n hg hn
          injection h with h
          subst h
          simp only [PIR.ev] at hv
          split at hv
          · rename_i l he
            obtain ⟨h1, h2⟩ := od_spec R hu he
            obtain ⟨e1, e2⟩ := part_spec (φ := φ) hg hn (by simpa using hv) h2 w
            refine ⟨?_, e2⟩
            simp only [execOp]
            apply run_v
            simp [Instr.field, run_underlying hs, hf, h1, conc, asAgg, e1]
          · contradiction
        · contradiction
      · contradiction
    · contradiction
  case indexAddr t x i =>
    split at h
    · rename_i e u y ht hu hy
      split at h
      · rename_i s hs
        injection h with h
        subst h
        obtain ⟨e1, e2⟩ := ev_idxS (P := P) hu hy ht hs R hv w
        exact ⟨by simp only [execOp]; exact run_v P _ w e1, e2⟩
      · contradiction
    · rename_i n e u y ht hu hy
      split at h
      · rename_i s hs
        injection h with h
        subst h
        obtain ⟨e1, e2⟩ := ev_idxA (P := P) hu hy ht hs R hv w
        exact ⟨by simp only [execOp]; exact run_v P _ w e1, e2⟩
      · contradiction
    · contradiction
  case index t x i =>
    split at h
    · rename_i u y ht hu hy
      injection h with h
      subst h
      obtain ⟨e1, e2⟩ := ev_ixS (P := P) hu hy ht R hv w
      exact ⟨by simp only [execOp]; exact run_v P _ w e1, e2⟩
    · rename_i n e u y ht hu hy
      split at h
      · rename_i g s hg hs
        injection h with h
        subst h
        obtain ⟨e1, e2⟩ := ev_ixA (P := P) hu hy ht hg hs R hv w
        exact ⟨by simp only [execOp]; exact run_v P _ w e1, e2⟩
      · contradiction
    · contradiction
  case extract x i =>
    simp only [Option.map_eq_some_iff] at h
    obtain ⟨u, hu, rfl⟩ := h
    simp only [PIR.ev] at hv
    split at hv
    · rename_i l he
      obtain ⟨h1, h2⟩ := od_spec R hu he
      refine ⟨?_, scL_get h2 hv⟩
      have : (concL φ l)[i]? = some (conc φ v) := by rw [concL_getElem, hv]; rfl
      simp [execOp, h1, conc, Instr.extract, this]
    · contradiction
  case typeAssert x xt t ok =>
    split at h
    · contradiction
    · rename_i d u z hni ht hu hz
      injection h with h
      subst h
      obtain ⟨e1, e2⟩ := ev_tass (P := P) (xt := xt) hu ht (fun m hm => hni m hm) hz R hv w
      exact ⟨by simp only [execOp]; exact run_v P _ w e1, e2⟩
    · contradiction
  case call c =>
    obtain ⟨callee, args, argTypes⟩ := c
    cases callee with
    | value f => simp at h
    | invoke r m => simp at h
    | builtin bi =>
    cases bi <;> (try (simp at h; done))
    case max =>
      simp only [] at h
      split at h
      · rename_i x y hx
        have hx' : args = #[x, y] := by apply Array.toList_inj.1; rw [hx]
        subst hx'
        split at h
        · rename_i u v' hu hv'
          injection h with h
          subst h
          simp only [PIR.ev] at hv
          split at hv
          · rename_i k a' he
            split at hv
            · rename_i k' b' he'
              injection hv with hv
              subst hv
              obtain ⟨h1, _⟩ := od_spec R hu he
              obtain ⟨h3, _⟩ := od_spec R hv' he'
              exact ⟨by simp [execOp, resolve, invoke, builtin, h1, h3, conc, run_max_int2], by simp [sc]⟩
            · contradiction
          · contradiction
        · contradiction
      · contradiction
    case min =>
      simp only [] at h
      split at h
      · rename_i x y hx
        have hx' : args = #[x, y] := by apply Array.toList_inj.1; rw [hx]
        subst hx'
        split at h
        · rename_i u v' hu hv'
          injection h with h
          subst h
          simp only [PIR.ev] at hv
          split at hv
          · rename_i k a' he
            split at hv
            · rename_i k' b' he'
              injection hv with hv
              subst hv
              obtain ⟨h1, _⟩ := od_spec R hu he
              obtain ⟨h3, _⟩ := od_spec R hv' he'
              exact ⟨by simp [execOp, resolve, invoke, builtin, h1, h3, conc, run_min_int2], by simp [sc]⟩
            · contradiction
          · contradiction
        · contradiction
      · contradiction
    simp only [] at h
    split at h
    · rename_i x t hx ht
      have hx' : args = #[x] := by apply Array.toList_inj.1; rw [hx]
      have ht' : argTypes = #[t] := by apply Array.toList_inj.1; rw [ht]
      subst hx'
      subst ht'
      split at h
      · rename_i e u hd hu
        injection h with h
        subst h
        simp only [PIR.ev] at hv
        split at hv
        · rename_i b o' d n c he
          injection hv with hv
          subst hv
          obtain ⟨h1, h2⟩ := od_spec R hu he
          exact ⟨by simp [execOp, resolve, invoke, builtin, h1, conc, Builtin.len_, run_underlying hd, goInt], by simp [sc]⟩
        · rename_i he
          injection hv with hv
          subst hv
          obtain ⟨h1, h2⟩ := od_spec R hu he
          exact ⟨by simp [execOp, resolve, invoke, builtin, h1, conc, Builtin.len_, run_underlying hd, goInt], by simp [sc]⟩
        · contradiction
      · rename_i u hd hu
        injection h with h
        subst h
        simp only [PIR.ev] at hv
        split at hv
        · rename_i l n he
          injection hv with hv
          subst hv
          obtain ⟨h1, h2⟩ := od_spec R hu he
          exact ⟨by simp [execOp, resolve, invoke, builtin, h1, conc, Builtin.len_, run_underlying hd, goInt, strB_size], by simp [sc]⟩
        · contradiction
      · contradiction
    · contradiction
end
end
end Ex
end Go.Proofs.YtfehlbepjmmkeaaGreatDoor
