/-
  DERIVED. An abstract machine, and that its runs are runs of the model: part 7 of 11. No condition.
-/
import Derived.Test.YtfehlbepjmmkeaaGreatDoorXf
namespace Go.Proofs.YtfehlbepjmmkeaaGreatDoor
open Go.RowKit
namespace Ex
noncomputable section
def interT {α : Type} (f : α → α → Option α) : T α → T α → T α
  | .N v l r, .N v' l' r' => .N (match v, v' with | some x, some y => f x y | _, _ => none) (interT f l l') (interT f r r')
  | _, _ => .E
theorem interT_get {α : Type} (f : α → α → Option α) : ∀ (t u : T α) (k : Nat) (z : α), (interT f t u).get k = some z → ∃ x y, t.get k = some x ∧ u.get k = some y ∧ f x y = some z
  | .E, u, k, z, h => by simp [interT, T.get_E] at h
  | .N v l r, .E, k, z, h => by simp [interT, T.get_E] at h
  | .N v l r, .N v' l' r', k, z, h => by
    simp only [interT] at h
    rw [T.get_N] at h
    rw [T.get_N, T.get_N]
    split at h
    · rename_i hk
      rw [if_pos hk, if_pos hk]
      cases v <;> cases v' <;> simp_all
    · rename_i hk
      rw [if_neg hk, if_neg hk]
      split at h
      · rename_i hk2
        rw [if_pos hk2, if_pos hk2]
        exact interT_get f l l' _ z h
      · rename_i hk2
        rw [if_neg hk2, if_neg hk2]
        exact interT_get f r r' _ z h
def joinV (x y : AV) : Option AV := if avEq x y then some x else none
theorem joinV_some {x y z : AV} (h : joinV x y = some z) : x = z ∧ y = z := by
  unfold joinV at h
  split at h
  · rename_i he
    injection h with h
    subst h
    exact ⟨rfl, (avEq_eq he).symm⟩
  · contradiction
def remP (p : AV × AV) : List (AV × AV) → Option (List (AV × AV))
  | [] => none
  | q :: l => if avEq p.1 q.1 && avEq p.2 q.2 then some l else match remP p l with
    | some m => some (q :: m)
    | none => none
def permB : List (AV × AV) → List (AV × AV) → Bool
  | [], [] => true
  | p :: l, m => match remP p m with
    | some m' => permB l m'
    | none => false
  | _, _ => false
theorem remP_perm {p : AV × AV} : ∀ {l m : List (AV × AV)}, remP p l = some m → l.Perm (p :: m)
  | [], m, h => by simp [remP] at h
  | q :: l, m, h => by
    simp only [remP] at h
    split at h
    · rename_i he
      rw [Bool.and_eq_true] at he
      injection h with h
      subst h
      have : p = q := Prod.ext (avEq_eq he.1) (avEq_eq he.2)
      rw [this]
    · split at h
      · rename_i m' hm
        injection h with h
        subst h
        exact ((remP_perm hm).cons q).trans (List.Perm.swap p q m')
      · contradiction
theorem permB_perm : ∀ {l m : List (AV × AV)}, permB l m = true → l.Perm m
  | [], m, h => by cases m <;> simp_all [permB]
  | p :: l, m, h => by
    simp only [permB] at h
    split at h
    · rename_i m' hm
      exact ((permB_perm h).cons p).trans (remP_perm hm).symm
    · cases h
def WeakB (x y : ABlk) : Prop := ∀ (P : Program) (φ : Nat → Loc) (dm : Nat → Prop) (w : World) (l : Loc), BlkRel P φ dm w l x → BlkRel P φ dm w l y
theorem WeakB.cells {n el s z : Nat} {f : Bool} {t t' : T AV} (h : ∀ i v, t'.get i = some v → t.get i = some v) : WeakB (.cells n t el f s z) (.cells n t' el f s z) := by
  rintro P φ dm w l ⟨c, zz, h1, h2, h3, h4, h5⟩
  exact ⟨c, zz, h1, h2, h3, h4, fun i v hv => h5 i v (h i v hv)⟩
theorem WeakB.map {l m : List (AV × AV)} (h : l.Perm m) : WeakB (.map l) (.map m) := by
  rintro P φ dm w lc ⟨es, cl, h1, h2, h3, h4, h5, h6⟩
  exact ⟨es, cl, h1, h2.trans (h.map _), (h.map _).nodup_iff.1 h3, fun p hp => h4 p (h.mem_iff.2 hp), h5, h6⟩
theorem WeakB.loop {ρ ρ' : T AV} {nt fn st d : Nat} {ps : List Nat} {a b : PC} {p : Option PC} (h : ∀ i v, ρ'.get i = some v → ρ.get i = some v) : WeakB (.loop ρ nt fn ps a b st p d) (.loop ρ' nt fn ps a b st p d) := by
  rintro P φ dm w lc ⟨L, h1, h0, h00, h2, h3, h4⟩
  exact ⟨L, h1, h0, h00, h2, fun t v hv => h3 t v (h t v hv), h4⟩
def joinB : ABlk → ABlk → Option ABlk
  | .cells n v e f s z, .cells n' v' e' f' s' z' => if n = n' ∧ e = e' ∧ f = f' ∧ s = s' ∧ z = z' then some (.cells n (interT joinV v v') e f s z) else none
  | .map l, .map l' => if permB l l' then some (.map l) else none
  | .dfd a, .dfd b => if a = b then some (.dfd a) else none
  | .loop ρ nt fn ps a b st p d, .loop ρ' nt' fn' ps' a' b' st' p' d' => if nt = nt' ∧ fn = fn' ∧ ps = ps' ∧ st = st' ∧ d = d' ∧ a = a' ∧ b = b' ∧ p = p' then some (.loop (interT joinV ρ ρ') nt fn ps a b st p d) else none
  | _, _ => none
theorem joinB_some {x y z : ABlk} (h : joinB x y = some z) : WeakB x z ∧ WeakB y z ∧ ∀ m l c, z ≠ .iter m l c := by
  unfold joinB at h
  split at h
  · split at h
    · rename_i hc
      obtain ⟨rfl, rfl, rfl, rfl, rfl⟩ := hc
      injection h with h
      subst h
      refine ⟨.cells fun i v hv => ?_, .cells fun i v hv => ?_, by intros; simp⟩
      · obtain ⟨a, b, h1, h2, h3⟩ := interT_get _ _ _ _ _ hv
        rw [h1, (joinV_some h3).1]
      · obtain ⟨a, b, h1, h2, h3⟩ := interT_get _ _ _ _ _ hv
        rw [h2, (joinV_some h3).2]
    · contradiction
  · split at h
    · rename_i hp
      injection h with h
      subst h
      exact ⟨fun _ _ _ _ _ h => h, .map (permB_perm hp).symm, by intros; simp⟩
    · contradiction
  · split at h
    · rename_i he
      subst he
      injection h with h
      subst h
      exact ⟨fun _ _ _ _ _ h => h, fun _ _ _ _ _ h => h, by intros; simp⟩
    · contradiction
  · split at h
    · rename_i hc
      obtain ⟨rfl, rfl, rfl, rfl, rfl, rfl, rfl, rfl⟩ := hc
      injection h with h
      subst h
      refine ⟨.loop fun i v hv => ?_, .loop fun i v hv => ?_, by intros; simp⟩
      · obtain ⟨a, b, h1, h2, h3⟩ := interT_get _ _ _ _ _ hv
        rw [h1, (joinV_some h3).1]
      · obtain ⟨a, b, h1, h2, h3⟩ := interT_get _ _ _ _ _ hv
        rw [h2, (joinV_some h3).2]
    · contradiction
  · contradiction
def WeakH (H K : AH) : Prop := (∀ k y, K.bl.get k = some y → (∃ x, H.bl.get k = some x ∧ WeakB x y) ∧ ∀ m l c, y ≠ .iter m l c) ∧ H.next ≤ K.next
theorem WeakH.trans {H K L : AH} (h : WeakH H K) (h' : WeakH K L) : WeakH H L := by
  refine ⟨fun k y hy => ?_, Nat.le_trans h.2 h'.2⟩
  obtain ⟨⟨x, h1, h2⟩, h3⟩ := h'.1 k y hy
  obtain ⟨⟨z, h4, h5⟩, _⟩ := h.1 k x h1
  exact ⟨⟨z, h4, fun P φ dm w l hz => h2 P φ dm w l (h5 P φ dm w l hz)⟩, h3⟩
theorem Rel.weakH {P : Program} {φ : Nat → Loc} {dm : Nat → Prop} {H K : AH} {w : World} (hr : Rel P φ dm H w) (h : WeakH H K) (lo : Nat) : Rel P φ dm K w ∧ GrowS lo φ dm H w φ dm K w := by
  refine ⟨⟨fun k y hy hd => ?_, fun k k' y y' hy hy' hd hd' he => ?_, fun k hk => Nat.lt_of_lt_of_le (hr.next k hk) h.2, hr.glob, fun k m l c hk hd => ?_, fun k m l c k' l' c' hk _ _ _ => ?_⟩, ⟨fun _ h => h, fun _ _ => rfl, rfl, rfl, rfl, Nat.le_refl _, fun _ _ _ => rfl, fun i ⟨k, y, hk, hd, he⟩ => .inr ?_, h.2, fun _ h => .inl h⟩⟩
  · obtain ⟨⟨x, h1, h2⟩, _⟩ := h.1 k y hy
    exact h2 _ _ _ _ _ (hr.blk k x h1 hd)
  · obtain ⟨⟨x, h1, _⟩, _⟩ := h.1 k y hy
    obtain ⟨⟨x', h1', _⟩, _⟩ := h.1 k' y' hy'
    exact hr.inj k k' x x' h1 h1' hd hd' he
  · exact absurd rfl ((h.1 k _ hk).2 m l c)
  · exact absurd rfl ((h.1 k _ hk).2 m l c)
  · obtain ⟨⟨x, h1, _⟩, _⟩ := h.1 k y hk
    exact ⟨k, x, h1, hd, he⟩
def WeakF (a r : AF) : Prop := r = a ∨ (a.dr = none ∧ r = { a with ρ := r.ρ } ∧ ∀ t v, r.ρ.get t = some v → a.ρ.get t = some v)
theorem WeakF.lo {a r : AF} (h : WeakF a r) : r.lo = a.lo := by
  rcases h with h | h
  · rw [h]
  · rw [h.2.1]
theorem WeakF.trans {a b c : AF} (h : WeakF a b) (h' : WeakF b c) : WeakF a c := by
  rcases h with rfl | h
  · exact h'
  rcases h' with rfl | h'
  · exact .inr h
  refine .inr ⟨h.1, ?_, fun t v hv => h.2.2 t v (h'.2.2 t v hv)⟩
  rw [h'.2.1, h.2.1]
theorem FrRel.weak {P : Program} {φ : Nat → Loc} {dm : Nat → Prop} {a r : AF} {fr : Frame} (h : FrRel P φ dm a fr) (hw : WeakF a r) : FrRel P φ dm r fr := by
  rcases hw with rfl | ⟨h1, h2, h3⟩
  · exact h
  rw [h2]
  exact ⟨h.fn, h.fun_, h.size, fun t v hv => h.reg t v (h3 t v hv), h.todo, h.ds, h.mode, h.kind, h.round, h.nd⟩
theorem FrX.weak {P : Program} {φ : Nat → Loc} {dm : Nat → Prop} {hi : Nat} {a r : AF} {fr : Frame} (h : FrX P φ dm hi a fr) (hw : WeakF a r) : FrX P φ dm hi r fr := by
  rcases hw with rfl | hw
  · exact h
  have hd : r.dr = none := by rw [hw.2.1]; exact hw.1
  exact ((h.nd hw.1).weak (.inr hw)).x
def WeakC : List AF → List AF → Prop
  | [], [] => True
  | a :: l, r :: m => WeakF a r ∧ WeakC l m
  | _, _ => False
theorem Stk.weak {P : Program} {φ : Nat → Loc} {dm : Nat → Prop} : ∀ {hi : Nat} {l m : List AF} {fs : List Frame}, Stk P φ dm hi l fs → WeakC l m → Stk P φ dm hi m fs
  | _, [], [], _, h, _ => h
  | _, a :: l, r :: m, _, .cons h hl t, hw => by
    have hlo : r.lo = a.lo := hw.1.lo
    exact .cons (h.weak hw.1) (by rw [hlo]; exact hl) (by rw [hlo]; exact t.weak hw.2)
  | _, [], _ :: _, _, _, hw => hw.elim
  | _, _ :: _, [], _, _, hw => hw.elim
def WeakS (a r : AS) : Prop := WeakF a.fr r.fr ∧ WeakC a.cs r.cs ∧ WeakH a.H r.H
section
variable {P : Program} {C : T PF} {φ : Nat → Loc} {dm : Nat → Prop} {bs : List Frame} {s s' : AS} {fr : Frame} {frs cs : List Frame} {w w' : World}
theorem SRelX.weak {r : AS} (R : SRelX P φ dm bs s fr frs w) (h : WeakS s r) : SRelX P φ dm bs r fr frs w ∧ GrowS s.fr.lo φ dm s.H w φ dm r.H w := by
  obtain ⟨h1, h2, h3⟩ := h
  obtain ⟨r1, r2⟩ := R.heap.weakH h3 s.fr.lo
  have hlo : r.fr.lo = s.fr.lo := h1.lo
  exact ⟨⟨(R.fr.weak h1).hi_le h3.2, by rw [hlo]; exact Nat.le_trans R.hlo h3.2, by rw [hlo]; exact R.cs.weak h2, r1⟩, r2⟩
def lenEq : List AI → List AI → Bool
  | [], [] => true
  | _ :: l, _ :: m => lenEq l m
  | _, _ => false
def atJoin (k : List AI) (s : AS) : Bool :=
  match s.cs, s.fr.dr, s.fr.mode with
  | [], none, .run => match lenEq s.fr.todo k with
    | true => decide (s.fr.todo = k)
    | false => false
  | _, _, _ => false
def runTo (f : AS → Option AS) (lo : Nat) (k : List AI) : Nat → AS → Option AS
  | 0, _ => none
  | n + 1, s => match atJoin k s with
    | true => some s
    | false => match f s with
      | some s' => match Nat.ble lo s'.fr.lo with
        | true => runTo f lo k n s'
        | false => none
      | none => none
def joinS (a b : AS) : Option AS :=
  match a.cs, b.cs, a.fr.dr, b.fr.dr, a.fr.mode, b.fr.mode with
  | [], [], none, none, .run, .run =>
    if a.fr.fn = b.fr.fn ∧ a.fr.nt = b.fr.nt ∧ a.fr.deferred = b.fr.deferred ∧ a.fr.round = b.fr.round ∧ a.fr.lo = b.fr.lo ∧ a.fr.ds = b.fr.ds ∧ a.fr.todo = b.fr.todo then
      some { fr := { a.fr with ρ := interT joinV a.fr.ρ b.fr.ρ }, cs := [], H := ⟨interT joinB a.H.bl b.H.bl, max a.H.next b.H.next⟩ }
    else none
  | _, _, _, _, _, _ => none
theorem joinS_some {a b r : AS} (h : joinS a b = some r) : WeakS a r ∧ WeakS b r := by
  unfold joinS at h
  split at h
  · rename_i h1 h2 h3 h4 h5 h6
    split at h
    · rename_i hc
      obtain ⟨c1, c2, c3, c4, c5, c6, c7⟩ := hc
      injection h with h
      subst h
      refine ⟨⟨.inr ⟨h3, rfl, fun t v hv => ?_⟩, by rw [h1]; trivial, fun k y hy => ?_, Nat.le_max_left _ _⟩, ⟨.inr ⟨h4, ?_, fun t v hv => ?_⟩, by rw [h2]; trivial, fun k y hy => ?_, Nat.le_max_right _ _⟩⟩
      · obtain ⟨x, y, q1, q2, q3⟩ := interT_get _ _ _ _ _ hv
        rw [q1, (joinV_some q3).1]
      · obtain ⟨x, z, q1, q2, q3⟩ := interT_get _ _ _ _ _ hy
        exact ⟨⟨x, q1, (joinB_some q3).1⟩, (joinB_some q3).2.2⟩
      · obtain ⟨⟨fn, nt, ρ, todo, ds, mode, dfd, round, dr, lo⟩, cs, H⟩ := a
        obtain ⟨⟨fn', nt', ρ', todo', ds', mode', dfd', round', dr', lo'⟩, cs', H'⟩ := b
        simp only at c1 c2 c3 c4 c5 c6 c7 h3 h4 h5 h6 ⊢
        subst c1 c2 c3 c4 c5 c6 c7 h3 h4 h5 h6
        rfl
      · obtain ⟨x, y, q1, q2, q3⟩ := interT_get _ _ _ _ _ hv
        rw [q2, (joinV_some q3).2]
      · obtain ⟨x, z, q1, q2, q3⟩ := interT_get _ _ _ _ _ hy
        exact ⟨⟨z, q2, (joinB_some q3).2.1⟩, (joinB_some q3).2.2⟩
    · contradiction
  · contradiction
def joinAll (f : AS → Option AS) : List AS → Option AS
  | [] => none
  | s :: l => match l with
    | [] => f s
    | _ :: _ => match f s with
      | some a => match joinAll f l with
        | some b => joinS a b
        | none => none
      | none => none
theorem WeakS.trans {a b c : AS} (h : WeakS a b) (h' : WeakS b c) : WeakS a c := by
  have key : ∀ (l m n : List AF), WeakC l m → WeakC m n → WeakC l n := by
    intro l
    induction l with
    | nil => intro m n h1 h2; cases m with
      | nil => exact h2
      | cons _ _ => exact h1.elim
    | cons x l ih => intro m n h1 h2; cases m with
      | nil => exact h1.elim
      | cons y m => cases n with
        | nil => exact h2.elim
        | cons z n => exact ⟨h1.1.trans h2.1, ih m n h1.2 h2.2⟩
  exact ⟨h.1.trans h'.1, key _ _ _ h.2.1 h'.2.1, h.2.2.trans h'.2.2⟩
theorem joinAll_some {f : AS → Option AS} : ∀ {l : List AS} {r : AS}, joinAll f l = some r → ∀ s ∈ l, ∃ a, f s = some a ∧ (a = r ∨ WeakS a r)
  | [], r, h, s, hs => by cases hs
  | x :: l, r, h, s, hs => by
    unfold joinAll at h
    split at h
    · rw [List.mem_singleton] at hs
      subst hs
      exact ⟨r, h, .inl rfl⟩
    · rename_i y l
      split at h
      · rename_i a ha
        split at h
        · rename_i b hb
          obtain ⟨j1, j2⟩ := joinS_some h
          rcases List.mem_cons.1 hs with rfl | hs
          · exact ⟨a, ha, .inr j1⟩
          · obtain ⟨a', h1, h2⟩ := joinAll_some hb s hs
            refine ⟨a', h1, .inr ?_⟩
            rcases h2 with rfl | h2
            · exact j2
            · exact h2.trans j2
        · contradiction
      · contradiction
def afterLoop : List AI → List AI
  | .inLoop _ :: .inBlock _ :: k => k
  | .inLoop _ :: k => k
  | _ :: k => afterLoop k
  | [] => []
def nextWays (s : AS) (b : Nat) : Nat → List AS
  | 0 => []
  | n + 1 => match nextA s.H b n with
    | some (v, H) => match finish s.fr v with
      | some fr => { fr, cs := [], H } :: nextWays s b n
      | none => []
    | none => []
def lateA (H : AH) (b : Nat) (k : List AI) : List AI :=
  match H.bl.get b with
  | some (.iter m _ _) => match H.bl.get m with
    | some (.mapL (_ :: _ :: _ :: _)) => match k with
      | .code (.seq _ y) :: kk => .code y :: kk
      | k => k
    | _ => k
  | _ => k
def forkOf (s : AS) : Option (List AS × List AI) :=
  match s.fr.dr, s.fr.mode with
  | none, .run => match s.fr.todo with
    | .code (.fork ls) :: k => some (ls.map fun l => { s with fr := { s.fr with todo := .inReg l :: k }, cs := [] }, k.tail)
    | .inReg (o :: _l) :: k => match o.ir with
      | .nextM x => match x.ev s.fr.ρ.get, o.guard with
        | some (.ptr b 0), none => if waysA s.H b ≤ 1 ∨ (nextWays s b (waysA s.H b)).length ≠ waysA s.H b then none else some (nextWays s b (waysA s.H b), lateA s.H b (afterLoop k))
        | _, _ => none
      | _ => none
    | _ => none
  | _, _ => none
def big (C : T PF) : Nat → AS → Option AS
  | 0, s => stepA C s
  | d + 1, s => match forkOf s with
    | none => stepA C s
    | some (ws, k) => match joinAll (runTo (big C d) s.fr.lo k 1000000) ws with
      | some r => if r.fr.lo = s.fr.lo then some { r with cs := s.cs } else none
      | none => none
def StepSound (P : Program) (f : AS → Option AS) : Prop := ∀ (φ : Nat → Loc) (dm : Nat → Prop) (bs : List Frame) (s s' : AS) (fr : Frame) (frs : List Frame) (w : World), SRelX P φ dm bs s fr frs w → f s = some s' → Sim P φ dm bs s s' fr frs w
end
end
end Ex
end Go.Proofs.YtfehlbepjmmkeaaGreatDoor
namespace Go.Proofs.YtfehlbepjmmkeaaGreatDoor
open Go.RowKit
namespace Ex
noncomputable section
variable {P : Program} {C : T PF} {φ : Nat → Loc} {dm : Nat → Prop} {bs : List Frame} {s s' s1 s2 : AS} {fr : Frame} {frs cs : List Frame} {w w' : World}
def SimL (lo : Nat) (P : Program) (φ : Nat → Loc) (dm : Nat → Prop) (bs : List Frame) (s s' : AS) (fr : Frame) (frs : List Frame) (w : World) : Prop :=
  ∃ φ' dm' fr' frs' w', Steps P (lone fr (frs ++ bs) w) (lone fr' (frs' ++ bs) w') ∧ SRelX P φ' dm' bs s' fr' frs' w' ∧ GrowS lo φ dm s.H w φ' dm' s'.H w'
theorem GrowS.low {lo lo' : Nat} {φ φ' : Nat → Loc} {dm dm' : Nat → Prop} {H H' : AH} {w w' : World} (h : GrowS lo φ dm H w φ' dm' H' w') (hl : lo' ≤ lo) : GrowS lo' φ dm H w φ' dm' H' w' :=
  ⟨h.dms, h.ph, h.os, h.tape, h.output, h.size, h.frame, h.range, h.next, fun b hb => (h.fresh b hb).imp id (Nat.le_trans hl)⟩
theorem SimL.bind {lo : Nat} (h : SimL lo P φ dm bs s s1 fr frs w) (h' : ∀ {φ : Nat → Loc} {dm : Nat → Prop} {fr : Frame} {frs : List Frame} {w : World}, SRelX P φ dm bs s1 fr frs w → SimL lo P φ dm bs s1 s2 fr frs w) : SimL lo P φ dm bs s s2 fr frs w := by
  obtain ⟨φ1, dm1, fr1, frs1, w1, a1, a2, a3⟩ := h
  obtain ⟨φ2, dm2, fr2, frs2, w2, b1, b2, b3⟩ := h' a2
  exact ⟨φ2, dm2, fr2, frs2, w2, a1.trans b1, b2, a3.trans b3 (Nat.le_refl _)⟩
theorem Sim.low (h : Sim P φ dm bs s s' fr frs w) {lo : Nat} (hl : lo ≤ s.fr.lo) : SimL lo P φ dm bs s s' fr frs w := by
  obtain ⟨φ1, dm1, fr1, frs1, w1, a1, a2, a3⟩ := h
  exact ⟨φ1, dm1, fr1, frs1, w1, a1, a2, a3.low hl⟩
theorem runTo_sound {f : AS → Option AS} (hf : StepSound P f) {lo : Nat} {k : List AI} : ∀ (n : Nat) {s s' : AS} {φ : Nat → Loc} {dm : Nat → Prop} {fr : Frame} {frs : List Frame} {w : World}, SRelX P φ dm bs s fr frs w → lo ≤ s.fr.lo → runTo f lo k n s = some s' → SimL lo P φ dm bs s s' fr frs w ∧ atJoin k s' = true
  | 0, s, s', φ, dm, fr, frs, w, R, hl, h => by simp [runTo] at h
  | n + 1, s, s', φ, dm, fr, frs, w, R, hl, h => by
    simp only [runTo] at h
    split at h
    · rename_i hj
      injection h with h
      subst h
      exact ⟨⟨φ, dm, fr, frs, w, Steps.refl P _, R, .refl _ _ _ _ _⟩, hj⟩
    · split at h
      · rename_i s1 h1
        split at h
        · rename_i hle
          have hle' : lo ≤ s1.fr.lo := Nat.le_of_ble_eq_true hle
          have := (hf _ _ _ _ _ _ _ _ R h1).low hl
          obtain ⟨φ1, dm1, fr1, frs1, w1, a1, a2, a3⟩ := this
          obtain ⟨⟨φ2, dm2, fr2, frs2, w2, b1, b2, b3⟩, hj⟩ := runTo_sound hf n a2 hle' h
          exact ⟨⟨φ2, dm2, fr2, frs2, w2, a1.trans b1, b2, a3.trans b3 (Nat.le_refl _)⟩, hj⟩
        · contradiction
      · contradiction
theorem Stk.nil_inv {hi : Nat} {l : List Frame} (h : Stk P φ dm hi [] l) : l = [] := by cases h; rfl
theorem fork_way {f : AS → Option AS} (hf : StepSound P f) {k : List AI} {n : Nat} {s0 r a : AS} {fr0 : Frame} {φ0 : Nat → Loc} {dm0 : Nat → Prop} {w0 : World} (R : SRelX P φ dm bs s fr frs w)
    (hst : Steps P (lone fr (frs ++ bs) w) (lone fr0 (frs ++ bs) w0)) (R0 : SRelX P φ0 dm0 (frs ++ bs) s0 fr0 [] w0) (g0 : GrowS s.fr.lo φ dm s.H w φ0 dm0 s0.H w0) (hlo : s0.fr.lo = s.fr.lo) (ha : runTo f s.fr.lo k n s0 = some a) (hr : a = r ∨ WeakS a r)
    (hrlo : r.fr.lo = s.fr.lo) : Sim P φ dm bs s { r with cs := s.cs } fr frs w := by
  obtain ⟨⟨φ1, dm1, fr1, frs1, w1, a1, a2, a3⟩, hj⟩ := runTo_sound hf n R0 (by rw [hlo]; exact Nat.le_refl _) ha
  have hcs : a.cs = [] := by
    unfold atJoin at hj
    split at hj
    · rename_i h _ _; exact h
    · cases hj
  have hfr1 : frs1 = [] := by
    have := a2.cs
    rw [hcs] at this
    exact this.nil_inv
  subst hfr1
  have hR : ∃ φ2 dm2, SRelX P φ2 dm2 (frs ++ bs) r fr1 [] w1 ∧ GrowS s.fr.lo φ dm s.H w φ2 dm2 r.H w1 := by
    rcases hr with rfl | hw
    · exact ⟨φ1, dm1, a2, g0.trans a3 (Nat.le_refl _)⟩
    · obtain ⟨r1, r2⟩ := a2.weak hw
      have : r.fr.lo = a.fr.lo := by rw [hw.1.lo]
      exact ⟨φ1, dm1, r1, g0.trans (a3.trans (r2.low (by rw [← this, hrlo]; exact Nat.le_refl _)) (Nat.le_refl _)) (Nat.le_refl _)⟩
  obtain ⟨φ2, dm2, R2, G2⟩ := hR
  refine ⟨φ2, dm2, fr1, frs, w1, hst.trans a1, ⟨R2.fr, R2.hlo, ?_, R2.heap⟩, G2⟩
  show Stk P φ2 dm2 r.fr.lo s.cs frs
  rw [hrlo]
  exact R.cs.mono G2.dms G2.ph G2.fresh
theorem go_allLin (ops : Array Oper) : ∀ (fuel t : Nat) (listed : Array Bool), Region.linearise.go .any ops fuel t listed [] ∈ allLin ops fuel listed
  | 0, t, listed => by simp [Region.linearise.go, allLin]
  | fuel + 1, t, listed => by
    simp only [Region.linearise.go]
    change (match (Region.ready .any ops listed)[t % (Region.ready .any ops listed).length]? with
      | some i => Region.linearise.go .any ops fuel (t / (Region.ready .any ops listed).length) (listed.setIfInBounds i true) [i]
      | none => [].reverse) ∈ _
    rw [allLin]
    generalize Region.ready .any ops listed = rs
    cases rs with
    | nil => simp
    | cons r rs =>
      have hlt := Nat.mod_lt t (show 0 < (r :: rs).length by simp)
      rw [List.getElem?_eq_getElem hlt]
      simp only
      rw [linearise_go_acc, List.reverse_singleton, List.singleton_append, List.mem_flatMap]
      exact ⟨_, List.getElem_mem hlt, List.mem_map.2 ⟨_, go_allLin ops fuel _ _, rfl⟩⟩
theorem go_lt (ops : Array Oper) : ∀ (fuel t : Nat) (listed : Array Bool), ∀ i ∈ Region.linearise.go .any ops fuel t listed [], i < ops.size
  | 0, t, listed, i, hi => by simp [Region.linearise.go] at hi
  | fuel + 1, t, listed, i, hi => by
    simp only [Region.linearise.go] at hi
    change i ∈ (match (Region.ready .any ops listed)[t % (Region.ready .any ops listed).length]? with
      | some i => Region.linearise.go .any ops fuel (t / (Region.ready .any ops listed).length) (listed.setIfInBounds i true) [i]
      | none => [].reverse) at hi
    split at hi
    · rename_i j hj
      rw [linearise_go_acc, List.reverse_singleton, List.singleton_append] at hi
      rcases List.mem_cons.1 hi with rfl | hi
      · obtain ⟨_, o, ho, _⟩ := mem_ready.1 (List.mem_of_getElem? hj)
        exact (Array.getElem?_eq_some_iff.1 ho).1
      · exact go_lt ops fuel _ _ i hi
    · simp at hi
theorem all2_idx (ops : Array Oper) : ∀ (idx : List Nat), (∀ i ∈ idx, i < ops.size) → All2 (POk P ops) (idx.filterMap fun i => (ops[i]?).map (prepO P ops 0)) idx
  | [], _ => .nil
  | i :: l, h => by
    have hi : ops[i]? = some (ops[i]'(h i (by simp))) := Array.getElem?_eq_getElem _
    rw [List.filterMap_cons, hi]
    simp only [Option.map_some]
    exact .cons ⟨_, hi, rfl, rfl, rfl⟩ (all2_idx ops l fun j hj => h j (by simp [hj]))
theorem nextM_inv {op : Op} {u : Od} (h : prepOp P op = .nextM u) : ∃ it, op = .next it false ∧ odOf it = some u := by
  rcases prepOp_cases h with ⟨x, _, hx⟩ | h'
  · cases hx
  · replace h := h'
    clear h'
    cases op
    case next it b =>
      cases b with
      | true => simp only [prepM] at h; cases h
      | false =>
        simp only [prepM] at h
        split at h
        · rename_i v hv; injection h with h; subst h; exact ⟨it, rfl, hv⟩
        · cases h
    case slice t x lo hi mx =>
      cases mx <;> simp only [prepM] at h <;> repeat' split at h
      all_goals cases h
    case makeMap t r =>
      cases r <;> simp only [prepM] at h <;> repeat' split at h
      all_goals cases h
    all_goals
      simp only [prepM] at h
      repeat' split at h
      all_goals cases h
theorem nextWays_mem {b : Nat} : ∀ (n : Nat), (nextWays s b n).length = n → ∀ i, i < n → ∃ v H fr, nextA s.H b i = some (v, H) ∧ finish s.fr v = some fr ∧ (⟨fr, [], H⟩ : AS) ∈ nextWays s b n
  | 0, _, i, hi => by omega
  | n + 1, h, i, hi => by
    simp only [nextWays] at h ⊢
    split at h
    · rename_i v H hv
      split at h
      · rename_i fr hf
        by_cases hin : i = n
        · subst hin; exact ⟨v, H, fr, hv, hf, by simp⟩
        · obtain ⟨v', H', fr', h1, h2, h3⟩ := nextWays_mem n (by simpa using h) i (by omega)
          exact ⟨v', H', fr', h1, h2, List.mem_cons_of_mem _ h3⟩
      · simp at h
    · simp at h
theorem big_sound (E : Ext P) (hC : Table P C) : ∀ d, StepSound P (big C d)
  | 0 => fun _ _ _ _ _ _ _ _ R h => stepA_sound E hC R h
  | d + 1 => fun φ dm bs s s' fr frs w R h => by
    simp only [big] at h
    split at h
    · exact stepA_sound E hC R h
    · rename_i ws k hfork
      split at h
      · rename_i r hjoin
        split at h
        · rename_i hc
          injection h with h
          subst h
          have ih := big_sound E hC d
          unfold forkOf at hfork
          split at hfork
          · rename_i hd hm
            have R' := R.plain hd
            have hmode : fr.mode = .run := by have := R'.fr.mode; rw [hm] at this; exact this
            have htodo := R'.fr.todo hm
            split at hfork
            · rename_i ls kk hk
              injection hfork with hfork
              injection hfork with hws hkk
              rw [hk] at htodo
              cases ht : fr.todo with
              | nil => rw [ht] at htodo; cases htodo
              | cons y ys =>
                rw [ht] at htodo
                cases htodo with
                | cons hy hys =>
                  cases y with
                  | code c' =>
                    have hcc : prepC P c' = .fork ls := hy
                    have hreg : ∃ id ops, c' = .region id ops true ∧ prepDrawn P ops = .fork ls := by
                      cases c' with
                      | region id ops dr =>
                        cases dr with
                        | true => exact ⟨id, ops, rfl, by simpa only [prepC] using hcc⟩
                        | false => simp [prepC] at hcc
                      | cond o x z => simp only [prepC] at hcc; split at hcc <;> cases hcc
                      | rangeFunc o x z u => simp only [prepC] at hcc; split at hcc <;> cases hcc
                      | _ => simp [prepC] at hcc
                    obtain ⟨id, ops, rfl, hpd⟩ := hreg
                    rcases prepDrawn_cases (P := P) ops with ⟨F, hF⟩ | hF | hF
                    · rw [hF] at hpd; cases hpd
                    · rw [hF] at hpd; cases hpd
                    rw [hF] at hpd
                    injection hpd with hls
                    obtain ⟨t, hst⟩ := st_drawn (P := P) (cs := frs ++ bs) (w := w) hmode ht E.mix
                    obtain ⟨r1, g1⟩ := R'.heap.same (w' := w.drew) rfl rfl rfl rfl
                    have hmem := go_allLin ops ops.size t (Array.replicate ops.size false)
                    have hlt := go_lt ops ops.size t (Array.replicate ops.size false)
                    obtain ⟨idx, hidx⟩ : ∃ idx, idx = Region.linearise .any ops t := ⟨_, rfl⟩
                    have hmem' : idx ∈ allLin ops ops.size (Array.replicate ops.size false) := by rw [hidx]; exact hmem
                    have hlt' : ∀ i ∈ idx, i < ops.size := by rw [hidx]; exact hlt
                    rw [← hidx] at hst
                    obtain ⟨s0, hs0⟩ : ∃ s0 : AS, s0 = { s with fr := { s.fr with todo := .inReg (idx.filterMap fun i => (ops[i]?).map (prepO P ops 0)) :: kk }, cs := [] } := ⟨_, rfl⟩
                    have hsm : s0 ∈ ws := by
                      rw [← hws, ← hls, hs0]
                      exact List.mem_map.2 ⟨_, List.mem_map.2 ⟨idx, hmem', rfl⟩, rfl⟩
                    obtain ⟨a, ha, har⟩ := joinAll_some hjoin s0 hsm
                    have R0 : SRelX P φ dm (frs ++ bs) s0 { fr with todo := .inRegion ops idx :: ys } [] w.drew := by
                      rw [hs0]
                      exact SRel.x ⟨⟨R'.fr.fn, R'.fr.fun_, R'.fr.size, R'.fr.reg, fun _ => .cons (all2_idx ops idx hlt') hys, R'.fr.ds, R'.fr.mode, R'.fr.kind, R'.fr.round, R'.fr.nd⟩, R'.hlo, .nil, r1⟩
                    exact fork_way ih R (.one hst) R0 (by rw [hs0]; exact g1.s R.hlo) (by rw [hs0]) ha har hc
                  | _ => exact (by first | exact hy.elim | cases hy)
            · rename_i o l kk hk
              split at hfork
              · rename_i x hir
                split at hfork
                · rename_i b hx hg
                  split at hfork
                  · contradiction
                  · rename_i hways
                    injection hfork with hfork
                    injection hfork with hws hkk
                    obtain ⟨op, A⟩ := atOp R' hm hk (by rw [hg]; rfl)
                    obtain ⟨it, hop, hit⟩ := nextM_inv (A.ir.symm.trans hir)
                    obtain ⟨ops, i, rest, k0, ht, ho, hw⟩ := A.at_
                    obtain ⟨e1, e2⟩ := od_spec R'.rr hit hx
                    have hlen : (nextWays s b (waysA s.H b)).length = waysA s.H b := by
                      rcases Decidable.em ((nextWays s b (waysA s.H b)).length = waysA s.H b) with h | h
                      · exact h
                      · exact absurd (.inr h) hways
                    obtain ⟨j, v, H1, q1, q2, q3⟩ := next_sound (t := op.type) R'.heap e2 (fun i hi => by
                      obtain ⟨v, H, f1, p1, _⟩ := nextWays_mem _ hlen i hi
                      rw [p1]; rfl)
                    obtain ⟨v', H', f1, p1, p2, p3⟩ := nextWays_mem _ hlen j q1
                    rw [q2] at p1
                    injection p1 with p1
                    injection p1 with p4 p5
                    subst p4 p5
                    rw [hws] at p3
                    obtain ⟨a, ha, har⟩ := joinAll_some hjoin _ p3
                    obtain ⟨φ1, dm1, w1, nx, n1, n2, n3, n4, n5⟩ := q3
                    have hnd : ∀ c, op.op ≠ .defer c := by rw [hop]; simp
                    have hex : (execOp fr.eval op).run P w = .ok nx w1 := by
                      rw [← n1, ← eval_frame (s := s) R'.fr, ← e1]
                      obtain ⟨dst, opp, type, pos, after, guard⟩ := op
                      simp only at hop
                      subst hop
                      rfl
                    have hfx := finishX p2 ((R'.fr.mono n5.dms n5.ph).x (hi := s.H.next)) n3
                    have hst : step P (lone fr (frs ++ bs) w) = .next (lone (fr.finish (conc φ1 v)) (frs ++ bs) w1) := by
                      rcases n2 with rfl | ⟨rfl, rfl⟩
                      · exact st_value A.mode ht ho hw (.inr hnd) hex
                      · exact st_skipped A.mode ht ho hw (.inr hnd) hex
                    have R0 : SRelX P φ1 dm1 (frs ++ bs) ⟨f1, [], H1⟩ (fr.finish (conc φ1 v)) [] w1 := ⟨hfx.1.hi_le n5.next, by show f1.lo ≤ H1.next; rw [hfx.2]; exact Nat.le_trans R.hlo n5.next, .nil, n4⟩
                    exact fork_way ih R (.one hst) R0 (n5.s R.hlo) hfx.2 ha har hc
                · contradiction
              · contradiction
            · contradiction
          · contradiction
        · contradiction
      · contradiction
def bigs (C : T PF) (d : Nat) : Nat → AS → Option AS
  | 0, s => some s
  | n + 1, s => match big C d s with
    | some s' => bigs C d n s'
    | none => none
theorem bigs_sound (E : Ext P) (hC : Table P C) (d : Nat) : ∀ (n : Nat) {s s' : AS} {φ : Nat → Loc} {dm : Nat → Prop} {fr : Frame} {frs : List Frame} {w : World}, SRelX P φ dm bs s fr frs w → bigs C d n s = some s' → SimL 0 P φ dm bs s s' fr frs w
  | 0, s, s', φ, dm, fr, frs, w, R, h => by injection h with h; subst h; exact ⟨φ, dm, fr, frs, w, Steps.refl P _, R, .refl _ _ _ _ _⟩
  | n + 1, s, s', φ, dm, fr, frs, w, R, h => by
    simp only [bigs] at h
    split at h
    · rename_i s1 h1
      exact ((big_sound E hC d _ _ _ _ _ _ _ _ R h1).low (Nat.zero_le _)).bind fun R1 => bigs_sound E hC d n R1 h
    · contradiction
end
end Ex
end Go.Proofs.YtfehlbepjmmkeaaGreatDoor
namespace Go.Proofs.YtfehlbepjmmkeaaGreatDoor
open Go.RowKit
namespace Ex
noncomputable section
def leT {α : Type} (f : α → α → Bool) : T α → T α → Bool
  | _, .E => true
  | .N v l r, .N v' l' r' => (match v', v with | none, _ => true | some y, some x => f x y | some _, none => false) && leT f l l' && leT f r r'
  | .E, .N v' l' r' => (match v' with | none => true | some _ => false) && leT f .E l' && leT f .E r'
theorem leT_get {α : Type} (f : α → α → Bool) : ∀ (t u : T α) (k : Nat) (y : α), leT f t u = true → u.get k = some y → ∃ x, t.get k = some x ∧ f x y = true
  | t, .E, k, y, _, h => by rw [T.get_E] at h; cases h
  | .N v l r, .N v' l' r', k, y, h, hu => by
    simp only [leT, Bool.and_eq_true] at h
    rw [T.get_N] at hu ⊢
    split at hu
    · rename_i hk
      rw [if_pos hk]
      subst hu
      cases v with
      | none => simp at h
      | some x => exact ⟨x, rfl, by simpa using h.1.1⟩
    · rename_i hk
      rw [if_neg hk]
      split at hu
      · rename_i hk2; rw [if_pos hk2]; exact leT_get f l l' _ y h.1.2 hu
      · rename_i hk2; rw [if_neg hk2]; exact leT_get f r r' _ y h.2 hu
  | .E, .N v' l' r', k, y, h, hu => by
    exfalso
    simp only [leT, Bool.and_eq_true] at h
    rw [T.get_N] at hu
    split at hu
    · subst hu; simp at h
    · split at hu
      · obtain ⟨x, hx, _⟩ := leT_get f .E l' _ y h.1.2 hu; rw [T.get_E] at hx; cases hx
      · obtain ⟨x, hx, _⟩ := leT_get f .E r' _ y h.2 hu; rw [T.get_E] at hx; cases hx
def leB : ABlk → ABlk → Bool
  | .cells n v e f s z, .cells n' v' e' f' s' z' => Nat.beq n n' && Nat.beq e e' && f == f' && Nat.beq s s' && Nat.beq z z' && leT avEq v v'
  | .map l, .map l' => permB l l'
  | .dfd a, .dfd b => a == b
  | .loop ρ nt fn ps a b st p d, .loop ρ' nt' fn' ps' a' b' st' p' d' => decide (nt = nt' ∧ fn = fn' ∧ ps = ps' ∧ st = st' ∧ d = d' ∧ a = a' ∧ b = b' ∧ p = p') && leT avEq ρ ρ'
  | _, _ => false
theorem leB_spec {x y : ABlk} (h : leB x y = true) : WeakB x y ∧ ∀ m l c, y ≠ .iter m l c := by
  have avt : ∀ {t u : T AV}, leT avEq t u = true → ∀ i v, u.get i = some v → t.get i = some v := by
    intro t u h i v hv
    obtain ⟨x, h1, h2⟩ := leT_get _ _ _ _ _ h hv
    rw [h1, avEq_eq h2]
  unfold leB at h
  split at h
  · simp only [Bool.and_eq_true, beq_iff_eq] at h
    obtain ⟨⟨⟨⟨⟨h1, h2⟩, h3⟩, h4⟩, h5⟩, h6⟩ := h
    rw [Nat.eq_of_beq_eq_true h1, Nat.eq_of_beq_eq_true h2, h3, Nat.eq_of_beq_eq_true h4, Nat.eq_of_beq_eq_true h5]
    exact ⟨.cells (avt h6), by intros; simp⟩
  · exact ⟨.map (permB_perm h), by intros; simp⟩
  · rw [beq_iff_eq] at h; subst h; exact ⟨fun _ _ _ _ _ h => h, by intros; simp⟩
  · rw [Bool.and_eq_true, decide_eq_true_iff] at h
    obtain ⟨⟨rfl, rfl, rfl, rfl, rfl, rfl, rfl, rfl⟩, h6⟩ := h
    exact ⟨.loop (avt h6), by intros; simp⟩
  · cases h
def mdEq : AMd → AMd → Bool
  | .run, .run => true
  | .returning, .returning => true
  | _, _ => false
def teq : T AV → T AV → Bool
  | .E, .E => true
  | .N v l r, .N v' l' r' => (match v, v' with | none, none => true | some x, some y => avEq x y | _, _ => false) && teq l l' && teq r r'
  | _, _ => false
theorem teq_eq : ∀ {t u : T AV}, teq t u = true → t = u
  | .E, .E, _ => rfl
  | .N v l r, .N v' l' r', h => by
    simp only [teq, Bool.and_eq_true] at h
    obtain ⟨⟨h1, h2⟩, h3⟩ := h
    rw [teq_eq h2, teq_eq h3]
    cases v <;> cases v' <;> simp only [reduceCtorEq] at h1
    · rfl
    · rw [avEq_eq h1]
  | .E, .N .., h => by simp [teq] at h
  | .N .., .E, h => by simp [teq] at h
def leF (a r : AF) : Bool :=
  match a.dr, r.dr with
  | some d, some d' => match d.pend, d'.pend with
    | [], [] => Nat.beq a.fn r.fn && Nat.beq a.nt r.nt && decide (a.todo = r.todo) && decide (a.ds = r.ds) && mdEq a.mode r.mode && a.deferred == r.deferred && decide (a.round = r.round) && Nat.beq a.lo r.lo && teq a.ρ r.ρ && teq d.ρ d'.ρ && decide (d.rest = d'.rest) && decide (d.cur = d'.cur)
    | _, _ => false
  | none, none => Nat.beq a.fn r.fn && Nat.beq a.nt r.nt && decide (a.todo = r.todo) && decide (a.ds = r.ds) && mdEq a.mode r.mode && a.deferred == r.deferred && decide (a.round = r.round) && Nat.beq a.lo r.lo && leT avEq a.ρ r.ρ
  | _, _ => false
theorem leF_spec {a r : AF} (h : leF a r = true) : WeakF a r := by
  unfold leF at h
  split at h
  · rename_i d d' h1 h2
    left
    split at h
    · rename_i p1 p2
      simp only [Bool.and_eq_true, beq_iff_eq, decide_eq_true_iff] at h
      obtain ⟨⟨⟨⟨⟨⟨⟨⟨⟨⟨⟨q1, q2⟩, q3⟩, q4⟩, q5⟩, q6⟩, q7⟩, q8⟩, q9⟩, q10⟩, q11⟩, q12⟩ := h
      obtain ⟨fn, nt, ρ, todo, ds, mode, dfd, round, dr, lo⟩ := a
      obtain ⟨fn', nt', ρ', todo', ds', mode', dfd', round', dr', lo'⟩ := r
      obtain ⟨dρ, dp, dr1, dc⟩ := d
      obtain ⟨dρ', dp', dr1', dc'⟩ := d'
      simp only at q1 q2 q3 q4 q5 q6 q7 q8 q9 q10 q11 q12 h1 h2 p1 p2 ⊢
      have e1 := Nat.eq_of_beq_eq_true q1
      have e2 := Nat.eq_of_beq_eq_true q2
      have e8 := Nat.eq_of_beq_eq_true q8
      have e9 := teq_eq q9
      have e10 := teq_eq q10
      have e5 : mode = mode' := by unfold mdEq at q5; split at q5 <;> first | rfl | cases q5
      subst e1 e2 e8 e5 q3 q4 q6 q7 e9 e10 q11 q12 p1 p2 h1 h2
      rfl
    · cases h
  · rename_i h1 h2
    right
    simp only [Bool.and_eq_true, beq_iff_eq, decide_eq_true_iff] at h
    obtain ⟨⟨⟨⟨⟨⟨⟨⟨q1, q2⟩, q3⟩, q4⟩, q5⟩, q6⟩, q7⟩, q8⟩, q9⟩ := h
    refine ⟨h1, ?_, fun t v hv => ?_⟩
    · obtain ⟨fn, nt, ρ, todo, ds, mode, dfd, round, dr, lo⟩ := a
      obtain ⟨fn', nt', ρ', todo', ds', mode', dfd', round', dr', lo'⟩ := r
      simp only at q1 q2 q3 q4 q5 q6 q7 q8 h1 h2 ⊢
      have e1 := Nat.eq_of_beq_eq_true q1
      have e2 := Nat.eq_of_beq_eq_true q2
      have e8 := Nat.eq_of_beq_eq_true q8
      have e5 : mode = mode' := by unfold mdEq at q5; split at q5 <;> first | rfl | cases q5
      subst e1 e2 e8 e5 q3 q4 q6 q7 h1 h2
      rfl
    · obtain ⟨x, h3, h4⟩ := leT_get _ _ _ _ _ q9 hv
      rw [h3, avEq_eq h4]
  · cases h
def leC : List AF → List AF → Bool
  | [], [] => true
  | a :: l, r :: m => leF a r && leC l m
  | _, _ => false
theorem leC_spec : ∀ {l m : List AF}, leC l m = true → WeakC l m
  | [], [], _ => trivial
  | a :: l, r :: m, h => by
    simp only [leC, Bool.and_eq_true] at h
    exact ⟨leF_spec h.1, leC_spec h.2⟩
  | [], _ :: _, h => by simp [leC] at h
  | _ :: _, [], h => by simp [leC] at h
def leS (a r : AS) : Bool := leF a.fr r.fr && leC a.cs r.cs && leT leB a.H.bl r.H.bl && Nat.ble a.H.next r.H.next
theorem leS_spec {a r : AS} (h : leS a r = true) : WeakS a r := by
  simp only [leS, Bool.and_eq_true] at h
  obtain ⟨⟨⟨h1, h2⟩, h3⟩, h4⟩ := h
  refine ⟨leF_spec h1, leC_spec h2, fun k y hy => ?_, Nat.le_of_ble_eq_true h4⟩
  obtain ⟨x, q1, q2⟩ := leT_get _ _ _ _ _ h3 hy
  exact ⟨⟨x, q1, (leB_spec q2).1⟩, (leB_spec q2).2⟩
section
variable {P : Program} {C : T PF} {φ : Nat → Loc} {dm : Nat → Prop} {bs : List Frame} {s s' s1 s2 : AS} {fr : Frame} {frs cs : List Frame} {w w' : World}
def Reach (P : Program) (s s' : AS) : Prop := ∀ (φ : Nat → Loc) (dm : Nat → Prop) (bs : List Frame) (fr : Frame) (frs : List Frame) (w : World), SRelX P φ dm bs s fr frs w → SimL 0 P φ dm bs s s' fr frs w
theorem Reach.trans (h : Reach P s s1) (h' : Reach P s1 s2) : Reach P s s2 := fun φ dm bs fr frs w R => (h φ dm bs fr frs w R).bind fun R' => h' _ _ _ _ _ _ R'
def chk (C : T PF) (d n : Nat) (s r : AS) : Bool := match bigs C d n s with
  | some a => leS a r
  | none => false
theorem chk_reach (E : Ext P) (hC : Table P C) {d n : Nat} {r : AS} (h : chk C d n s r = true) : Reach P s r := by
  intro φ dm bs fr frs w R
  unfold chk at h
  split at h
  · rename_i a ha
    refine (bigs_sound E hC d n R ha).bind fun R1 => ?_
    obtain ⟨r1, r2⟩ := R1.weak (leS_spec h)
    exact ⟨_, _, _, _, _, Steps.refl P _, r1, r2.low (Nat.zero_le _)⟩
  · cases h
def doneA (C : T PF) (f : Nat) (s : AS) : Option AV :=
  match s.cs, s.fr.mode, s.fr.ds, s.fr.dr, C.get s.fr.fn with
  | [], .returning, [], none, some pf => if s.fr.fn = f ∧ s.fr.deferred = false then resA pf s.fr.ρ s.H else none
  | _, _, _, _, _ => none
theorem calls_of_reach (hC : Table P C) {f lo : Nat} {args : List AV} {H : AH} {af : AF} {v : AV} (he : enterA C f args false lo = some af) (hn : Reach P ⟨af, [], H⟩ s) (hd : doneA C f s = some v)
    (hlo : lo ≤ H.next) (hr : Rel P φ dm H w) (ha : scL dm args) :
    Calls P f (concL φ args).toArray w fun e w' => ∃ φ' dm', e = .returned (conc φ' v) ∧ sc dm' v ∧ Rel P φ' dm' s.H w' ∧ GrowS 0 φ dm H w φ' dm' s.H w' := by
  intro cs
  obtain ⟨e1, _, e3, e4, e5, e6⟩ := enterA_sound (φ := φ) hC he ha
  obtain ⟨φ', dm', fr', frs', w', h1, h2, h3⟩ := hn φ dm cs (Frame.enter P f (concL φ args).toArray .normal) [] w (SRel.x ⟨e1, by show af.lo ≤ H.next; omega, .nil, hr⟩)
  unfold doneA at hd
  split at hd
  · rename_i pf q1 q2 q3 q0 q4
    split at hd
    · rename_i hf
      obtain ⟨hf1, hf2⟩ := hf
      have hfrs : frs' = [] := by
        have := h2.cs
        rw [q1] at this
        exact this.nil_inv
      subst hfrs
      have h2' := h2.plain q0
      obtain ⟨fn, cc, t1, t2, t3, t4⟩ := hC _ _ q4
      rw [t4] at hd
      obtain ⟨r1, r2⟩ := results_sound (tmps := fr'.tmps) h2'.fr.reg h2.heap hd
      have hmode : fr'.mode = .returning := by have := h2'.fr.mode; rw [q2] at this; exact this
      have hdef : fr'.defers = [] := by
        have := h2'.fr.ds
        rw [q3] at this
        cases hd : fr'.defers with
        | nil => rfl
        | cons y ys => rw [hd] at this; cases this
      have hkind : fr'.kind = .normal := by have := h2'.fr.kind; rw [hf2] at this; exact this
      have hfn : fr'.fn = f := by rw [h2'.fr.fn, hf1]
      refine ⟨.returned (conc φ' v), w', fr', ⟨φ', dm', rfl, r2, h2.heap, h3⟩, h1, hfn, hmode, hdef, hkind, fn, ?_, r1⟩
      rw [h2'.fr.fn]; exact t1
    · contradiction
  · contradiction
end
end
end Ex
end Go.Proofs.YtfehlbepjmmkeaaGreatDoor
