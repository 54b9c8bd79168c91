/-
  The order as a whole: groups in a chain, the list's block, the table of stamps; plain facts about lists of groups. No condition.
-/
import Derived.Test.YtijceljhpbdnnaaHeap
namespace Go.Proofs.Ytijceljhpbdnnaa
open Go.RowKit

def headB (nx : Option Nat) : List Grp → Option Nat
  | [] => nx
  | g :: _ => some g.b
def lastB (pv : Option Nat) : List Grp → Option Nat
  | [] => pv
  | g :: gs => lastB (some g.b) gs
/-- The groups gs lie in w, each leading to the next; ahead of them is pv, behind them nx. -/
def Seg (w : World) : Option Nat → List Grp → Option Nat → Prop
  | _, [], _ => True
  | pv, g :: gs, nx => GroupAt w pv (headB nx gs) g ∧ Seg w (some g.b) gs nx
def stampsOf (gs : List Grp) : List Stp := gs.flatMap (·.ss)
def idsOf (gs : List Grp) : List Nat := (stampsOf gs).map (·.id)
def Grp.foot (g : Grp) : List Nat := g.b :: g.ss.map (·.b)
def foot (gs : List Grp) : List Nat := gs.flatMap Grp.foot

@[simp] theorem stampsOf_nil : stampsOf [] = [] := rfl
@[simp] theorem stampsOf_cons (g : Grp) (gs : List Grp) : stampsOf (g :: gs) = g.ss ++ stampsOf gs := rfl
@[simp] theorem stampsOf_append (l r : List Grp) : stampsOf (l ++ r) = stampsOf l ++ stampsOf r := by simp [stampsOf]
@[simp] theorem foot_nil : foot [] = [] := rfl
@[simp] theorem foot_cons (g : Grp) (gs : List Grp) : foot (g :: gs) = g.foot ++ foot gs := rfl
@[simp] theorem foot_append (l r : List Grp) : foot (l ++ r) = foot l ++ foot r := by simp [foot]
@[simp] theorem idsOf_append (l r : List Grp) : idsOf (l ++ r) = idsOf l ++ idsOf r := by simp [idsOf]
@[simp] theorem idsOf_cons (g : Grp) (gs : List Grp) : idsOf (g :: gs) = g.ss.map (·.id) ++ idsOf gs := by simp [idsOf]
@[simp] theorem idsOf_nil : idsOf [] = [] := rfl
@[simp] theorem lastB_append (pv : Option Nat) (l r : List Grp) : lastB pv (l ++ r) = lastB (lastB pv l) r := by
  induction l generalizing pv with
  | nil => rfl
  | cons g l ih => simp [lastB, ih]
@[simp] theorem headB_append (nx : Option Nat) (l r : List Grp) : headB nx (l ++ r) = headB (headB nx r) l := by cases l <;> rfl

theorem seg_append {w : World} {l r : List Grp} {pv nx : Option Nat} : Seg w pv (l ++ r) nx ↔ Seg w pv l (headB nx r) ∧ Seg w (lastB pv l) r nx := by
  induction l generalizing pv with
  | nil => simp [Seg, lastB]
  | cons g l ih => simp [Seg, lastB, ih, and_assoc]
theorem groupAt_frame {w w' : World} {pv nx : Option Nat} {g : Grp} (h : GroupAt w pv nx g) (hf : ∀ k, k ∈ g.foot → w'.heap[k]? = w.heap[k]?) : GroupAt w' pv nx g :=
  ⟨by rw [hf g.b (by simp [Grp.foot])]; exact h.1, h.2.1, fun s hs => by rw [StampAt, hf s.b (by simp only [Grp.foot, List.mem_cons, List.mem_map]; exact .inr ⟨s, hs, rfl⟩)]; exact h.2.2 s hs⟩
theorem seg_frame {w w' : World} {gs : List Grp} {pv nx : Option Nat} (h : Seg w pv gs nx) (hf : ∀ k, k ∈ foot gs → w'.heap[k]? = w.heap[k]?) : Seg w' pv gs nx := by
  induction gs generalizing pv with
  | nil => trivial
  | cons g gs ih =>
    exact ⟨groupAt_frame h.1 (fun k hk => hf k (by simp [hk])), ih h.2 (fun k hk => hf k (by simp [hk]))⟩
theorem seg_lt {w : World} {gs : List Grp} {pv nx : Option Nat} (h : Seg w pv gs nx) : ∀ k, k ∈ foot gs → k < w.heap.size := by
  induction gs generalizing pv with
  | nil => intro k hk; simp at hk
  | cons g gs ih =>
    intro k hk
    rw [foot_cons, List.mem_append] at hk
    rcases hk with hk | hk
    · simp only [Grp.foot, List.mem_cons, List.mem_map] at hk
      rcases hk with rfl | ⟨s, hs, rfl⟩
      · exact heap_lt h.1.1
      · exact heap_lt (h.1.2.2 s hs)
    · exact ih h.2 k hk
/-- What lies at a block of the footprint. -/
theorem seg_kind {w : World} {gs : List Grp} {pv nx : Option Nat} (h : Seg w pv gs nx) : ∀ k, k ∈ foot gs → ∃ c t, w.heap[k]? = some (.cells c t (0, 0)) ∧ (t = 71 ∨ t = 73) := by
  induction gs generalizing pv with
  | nil => intro k hk; simp at hk
  | cons g gs ih =>
    intro k hk
    rw [foot_cons, List.mem_append] at hk
    rcases hk with hk | hk
    · simp only [Grp.foot, List.mem_cons, List.mem_map] at hk
      rcases hk with rfl | ⟨s, hs, rfl⟩
      · exact ⟨_, _, h.1.1, .inl rfl⟩
      · exact ⟨_, _, h.1.2.2 s hs, .inr rfl⟩
    · exact ih h.2 k hk
theorem mem_foot_group {gs : List Grp} {g : Grp} (h : g ∈ gs) : g.b ∈ foot gs := by
  simp only [foot, List.mem_flatMap]; exact ⟨g, h, by simp [Grp.foot]⟩
theorem mem_foot_stamp {gs : List Grp} {s : Stp} (h : s ∈ stampsOf gs) : s.b ∈ foot gs := by
  simp only [stampsOf, List.mem_flatMap] at h
  obtain ⟨g, hg, hs⟩ := h
  simp only [foot, List.mem_flatMap]; exact ⟨g, hg, by simp only [Grp.foot, List.mem_cons, List.mem_map]; exact .inr ⟨s, hs, rfl⟩⟩
theorem apart_of_nodup {ss : List Stp} (h : (ss.map (·.b)).Nodup) : ∀ (j k : Nat) x y, ss[j]? = some x → ss[k]? = some y → x.b = y.b → j = k := by
  intro j k x y hj hk e
  have h1 : (ss.map (·.b))[j]? = some x.b := by simp [hj]
  have h2 : (ss.map (·.b))[k]? = some x.b := by simp [hk, e]
  have hjl := (List.getElem?_eq_some_iff.1 h1).1
  exact (List.getElem?_inj hjl h).1 (h1.trans h2.symm)
theorem seg_group {w : World} {gs : List Grp} {pv nx : Option Nat} (h : Seg w pv gs nx) {g : Grp} (hg : g ∈ gs) : ∃ p n, GroupAt w p n g := by
  induction gs generalizing pv with
  | nil => simp at hg
  | cons x gs ih =>
    rcases List.mem_cons.1 hg with rfl | hg
    · exact ⟨_, _, h.1⟩
    · exact ih h.2 hg
theorem seg_stamp {w : World} {gs : List Grp} {pv nx : Option Nat} (h : Seg w pv gs nx) {s : Stp} (hs : s ∈ stampsOf gs) : ∃ g, g ∈ gs ∧ s ∈ g.ss ∧ StampAt w g.b s := by
  simp only [stampsOf, List.mem_flatMap] at hs
  obtain ⟨g, hg, hs⟩ := hs
  obtain ⟨p, n, hG⟩ := seg_group h hg
  exact ⟨g, hg, hs, hG.2.2 s hs⟩

/-- The bound of all tags. -/
abbrev space : Nat := 1099511627776
structure Ord where
  lb : Nat
  all : Value
  P : List (Option Nat)
  gs : List Grp
  moves : Nat
/-- What holds of the ghost alone. -/
structure Wf (O : Ord) : Prop where
  full : ∀ g, g ∈ O.gs → g.ss ≠ []
  nodup : (foot O.gs).Nodup
  ids : (idsOf O.gs).Nodup
  tabled : ∀ s, s ∈ stampsOf O.gs → O.P[s.id]? = some (some s.b)
  back : ∀ (i b : Nat), O.P[i]? = some (some b) → ∃ s, s ∈ stampsOf O.gs ∧ s.id = i ∧ s.b = b
  first : (idsOf O.gs)[0]? = some 0
  tags : O.gs.Pairwise (fun g h => g.tag < h.tag)
  tagLt : ∀ g, g ∈ O.gs → g.tag < space
  minors : ∀ g, g ∈ O.gs → g.ss.Pairwise (fun s t => s.minor < t.minor)
  minorLt : ∀ s, s ∈ stampsOf O.gs → s.minor < space
  made : O.P.length ≤ 100000
  ones : ∀ g, g ∈ O.gs → ∀ v, v ∈ g.rest → v.oneCell' = true
structure Inv (w : World) (O : Ord) : Prop where
  list : w.heap[O.lb]? = some (listObj (headB none O.gs) O.gs.length O.moves O.all (stampsOf O.gs).length)
  row : w.ownsRow 0 67 1 O.all O.P.length (O.P.map fun o => .pointer (optp o))
  seg : Seg w none O.gs none
  wf : Wf O
def Ord.ids (O : Ord) : List Nat := idsOf O.gs
/-- The blocks that the order is made of. -/
def Ord.own (O : Ord) (k : Nat) : Prop := k = O.lb ∨ O.all.ownBlock = some k ∨ k ∈ foot O.gs
end Go.Proofs.Ytijceljhpbdnnaa
