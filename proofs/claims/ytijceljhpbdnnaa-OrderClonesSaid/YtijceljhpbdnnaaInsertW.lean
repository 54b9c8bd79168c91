/-
  Insert, walked. Conditions: each theorem's own hypotheses on memory.
-/
import Derived.Test.YtijceljhpbdnnaaInsert
namespace Go.Proofs.Ytijceljhpbdnnaa
open Go.RowKit

/-- The order with other tags in group g. -/
abbrev Ord.tagged (O : Ord) (l : List Grp) (g : Grp) (r : List Grp) (ss : List Stp) (mv : Nat) : Ord := { O with gs := l ++ { g with ss := ss } :: r, moves := mv }
/-- What the loop for room keeps. -/
structure Roomy (w : World) (O : Ord) (l : List Grp) (g : Grp) (r : List Grp) (ss : List Stp) (mv : Nat) (wr : World) : Prop where
  inv : Inv wr (O.tagged l g r ss mv)
  alt : (ss = g.ss ∧ mv = O.moves) ∨ (ss = reminor g.ss ∧ mv ≤ O.moves + g.ss.length)
  kept : Kept O.own w wr
theorem Roomy.core {w wr : World} {O : Ord} {l r : List Grp} {g : Grp} {ss : List Stp} {mv : Nat} (h : Roomy w O l g r ss mv wr) : ss.map Stp.core = g.ss.map Stp.core := by
  rcases h.alt with ⟨e, _⟩ | ⟨e, _⟩
  · rw [e]
  · rw [e]; exact reminor_core _
theorem Roomy.length {w wr : World} {O : Ord} {l r : List Grp} {g : Grp} {ss : List Stp} {mv : Nat} (h : Roomy w O l g r ss mv wr) : ss.length = g.ss.length := by
  have := congrArg List.length h.core
  simpa using this
theorem Roomy.at {w wr : World} {O : Ord} {l r : List Grp} {g : Grp} {ss : List Stp} {mv : Nat} (h : Roomy w O l g r ss mv wr) {k : Nat} {s : Stp} (hk : g.ss[k]? = some s) : ∃ t, ss[k]? = some t ∧ t.b = s.b ∧ t.id = s.id := by
  have h1 : (ss.map Stp.core)[k]? = some s.core := by rw [h.core]; simp [hk]
  rw [List.getElem?_map, Option.map_eq_some_iff] at h1
  obtain ⟨t, ht, e⟩ := h1
  simp only [Stp.core, Prod.mk.injEq] at e
  exact ⟨t, ht, e.1, e.2⟩
theorem Roomy.next {w wr : World} {O : Ord} {l r : List Grp} {g : Grp} {ss : List Stp} {mv : Nat} (h : Roomy w O l g r ss mv wr) (e : O.gs = l ++ g :: r) (hsub : ∀ k, (O.tagged l g r ss mv).own k → O.own k) (hmv : O.moves ≤ 800000000000) {k : Nat} {s : Stp} (hk : ss[k]? = some s) (hgap : ceil ss k < s.minor + 2) (hL : g.ss.length ≤ 32) :
    Calls Try.prog 37 #[.pointer (some ⟨O.lb, 0, none⟩), .pointer (some ⟨g.b, 0, none⟩)] wr fun en w' => en = .returned (.tuple #[]) ∧ ∃ mv', Roomy w O l g r (reminor g.ss) mv' w' := by
  have hss : ss = g.ss ∧ mv = O.moves := by
    rcases h.alt with h1 | ⟨h1, _⟩
    · exact h1
    · subst h1
      have := reminor_gap (by omega) hk
      omega
  obtain ⟨rfl, rfl⟩ := hss
  refine (retag_ord h.inv (l := l) (r := r) (g := g) rfl (by show O.moves ≤ _; omega)).mono ?_
  rintro _ w' ⟨rfl, mv', h1, h2, h3⟩
  exact ⟨rfl, mv', h2, .inr ⟨rfl, h1⟩, h.kept.trans h3 (fun x _ hx => hsub x hx)⟩
theorem tagged_own {O : Ord} {l r : List Grp} {g : Grp} {ss : List Stp} {mv : Nat} (e : O.gs = l ++ g :: r) (hc : ss.map Stp.core = g.ss.map Stp.core) : ∀ k, (O.tagged l g r ss mv).own k ↔ O.own k := by
  have : foot (O.tagged l g r ss mv).gs = foot O.gs := by
    rw [e]; simp only [foot_append, foot_cons, Grp.foot, core_blocks hc]
  intro k
  unfold Ord.own
  rw [this]
def minorOf (w : World) (b : Nat) : Int := match w.cell? ⟨b, 1, none⟩ with
  | some (.int _ v) => v
  | _ => 0
/-- 1: no room behind the stamp; 0: there is. -/
def lacks (sb : Nat) (nb : Option Nat) (w : World) : Nat := if (2 : Int) ≤ (match nb with | some b => minorOf w b | none => 1099511627776) - minorOf w sb then 0 else 1
theorem Roomy.lacks {w wr : World} {O : Ord} {l r : List Grp} {g : Grp} {ss : List Stp} {mv : Nat} (h : Roomy w O l g r ss mv wr) {k : Nat} {s : Stp} (hk : ss[k]? = some s) :
    lacks s.b ((g.ss[k + 1]?).map (·.b)) wr = if s.minor + 2 ≤ ceil ss k then 0 else 1 := by
  have hG : GroupAt wr _ _ { g with ss := ss } := h.inv.group (l := l) (r := r) rfl
  have c1 : minorOf wr s.b = s.minor := by
    unfold minorOf; rw [stamp_c1 (hG.2.2 s (List.mem_of_getElem? hk))]
  unfold Ytijceljhpbdnnaa.lacks ceil
  rw [c1]
  cases hn : g.ss[k + 1]? with
  | none =>
    have h1 : ss[k + 1]? = none := by rw [List.getElem?_eq_none_iff] at hn ⊢; rw [h.length]; exact hn
    rw [h1]
    simp only [Option.map_none]
    show (if (2 : Int) ≤ 1099511627776 - (s.minor : Int) then 0 else 1) = if s.minor + 2 ≤ space then 0 else 1
    unfold space
    by_cases h2 : s.minor + 2 ≤ 1099511627776
    · rw [if_pos h2, if_pos (by omega)]
    · rw [if_neg h2, if_neg (by omega)]
  | some x =>
    obtain ⟨t, ht, hb, _⟩ := h.at hn
    rw [ht]
    have c2 : minorOf wr x.b = t.minor := by
      unfold minorOf; rw [← hb, stamp_c1 (hG.2.2 t (List.mem_of_getElem? ht))]
    simp only [Option.map_some, c2]
    by_cases h2 : s.minor + 2 ≤ t.minor
    · rw [if_pos h2, if_pos (by omega)]
    · rw [if_neg h2, if_neg (by omega)]

theorem splice_put (ss : List Stp) (rest : List Value) (k : Nat) (x : Stp) (hk : k < ss.length) (hr : rest ≠ []) :
    (splice (ss.map (fun s => ptr s.b) ++ rest) (k + 2) ((ss.drop (k + 1)).map fun s => ptr s.b)).set (k + 1) (ptr x.b) = (putAt ss k x).map (fun s => ptr s.b) ++ rest.drop 1 := by
  obtain ⟨u, rest, rfl⟩ : ∃ u q, rest = u :: q := by cases rest with | nil => exact absurd rfl hr | cons u q => exact ⟨u, q, rfl⟩
  have h1 : ss.map (fun s => ptr s.b) ++ u :: rest = (ss.take (k + 1)).map (fun s => ptr s.b) ++ ((ss.drop (k + 1)).map (fun s => ptr s.b) ++ u :: rest) := by rw [← List.append_assoc, ← List.map_append, List.take_append_drop]
  have hl1 : ((ss.take (k + 1)).map (fun s => ptr s.b)).length = k + 1 := by simp; omega
  have h2 : (putAt ss k x).map (fun s => ptr s.b) ++ (u :: rest).drop 1 = (ss.take (k + 1)).map (fun s => ptr s.b) ++ ptr x.b :: ((ss.drop (k + 1)).map (fun s => ptr s.b) ++ rest) := by simp [putAt]
  rw [h1, h2]
  generalize (ss.take (k + 1)).map (fun s => ptr s.b) = A at *
  generalize (ss.drop (k + 1)).map (fun s => ptr s.b) = B at *
  unfold splice
  obtain ⟨y, T, hT⟩ : ∃ y T, B ++ u :: rest = y :: T := by cases B with | nil => exact ⟨_, _, rfl⟩ | cons b B => exact ⟨_, _, rfl⟩
  have h3 : (A ++ (B ++ u :: rest)).drop (k + 2 + B.length) = rest := by
    rw [← List.append_assoc, show A ++ B ++ u :: rest = (A ++ B ++ [u]) ++ rest from by simp, List.drop_left' (by simp; omega)]
  rw [h3, hT]
  have h4 : (A ++ y :: T).take (k + 2) = A ++ [y] := by
    rw [show A ++ y :: T = (A ++ [y]) ++ T from by simp, List.take_left' (by simp; omega)]
  rw [h4]
  simp only [List.append_assoc, List.singleton_append]
  rw [List.set_append_right (h := by omega), hl1, Nat.sub_self, List.set_cons_zero]
/-- What Insert leaves. -/
structure Inserted (w w' : World) (O : Ord) (l : List Grp) (g : Grp) (r : List Grp) (k : Nat) (ss : List Stp) (mv xb m : Nat) (all' : Value) : Prop where
  inv : Inv w' ((O.tagged l g r ss mv).put l { g with ss := ss } r k xb m all')
  alt : (ss = g.ss ∧ mv = O.moves) ∨ (ss = reminor g.ss ∧ mv ≤ O.moves + g.ss.length)
  kept : Kept O.own w w'
  kin : ∀ b, all'.ownBlock = some b → O.all.ownBlock = some b ∨ w.heap.size ≤ b
  new : w.heap.size ≤ xb
theorem insert_fin {w W0 w1 w2 : World} {O : Ord} {l r : List Grp} {g : Grp} {k mv m xb ab made cap gb lb n : Nat} {s t : Stp} {ss : List Stp} {v2 : Value} (hr0 : Roomy w O l g r ss mv W0) (e : O.gs = l ++ g :: r) (ht : ss[k]? = some t)
    (hgb : g.b = gb) (hlb : O.lb = lb) (hn : g.ss.length = n) (hmd : O.P.length = made) (hall : O.all = .slice (some ⟨ab, 0, none⟩) made cap) (hn31 : n < 32) (hmade : made < 100000) (hxb : W0.heap.size = xb)
    (hm1 : t.minor < m) (hm2 : m < ceil ss k) (hm3 : m < space)
    (kw1 : Kept (fun b => b = gb) W0 w1) (hsz1 : xb + 1 ≤ w1.heap.size)
    (X1 : w1.heap[xb]? = some (.cells #[.int .i64 made, .int .i64 (m : Int), .pointer (some ⟨gb, 0, none⟩)] 73 (0, 0)))
    (L1 : w1.heap[lb]? = some (listObj (headB none (O.tagged l g r ss mv).gs) (O.tagged l g r ss mv).gs.length mv (.slice (some ⟨ab, 0, none⟩) made cap) (stampsOf (O.tagged l g r ss mv).gs).length))
    (G1 : w1.heap[gb]? = some (groupObj g.tag n (splice (ss.map (fun s => ptr s.b) ++ g.rest) (k + 2) ((ss.drop (k + 1)).map fun s => ptr s.b)) (lastB none l) (headB none r)))
    (hlen2 : (splice (ss.map (fun s => ptr s.b) ++ g.rest) (k + 2) ((ss.drop (k + 1)).map fun s => ptr s.b)).length = 32)
    (hown2 : w2.ownsRow 0 67 1 v2 (made + 1) ((O.P.map fun o => .pointer (optp o)) ++ [.pointer (some ⟨xb, 0, none⟩)]))
    (hgrow2 : (((w1.setCell ⟨gb, 2 + (k + 1), none⟩ (.pointer (some ⟨xb, 0, none⟩))).setCell ⟨gb, 1, none⟩ (.int .i64 ((n : Int) + 1))).alloc (.cells #[.pointer (some ⟨xb, 0, none⟩)] 67)).grownBy w2 (some ab))
    (hkin2 : ∀ b, v2.ownBlock = some b → some ab = some b ∨ (((w1.setCell ⟨gb, 2 + (k + 1), none⟩ (.pointer (some ⟨xb, 0, none⟩))).setCell ⟨gb, 1, none⟩ (.int .i64 ((n : Int) + 1))).alloc (.cells #[.pointer (some ⟨xb, 0, none⟩)] 67)).heap.size ≤ b)
    (nn : Nat) (hnn : (stampsOf (O.tagged l g r ss mv).gs).length = nn) :
    Inserted w ((w2.setCell ⟨lb, 3, none⟩ v2).setCell ⟨lb, 4, none⟩ (.int .i64 ((nn : Int) + 1))) O l g r k ss mv xb m v2 := by
  have hssl := hr0.length
  have hkl : k < ss.length := (List.getElem?_eq_some_iff.1 ht).1
  have hG0 : GroupAt W0 (lastB none l) (headB none r) { g with ss := ss } := hr0.inv.group (l := l) (r := r) rfl
  have hab := hr0.inv.ab_foot (ab := ab) (by simp only [Ord.tagged]; rw [hall]; rfl)
  have hgO : ({ g with ss := ss } : Grp) ∈ (O.tagged l g r ss mv).gs := by simp [Ord.tagged]
  have hgf : gb ∈ foot (O.tagged l g r ss mv).gs := by rw [← hgb]; exact (mem_foot_group hgO : ({ g with ss := ss } : Grp).b ∈ _)
  have habg : ab ≠ gb := fun e1 => hab.1 (by rw [e1]; exact hgf)
  have hablb : ab ≠ lb := by have := hab.2; simp only [Ord.tagged] at this; rw [hlb] at this; exact this
  have hlbg : lb ≠ gb := ne_list_group L1 G1
  have habl : ab < W0.heap.size := hr0.inv.own_lt (.inr (.inl (by simp only [Ord.tagged]; rw [hall]; rfl)))
  have hgl : gb < W0.heap.size := hr0.inv.own_lt (.inr (.inr hgf))
  have hll : lb < W0.heap.size := by have := hr0.inv.own_lt (k := O.lb) (.inl rfl); rw [hlb] at this; exact this
  have hrest : g.rest ≠ [] := by
    intro e0
    have := hG0.2.1
    simp only [Grp.arr, List.length_append, List.length_map, e0, List.length_nil] at this
    omega
  have hw2 : ∀ b, b < w1.heap.size → b ≠ gb → b ≠ ab → w2.heap[b]? = w1.heap[b]? := by
    intro b hb h1 h2
    rw [hgrow2.block b (by simp [World.setCell]; omega) (fun e1 => h2 (Option.some.inj e1)), Below.heap_alloc _ _ _ (by simpa [World.setCell] using hb), heap_set_other _ h1, heap_set_other _ h1]
  have hG2 : w2.heap[gb]? = some (groupObj g.tag (n + 1) ((putAt ss k ⟨xb, made, m⟩).map (fun s => ptr s.b) ++ g.rest.drop 1) (lastB none l) (headB none r)) := by
    rw [hgrow2.block gb (by simp [World.setCell]; omega) (fun e1 => habg (Option.some.inj e1).symm), Below.heap_alloc _ _ _ (by simp [World.setCell]; omega)]
    have h1 := group_seta G1 (k + 1) (by rw [hlen2]; omega) (ptr xb)
    have h2 := group_set1 h1 (n + 1)
    rw [splice_put ss g.rest k ⟨xb, made, m⟩ hkl hrest] at h2
    exact h2
  have hL2 : w2.heap[lb]? = _ := (hw2 lb (by omega) hlbg (Ne.symm hablb)).trans L1
  have hX2 : w2.heap[xb]? = some (stampObj made m gb) := (hw2 xb (by omega) (by omega) (by omega)).trans X1
  have hkept : Kept (fun b => b = gb ∨ b = lb ∨ O.all.ownBlock = some b) W0 ((w2.setCell ⟨lb, 3, none⟩ v2).setCell ⟨lb, 4, none⟩ (.int .i64 ((nn : Int) + 1))) := by
    have k1 : Kept (fun b => b = gb ∨ b = lb ∨ O.all.ownBlock = some b) W0 w1 := kw1.mono (fun _ _ h => .inl h)
    have k2 := (((k1.setCell (p := ⟨gb, 2 + (k + 1), none⟩) (fun _ => .inl rfl) (.pointer (some ⟨xb, 0, none⟩))).setCell (p := ⟨gb, 1, none⟩) (fun _ => .inl rfl) (.int .i64 ((n : Int) + 1))).alloc (.cells #[.pointer (some ⟨xb, 0, none⟩)] 67)).grown hgrow2
      (fun q hq _ => .inr (.inr (by rw [hall]; exact hq)))
    exact (k2.setCell (fun _ => .inr (.inl rfl)) _).setCell (fun _ => .inr (.inl rfl)) _
  have hlb' : (O.tagged l g r ss mv).lb = lb := hlb
  have hinv : Inv ((w2.setCell ⟨lb, 3, none⟩ v2).setCell ⟨lb, 4, none⟩ (.int .i64 ((nn : Int) + 1))) ((O.tagged l g r ss mv).put l { g with ss := ss } r k xb m v2) := by
    refine put_inv (wr := W0) hr0.inv (g := { g with ss := ss }) (s := t) rfl ht (by omega) ?_ ?_ ?_ ?_ ?_ ?_ hm1 hm2 hm3 (by show O.P.length < _; omega)
    · refine hkept.mono (fun x _ hx => ?_)
      rcases hx with hx | hx | hx
      · exact .inl (by rw [hx]; exact hgb.symm)
      · exact .inr (.inl (by rw [hx]; exact hlb.symm))
      · exact .inr (.inr hx)
    · show (World.heap _)[g.b]? = some (groupObj g.tag (ss.length + 1) ((putAt ss k ⟨xb, O.P.length, m⟩).map (fun s => ptr s.b) ++ g.rest.drop 1) _ _)
      rw [hgb, heap_set_other _ (Ne.symm hlbg), heap_set_other _ (Ne.symm hlbg), hssl, hn, hmd]
      exact hG2
    · show (World.heap _)[xb]? = some (stampObj O.P.length m g.b)
      rw [hgb, hmd, heap_set_other _ (by omega), heap_set_other _ (by omega)]
      exact hX2
    · rw [hlb', hnn]
      have h1 := list_set4 (list_set3 hL2 v2) (nn + 1)
      exact h1
    · show World.ownsRow _ 0 67 1 v2 (O.P.length + 1) _
      rw [hmd]
      have hvo : ∀ (a : Addr), a.block = lb → v2.ownBlock ≠ some a.block := by
        intro a ha hv
        rcases hkin2 _ hv with h1 | h1
        · have := Option.some.inj h1; omega
        · simp [World.setCell] at h1; omega
      exact ownsRow_setCell_other (ownsRow_setCell_other hown2 (hvo _ rfl) _) (hvo _ rfl) _
    · show ss.length < 32
      omega
  refine ⟨hinv, hr0.alt, ?_, ?_, by have := hr0.kept.size; omega⟩
  · refine hr0.kept.trans hkept (fun x hx0 hx => ?_)
    rcases hx with hx | hx | hx
    · exact .inr (.inr (by rw [hx, ← hgb, e]; exact mem_foot_group (by simp)))
    · exact .inl (by rw [hx, hlb])
    · exact .inr (.inl hx)
  · intro b hb
    rcases hkin2 b hb with h1 | h1
    · left; rw [hall]; exact h1
    · right
      have := hr0.kept.size
      simp [World.setCell] at h1; omega
end Go.Proofs.Ytijceljhpbdnnaa
