/-
  Insert over a whole order. Conditions: each theorem's own hypotheses on memory.
-/
import Derived.Test.YtijceljhpbdnnaaInsertS
import Derived.Test.YtijceljhpbdnnaaFew
namespace Go.Proofs.Ytijceljhpbdnnaa
open Go.RowKit

/-- A number put behind place i. -/
def putId (ids : List Nat) (i n : Nat) : List Nat := ids.take (i + 1) ++ n :: ids.drop (i + 1)
/-- What Insert does to the order. -/
structure Grown (w : World) (O O' : Ord) (i : Nat) : Prop where
  lb : O'.lb = O.lb
  made : O'.P.length = O.P.length + 1
  ids : O'.ids = putId O.ids i O.P.length
  own : ∀ k, k < w.heap.size → O'.own k → O.own k
theorem ids_core {gs gs' : List Grp} (h : (stampsOf gs').map Stp.core = (stampsOf gs).map Stp.core) : idsOf gs' = idsOf gs := core_ids h
theorem put_ids {O : Ord} {l r : List Grp} {g : Grp} {ss : List Stp} {mv k xb m : Nat} {all' : Value} (e : O.gs = l ++ g :: r) (hc : ss.map Stp.core = g.ss.map Stp.core) (hk : k < ss.length) :
    ((O.tagged l g r ss mv).put l { g with ss := ss } r k xb m all').ids = putId O.ids ((stampsOf l).length + k) O.P.length := by
  have h1 := putAt_stamps (l := l) (r := r) (g := { g with ss := ss }) (g2 := { g with ss := putAt ss k ⟨xb, O.P.length, m⟩, rest := g.rest.drop 1 }) (x := ⟨xb, O.P.length, m⟩) hk rfl
  show (stampsOf (l ++ ({ g with ss := putAt ss k ⟨xb, O.P.length, m⟩, rest := g.rest.drop 1 } : Grp) :: r)).map (·.id) = _
  rw [h1]
  have h2 : (stampsOf (l ++ ({ g with ss := ss } : Grp) :: r)).map (·.id) = O.ids := by
    show _ = idsOf O.gs
    rw [e]
    exact ids_core (by simp only [stampsOf_append, stampsOf_cons, List.map_append, hc])
  unfold putAt putId
  rw [List.map_append, List.map_cons, List.map_take, List.map_drop, h2]
theorem put_own {w : World} {O : Ord} {l r : List Grp} {g : Grp} {ss : List Stp} {mv k xb m : Nat} {all' : Value} (e : O.gs = l ++ g :: r) (hc : ss.map Stp.core = g.ss.map Stp.core) (hx : w.heap.size ≤ xb)
    (hkin : ∀ b, all'.ownBlock = some b → O.all.ownBlock = some b ∨ w.heap.size ≤ b) : ∀ q, q < w.heap.size → ((O.tagged l g r ss mv).put l { g with ss := ss } r k xb m all').own q → O.own q := by
  intro q hq h
  rcases h with h | h | h
  · exact .inl h
  · rcases hkin q h with h1 | h1
    · exact .inr (.inl h1)
    · omega
  · refine .inr (.inr ?_)
    have h : q ∈ foot (l ++ ({ g with ss := putAt ss k ⟨xb, O.P.length, m⟩, rest := g.rest.drop 1 } : Grp) :: r) := h
    rw [e]
    simp only [foot_append, foot_cons, Grp.foot, List.mem_append, List.mem_cons, List.mem_map] at h ⊢
    rcases h with h | (h | ⟨y, hy, h⟩) | h
    · exact .inl h
    · exact .inr (.inl (.inl h))
    · rcases putAt_mem hy with rfl | hy
      · simp only at h; omega
      · obtain ⟨t, ht, _, hb⟩ := mem_core hc hy
        exact .inr (.inl (.inr ⟨t, ht, by omega⟩))
    · exact .inr (.inr h)
theorem Inserted.core {w w' : World} {O : Ord} {l r : List Grp} {g : Grp} {k : Nat} {ss : List Stp} {mv xb m : Nat} {all' : Value} (h : Inserted w w' O l g r k ss mv xb m all') : ss.map Stp.core = g.ss.map Stp.core := by
  rcases h.alt with ⟨e, _⟩ | ⟨e, _⟩
  · rw [e]
  · rw [e]; exact reminor_core _
theorem insert_ord {w : World} {O : Ord} {S p j : Nat} (h : Inv w O) (hf : Few O S p j) {s : Stp} {i : Nat} (hi : (stampsOf O.gs)[i]? = some s) (hmade : O.P.length < 100000) :
    Calls Try.prog 16 #[.pointer (some ⟨O.lb, 0, none⟩), .int .i64 s.id] w fun e w' => e = .returned (.tuple #[.int .i64 O.P.length, .int .i64 0]) ∧
      ∃ O' S' p' j', Inv w' O' ∧ Few O' S' p' j' ∧ Grown w O O' i ∧ Kept O.own w w' := by
  have hmv := hf.bound h.wf
  have hfind := find_ord h (s.id : Int)
  rw [h.wf.look_of (List.mem_of_getElem? hi)] at hfind
  obtain ⟨l, g, r, k, e, hk, hik⟩ := split_stamps hi
  have hG := h.group e
  have hgm : g ∈ O.gs := by rw [e]; simp
  have hL : g.ss.length ≤ 32 := by have := hG.2.1; simp [Grp.arr] at this; omega
  have hkl := (List.getElem?_eq_some_iff.1 hk).1
  by_cases hn : g.ss.length < 32
  · refine (insert_plain w O _ l r g k s O.lb s.b O.P.length h e hk hn rfl rfl rfl hmade hmv hfind).mono ?_
    rintro _ w' ⟨rfl, ss, mv, xb, m, all', hI⟩
    have hc := hI.core
    have hl : ss.length = g.ss.length := by have := congrArg List.length hc; simpa using this
    have hm : mv ≤ O.moves + 32 := by rcases hI.alt with ⟨_, h1⟩ | ⟨_, h1⟩ <;> omega
    refine ⟨rfl, _, S, p, j, hI.inv, hf.put h.wf e hl (by omega) hL hm, ⟨rfl, by simp [Ord.put], ?_, put_own e hc hI.new hI.kin⟩, hI.kept⟩
    rw [put_ids e hc (by omega), hik]
  · have h32 : g.ss.length = 32 := by omega
    obtain ⟨ab, cap, cur, hall, _⟩ := h.table
    have c1 := list_c3 h.list
    rw [hall] at c1
    have c2 := group_c1 hG.1
    rw [h32] at c2
    have c3 := stamp_c2 (hG.2.2 s (List.mem_of_getElem? hk))
    refine (insert_split w (.int .i64 s.id) O.lb s.b g.b O.P.length ab cap (fun w1 O1 l1 gx r1 kx => ∃ S' p' j', Inv w1 O1 ∧ Few O1 S' p' j' ∧ O1.gs = l1 ++ gx :: r1 ∧ kx < gx.ss.length ∧ gx.ss.length ≤ 32 ∧ (stampsOf l1).length + kx = i ∧ O1.ids = O.ids ∧ O1.lb = O.lb ∧ O1.all = O.all ∧ O1.P = O.P ∧
      Kept O.own w w1 ∧ (∀ q, q < w.heap.size → O1.own q → O.own q) ∧ w.heap.size ≤ w1.heap.size) hmade hfind c1 c2 c3 ?_).mono ?_
    · refine (split_ord h.drew e h32 hmv).mono ?_
      rintro _ w1 ⟨rfl, O1, l', g', g1, h1, r', mv, hI, hK, hnew, hs⟩
      obtain ⟨p', j', hF⟩ := hf.split h.wf e h32 hs
      have hcs : stampsOf l' = stampsOf l := core_stamps hs.cl
      have hcr : stampsOf r' = stampsOf r := core_stamps hs.cr
      have hids : O1.ids = O.ids := by
        refine ids_core ?_
        rw [hs.gs, e]
        simp only [stampsOf_append, stampsOf_cons, List.map_append, hs.s1, hs.s2, reminor_core, hcs, hcr]
        rw [← List.append_assoc (List.map Stp.core (g.ss.take 16)), ← List.map_append, List.take_append_drop]
      have hown : ∀ q, q < w.heap.size → O1.own q → O.own q := by
        intro q hq h2
        rcases h2 with h2 | h2 | h2
        · exact .inl (by rw [h2, hs.lb])
        · exact .inr (.inl (by rw [← hs.all]; exact h2))
        · refine .inr (.inr ?_)
          rw [hs.gs] at h2
          have hfl : foot l' = foot l := core_foot hs.cl
          have hfr : foot r' = foot r := core_foot hs.cr
          rw [e]
          simp only [foot_append, foot_cons, Grp.foot, List.mem_append, List.mem_cons, hfl, hfr, hs.b1, hs.s1, hs.s2, core_blocks (reminor_core _)] at h2 ⊢
          rcases h2 with h2 | (h2 | h2) | (h2 | h2) | h2
          · exact .inl h2
          · exact .inr (.inl (.inl h2))
          · refine .inr (.inl (.inr ?_))
            obtain ⟨y, hy, hb⟩ := List.mem_map.1 h2
            exact List.mem_map.2 ⟨y, List.mem_of_mem_take hy, hb⟩
          · have hnew' : w.heap.size ≤ h1.b := hnew
            omega
          · refine .inr (.inl (.inr ?_))
            obtain ⟨y, hy, hb⟩ := List.mem_map.1 h2
            exact List.mem_map.2 ⟨y, List.mem_of_mem_drop hy, hb⟩
          · exact .inr (.inr h2)
      have hmv1 := hF.bound hI.wf
      have hK' : Kept O.own w w1 := ⟨hK.os, hK.tape, hK.output, hK.size, hK.block⟩
      have hl1 : g1.ss.length = 16 := by rw [hs.s1, reminor_length, List.length_take, h32]; rfl
      have hl2 : h1.ss.length = 16 := by rw [hs.s2, reminor_length, List.length_drop, h32]
      by_cases hk16 : k < 16
      · have hk1 : g1.ss[k]? = some { s with minor := tagOf (g.ss.take 16).length k } := by
          rw [hs.s1]; exact reminor_at (by rw [List.getElem?_take, if_pos hk16]; exact hk)
        exact ⟨rfl, O1, l', g1, h1 :: r', k, _, hI, hs.gs, hk1, rfl, by omega, hs.lb, by rw [hs.P], hmv1, S + 1, p', j', hI, hF, hs.gs, by omega, by omega, by rw [hcs, hik], hids, hs.lb, hs.all, hs.P, hK', hown, hK.size⟩
      · have hk1 : h1.ss[k - 16]? = some { s with minor := tagOf (g.ss.drop 16).length (k - 16) } := by
          rw [hs.s2]; exact reminor_at (by rw [ss_drop, show 16 + (k - 16) = k from by omega]; exact hk)
        have hgs2 : O1.gs = (l' ++ [g1]) ++ h1 :: r' := by rw [hs.gs]; simp
        exact ⟨rfl, O1, l' ++ [g1], h1, r', k - 16, _, hI, hgs2, hk1, rfl, by omega, hs.lb, by rw [hs.P], hmv1, S + 1, p', j', hI, hF, hgs2, by omega, by omega, by simp [hcs, hl1]; omega, hids, hs.lb, hs.all, hs.P, hK', hown, hK.size⟩
    · rintro _ w' ⟨rfl, w1, O1, l1, gx, r1, kx, ss, mv, xb, m, all', ⟨S', p', j', hI1, hF1, e1, hkx, hx32, hix, hids, hlb, hal, hP, hK1, hown1, hsz⟩, hI⟩
      have hc := hI.core
      have hl : ss.length = gx.ss.length := by have := congrArg List.length hc; simpa using this
      have hm : mv ≤ O1.moves + 32 := by rcases hI.alt with ⟨_, h1⟩ | ⟨_, h1⟩ <;> omega
      have hnew := hI.new
      refine ⟨rfl, _, S', p', j', hI.inv, hF1.put hI1.wf e1 hl (by omega) hx32 hm, ⟨hlb, by simp [Ord.put, hP], ?_, ?_⟩, ?_⟩
      · rw [put_ids e1 hc (by omega), hix, hids, hP]
      · intro q hq h2
        exact hown1 q hq (put_own (w := w1) e1 hc hI.new hI.kin q (by omega) h2)
      · exact hK1.trans hI.kept (fun x hx0 hx => hown1 x hx0 hx)
end Go.Proofs.Ytijceljhpbdnnaa
