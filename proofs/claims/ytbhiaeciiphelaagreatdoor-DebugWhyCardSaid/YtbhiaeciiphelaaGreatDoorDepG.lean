/-
  A range over a function that keeps a box of its own between its rounds. Conditions: each theorem's own hypotheses.
-/
import Derived.Test.YtbhiaeciiphelaaGreatDoorEvX
import Derived.Test.YtbhiaeciiphelaaGreatDoorMomA
import Derived.Test.YtbhiaeciiphelaaGreatDoorShelf
import Derived.Lib.SlicesCompact
namespace Go.Proofs.YtbhiaeciiphelaaGreatDoor
open Go.RowKit Go.Shelf
def mayLeave (l : Nat) (rec : Loop) (X : Nat → Prop) (J JD : World → Prop) (W : World) : Exit → Act → World → Prop
  | .normal, _, W' => W'.heap[l]? = some (.loop rec) ∧ W'.heap[rec.defers]? = some (.deferred (some [])) ∧ KeepNC X W W' ∧ J W'
  | .ret, _, W' => W'.heap[l]? = some (.loop rec) ∧ W'.heap[rec.defers]? = some (.deferred (some [])) ∧ JD W'
  | _, _, _ => False
theorem wpIn_rangeL {g : Operand} {ps : Array Tmp} {assign body : Code} {Q : Exit → Act → World → Prop} {a : Act} {w : World} {n : Nat}
    {gf : Nat} {lb : Array Value} (hg : a.eval g = .func (.func gf) #[] lb) (eg : ∀ args w, (callFunc gf args).run Tryz.prog w = .ok (.enter gf args) w)
    (N : Nat) (x : Nat → Array Value) (J : Value → Nat → World → Prop) (X : Nat → Prop) (JD : World → Prop) (bx : Nat) (s0 : Value)
    (hps : ∀ i, (x i).size = ps.size)
    (hJa : ∀ s i W o, J s i W → J s i (W.alloc o)) (hJd : ∀ s i W, J s i W → J s i W.drew) (hJs : ∀ s i W v, J s i W → J v i (W.setCell ⟨bx, 0, none⟩ v)) (hJb : ∀ s i W, J s i W → ∃ c t fr, W.heap[bx]? = some (.cells c t fr))
    (hJp : ∀ s i W b o o', J s i W → w.heap.size ≤ b → W.heap[b]? = some o → o.isCells = false → J s i (W.putObj b o'))
    (hDp : ∀ W b o o', JD W → w.heap.size ≤ b → W.heap[b]? = some o → o.isCells = false → JD (W.putObj b o'))
    (h0 : J s0 0 w)
    (hiter : ∀ (l : Nat) (J' : Value → Nat → World → Prop) (JD' : World → Prop) (W : World), (∀ s i W', J' s i W' → J s i W') → (∀ W', JD' W' → JD W') → J' s0 0 W → l < W.heap.size → w.heap.size ≤ W.heap.size →
      (∀ s i W' o, J' s i W' → J' s i (W'.alloc o)) → (∀ s i W', J' s i W' → J' s i W'.drew) → (∀ s i W' v, J' s i W' → J' v i (W'.setCell ⟨bx, 0, none⟩ v)) →
      (∀ s i W' b o o', J' s i W' → W.heap.size ≤ b → W'.heap[b]? = some o → o.isCells = false → J' s i (W'.putObj b o')) →
      (∀ s i W1, i < N → J' s i W1 → Yields l (x i) W1 fun e W' => (e = .returned (.bool true) ∧ J' s (i + 1) W' ∧ KeepNC (fun b => X b ∨ b = l) W1 W') ∨ (e = .returned (.bool false) ∧ JD' W')) →
      CallsIn Fence.wide (n - 1) Tryz.prog gf (#[.func (.yield l) #[] #[]] ++ lb) W fun e W' => (∃ v, e = .returned v) ∧ ((∃ s, J' s N W') ∨ JD' W'))
    (a₁ : Nat → Act)
    (hassign : ∀ (l i : Nat) (W : World) (K : Act → World → Prop), K (a₁ i) W →
      assign.wpIn (Fence.wide.inRound l) 0 Tryz.prog (Exit.then K (fun _ _ _ => False)) { tmps := (ps.zip (x i)).foldl (fun t (p, v) => t.setIfInBounds p v) a.tmps, defers := [] } W)
    (hbody : ∀ (s : Value) (l i : Nat) (rec : Loop) (W : World), i < N → w.heap.size < l → rec.defers = w.heap.size → W.heap[l]? = some (.loop rec) → W.heap[w.heap.size]? = some (.deferred (some [])) → J s i W →
      body.wpIn (Fence.wide.inRound l) 0 Tryz.prog (mayLeave l rec X (J s (i + 1)) JD W) (a₁ i) W)
    (hdone : ∀ (s : Value) (D : Nat) (W : World), w.heap.size ≤ D → J s N W → W.heap[D]? = some (.deferred (some [])) → Q .normal { a with defers := { target := .collected D, args := #[] } :: a.defers } W)
    (hleft : ∀ (D : Nat) (W : World), w.heap.size ≤ D → JD W → W.heap[D]? = some (.deferred (some [])) → Q .ret { a with defers := { target := .collected D, args := #[] } :: a.defers } W) :
    (Code.rangeFunc g ps assign body).wpIn Fence.wide n Tryz.prog Q a w := by
  refine wpIn_rangeFunc ?_
  intro fn hfn
  obtain ⟨rec, hrec⟩ : ∃ rec : LoopState → Option Code → Loop, rec = fun st pe => { state := st, pending := pe, fn, tmps := a.tmps, params := ps, assign, body, defers := w.heap.size } := ⟨_, rfl⟩
  obtain ⟨l, hl⟩ : ∃ l, l = w.heap.size + 1 := ⟨_, rfl⟩
  obtain ⟨W1, hW1⟩ : ∃ W1, W1 = (w.alloc (.deferred (some []))).alloc (.loop (rec .ready none)) := ⟨_, rfl⟩
  have hsz : W1.heap.size = w.heap.size + 2 := by rw [hW1]; simp
  have hL1 : W1.heap[l]? = some (.loop (rec .ready none)) := by
    have := heap_alloc_at (w.alloc (.deferred (some []))) (.loop (rec .ready none))
    rw [World.size_alloc] at this
    rw [hW1, hl]; exact this
  have hD1 : W1.heap[w.heap.size]? = some (.deferred (some [])) := by rw [hW1]; exact heap_alloc_old _ (heap_alloc_at w _)
  refine ⟨l, [{ target := .collected w.heap.size, args := #[] }], W1, { target := .fn (.func gf) lb, args := #[.func (.yield l) #[] #[]] }, W1, gf,
    #[.func (.yield l) #[] #[]] ++ lb, W1, ?_, ?_, ?_, ?_, fun h => by simp [Fence.wide] at h, ?_⟩
  · rw [hW1, hrec, hl]; exact run_enterLoop_outer _ _ _ _ _
  · simp only [resolve, hg]
    simp [go_sem]
  · intro f' hf'; trivial
  · simp [invoke, go_sem, eg]
  · have hnd : (rec .ready none).defers = w.heap.size := by rw [hrec]
    refine (hiter l (fun s i W => J s i W ∧ W.heap[l]? = some (.loop (rec .ready none)) ∧ W.heap[w.heap.size]? = some (.deferred (some []))) (fun W => JD W ∧ W.heap[l]? = some (.loop { rec .ready none with state := .done, pending := some .ret }) ∧ W.heap[w.heap.size]? = some (.deferred (some []))) W1 (fun s i W' h => h.1) (fun W' h => h.1)
      ⟨by rw [hW1]; exact hJa _ _ _ _ (hJa _ _ _ _ h0), hL1, hD1⟩ (by omega) (by omega)
      (fun s i W' o h => ⟨hJa _ _ _ _ h.1, heap_alloc_old _ h.2.1, heap_alloc_old _ h.2.2⟩) (fun s i W' h => ⟨hJd _ _ _ h.1, h.2.1, h.2.2⟩)
      (fun s i W' v h => by
        obtain ⟨c, t, fr, hc⟩ := hJb s i W' h.1
        exact ⟨hJs _ _ _ _ h.1, by rw [heap_set_other _ (fun e => by rw [e, hc] at h; simp at h)]; exact h.2.1, by rw [heap_set_other _ (fun e => by rw [e, hc] at h; simp at h)]; exact h.2.2⟩)
      (fun s i W' b o o' h hb ho hc => ⟨hJp s i W' b o o' h.1 (by omega) ho hc, by rw [World.putObj_heap_other (by omega)]; exact h.2.1, by rw [World.putObj_heap_other (by omega)]; exact h.2.2⟩) ?_).mono ?_
    · rintro s i W hi ⟨hJ, hlW, hdW⟩
      have hy := run_yield (P := Tryz.prog) (args := x i) hlW (by rw [hrec]; exact hps i)
      refine ⟨fn, _, assign, body, by rw [hy, hrec], ?_⟩
      have hb := run_beginRound (P := Tryz.prog) hlW (by rw [hrec])
      have hll : l < W.heap.size := lt_of_block hlW
      refine roundIn_of_wpIn trivial (wpIn_mono (hassign l i W _ ⟨_, hb, ?_⟩) (fun e a' w' h => h))
      have hlW2 : (W.putObj l (.loop { rec .ready none with state := .busy })).heap[l]? = some (.loop { rec .ready none with state := .busy }) := World.putObj_heap_same hll
      have hdW2 : (W.putObj l (.loop { rec .ready none with state := .busy })).heap[w.heap.size]? = some (.deferred (some [])) := by rw [World.putObj_heap_other (by omega)]; exact hdW
      have hJ2 := hJp s i W l _ (.loop { rec .ready none with state := .busy }) hJ (by omega) hlW rfl
      refine wpIn_mono (hbody s l i _ _ hi (by omega) (by rw [hrec]) hlW2 hdW2 hJ2) ?_
      intro e a' W' he
      cases e with
      | normal =>
        obtain ⟨k1, k2, k3, k4⟩ := he
        rw [show ({ rec .ready none with state := .busy } : Loop).defers = w.heap.size from by rw [hrec]] at k2
        have hend := run_endRound (P := Tryz.prog) none k1
        have hback : ({ ({ rec .ready none with state := .busy } : Loop) with state := .ready, pending := none } : Loop) = rec .ready none := by rw [hrec]
        simp only [Option.isNone_none, if_true, hback] at hend
        refine ⟨.bool true, _, hend, .inl ⟨rfl, ⟨hJp s (i + 1) W' l _ _ k4 (by omega) k1 rfl, World.putObj_heap_same (lt_of_block k1), ?_⟩, ?_⟩⟩
        · rw [World.putObj_heap_other (by omega)]; exact k2
        · refine ⟨by rw [World.putObj_size]; exact Nat.le_trans (by rw [World.putObj_size]; exact Nat.le_refl _) k3.size, fun b o hx hb ho => ?_⟩
          have hbl : b ≠ l := fun e => hx (.inr e)
          rw [World.putObj_heap_other hbl]
          exact k3.same b o (fun e => hx (.inl e)) (by rw [World.putObj_heap_other hbl]; exact hb) ho
      | ret =>
        obtain ⟨k1, k2, k4⟩ := he
        rw [show ({ rec .ready none with state := .busy } : Loop).defers = w.heap.size from by rw [hrec]] at k2
        have hend := run_endRound (P := Tryz.prog) (some .ret) k1
        simp only [Option.isNone_some, Bool.false_eq_true, if_false] at hend
        exact ⟨.bool false, _, hend, .inr ⟨rfl, hDp W' l _ _ k4 (by omega) k1 rfl, World.putObj_heap_same (lt_of_block k1), by rw [World.putObj_heap_other (by omega)]; exact k2⟩⟩
      | exit id => exact he.elim
      | goto t => exact he.elim
      | panic chain => exact he.elim
      | outgrown => exact he.elim
    · rintro e W ⟨⟨v, rfl⟩, hx⟩
      rcases hx with ⟨s, hJ, hlW, hdW⟩ | ⟨hJ, hlW, hdW⟩
      · have hend := run_endLoop (P := Tryz.prog) hlW (by rw [hrec]; simp)
        refine ⟨_, _, hend, ?_⟩
        have hp : (rec .ready none).pending = none := by rw [hrec]
        rw [hp]
        refine hdone s w.heap.size _ (Nat.le_refl _) (hJp s N W l _ _ hJ (by omega) hlW rfl) ?_
        rw [World.putObj_heap_other (by omega)]; exact hdW
      · have hend := run_endLoop (P := Tryz.prog) hlW (by simp)
        refine ⟨_, _, hend, ?_⟩
        refine wpIn_ret ?_
        refine hleft w.heap.size _ (Nat.le_refl _) (hDp W l _ _ hJ (by omega) hlW rfl) ?_
        rw [World.putObj_heap_other (by omega)]; exact hdW
theorem wpIn_rangeC {g : Operand} {ps : Array Tmp} {assign body : Code} {Q : Exit → Act → World → Prop} {a : Act} {w : World} {n : Nat}
    {gf : Nat} {lb : Array Value} (hg : a.eval g = .func (.func gf) #[] lb) (eg : ∀ args w, (callFunc gf args).run Tryz.prog w = .ok (.enter gf args) w)
    (N : Nat) (x : Nat → Array Value) (J : Value → Nat → World → Prop) (X : Nat → Prop) (bx : Nat) (s0 : Value)
    (hps : ∀ i, (x i).size = ps.size)
    (hJa : ∀ s i W o, J s i W → J s i (W.alloc o)) (hJd : ∀ s i W, J s i W → J s i W.drew) (hJs : ∀ s i W v, J s i W → J v i (W.setCell ⟨bx, 0, none⟩ v)) (hJb : ∀ s i W, J s i W → ∃ c t fr, W.heap[bx]? = some (.cells c t fr))
    (hJp : ∀ s i W b o o', J s i W → w.heap.size ≤ b → W.heap[b]? = some o → o.isCells = false → J s i (W.putObj b o'))
    (h0 : J s0 0 w)
    (hiter : ∀ (l : Nat) (J' : Value → Nat → World → Prop) (W : World), (∀ s i W', J' s i W' → J s i W') → J' s0 0 W → l < W.heap.size → w.heap.size ≤ W.heap.size →
      (∀ s i W' o, J' s i W' → J' s i (W'.alloc o)) → (∀ s i W', J' s i W' → J' s i W'.drew) → (∀ s i W' v, J' s i W' → J' v i (W'.setCell ⟨bx, 0, none⟩ v)) →
      (∀ s i W' b o o', J' s i W' → W.heap.size ≤ b → W'.heap[b]? = some o → o.isCells = false → J' s i (W'.putObj b o')) →
      (∀ s i W1, i < N → J' s i W1 → Yields l (x i) W1 fun e W' => e = .returned (.bool true) ∧ J' s (i + 1) W' ∧ KeepNC (fun b => X b ∨ b = l) W1 W') →
      CallsIn Fence.wide (n - 1) Tryz.prog gf (#[.func (.yield l) #[] #[]] ++ lb) W fun e W' => (∃ v, e = .returned v) ∧ ∃ s, J' s N W')
    (a₁ : Nat → Act)
    (hassign : ∀ (l i : Nat) (W : World) (K : Act → World → Prop), K (a₁ i) W →
      assign.wpIn (Fence.wide.inRound l) 0 Tryz.prog (Exit.then K (fun _ _ _ => False)) { tmps := (ps.zip (x i)).foldl (fun t (p, v) => t.setIfInBounds p v) a.tmps, defers := [] } W)
    (hbody : ∀ (s : Value) (l i : Nat) (rec : Loop) (W : World), i < N → w.heap.size < l → rec.defers = w.heap.size → W.heap[l]? = some (.loop rec) → W.heap[w.heap.size]? = some (.deferred (some [])) → J s i W →
      body.wpIn (Fence.wide.inRound l) 0 Tryz.prog (goesOn l rec X (J s (i + 1)) W) (a₁ i) W)
    (hdone : ∀ (s : Value) (D : Nat) (W : World), w.heap.size ≤ D → J s N W → W.heap[D]? = some (.deferred (some [])) → Q .normal { a with defers := { target := .collected D, args := #[] } :: a.defers } W) :
    (Code.rangeFunc g ps assign body).wpIn Fence.wide n Tryz.prog Q a w := by
  refine wpIn_rangeL hg eg N x J X (fun _ => False) bx s0 hps hJa hJd hJs hJb hJp (fun _ _ _ _ h => h.elim) h0 ?_ a₁ hassign ?_ hdone (fun _ _ _ h => h.elim)
  · intro l J' JD' W h1 hf h2 h3 h4 h5 h6 h7 h8 hY
    refine (hiter l J' W h1 h2 h3 h4 h5 h6 h7 h8 fun s i W1 hi hj => ?_).mono (fun e W' h => ⟨h.1, .inl h.2⟩)
    obtain ⟨fn, tmps, assign, body, hy, hR⟩ := hY s i W1 hi hj
    exact ⟨fn, tmps, assign, body, hy, hR.mono (fun e w' hr => hr.elim id (fun h => (hf _ h.2).elim))⟩
  · intro s l i rec W k1 k2 k3 k4 k5 k6
    refine wpIn_mono (hbody s l i rec W k1 k2 k3 k4 k5 k6) ?_
    intro e a' W' he
    cases e <;> first | exact he | exact he.elim
end Go.Proofs.YtbhiaeciiphelaaGreatDoor
namespace Go.Proofs.YtbhiaeciiphelaaGreatDoor
structure IsVis (sps : List Sp) (V : List (List Nat)) : Prop where
  len : V.length = sps.length
  eq : ∀ (k : Nat) (p : Sp), sps[k]? = some p → V[k]? = some ((match p.outer with | some j => (V.getD j []).filter fun r => decide (r < p.frm) | none => []) ++ p.reads)
theorem IsVis.start : IsVis [] [] := ⟨rfl, fun k p h => by simp at h⟩
theorem getD_of {V : List (List Nat)} {k : Nat} {l : List Nat} (h : V[k]? = some l) : V.getD k [] = l := by rw [List.getD_eq_getElem?_getD, h]; rfl
theorem IsVis.lt {sps : List Sp} {V : List (List Nat)} (h : IsVis sps V) {i : Nat} (hr : ∀ (k : Nat) (p : Sp), sps[k]? = some p → ∀ r ∈ p.reads, r < i) (ho : ∀ (k : Nat) (p : Sp) (j : Nat), sps[k]? = some p → p.outer = some j → j < k) :
    ∀ (k : Nat), ∀ r ∈ V.getD k [], r < i := by
  intro k
  induction k using Nat.strongRecOn with
  | _ k ih =>
    intro r hm
    cases hp : sps[k]? with
    | none =>
      have hk : V[k]? = none := List.getElem?_eq_none (by rw [h.len]; exact List.getElem?_eq_none_iff.1 hp)
      rw [List.getD_eq_getElem?_getD, hk] at hm
      simp at hm
    | some p =>
      rw [getD_of (h.eq k p hp)] at hm
      rcases List.mem_append.1 hm with hm | hm
      · cases hpo : p.outer with
        | none => rw [hpo] at hm; simp at hm
        | some j =>
          rw [hpo] at hm
          exact ih j (ho k p j hp hpo) r (List.mem_filter.1 hm).1
      · exact hr k p hp r hm
theorem IsVis.make {sps : List Sp} {V : List (List Nat)} (h : IsVis sps V) {q : Sp} (hq : q.reads = []) (ho : ∀ (k : Nat) (p : Sp) (j : Nat), sps[k]? = some p → p.outer = some j → j < k) (hqo : ∀ j, q.outer = some j → j < sps.length)
    (hlt : ∀ (k : Nat), ∀ r ∈ V.getD k [], r < q.frm) : IsVis (sps ++ [q]) (V ++ [match q.outer with | some j => V.getD j [] | none => []]) := by
  have hget : ∀ j, j < sps.length → (V ++ [match q.outer with | some j => V.getD j [] | none => []]).getD j [] = V.getD j [] := by
    intro j hj
    rw [List.getD_eq_getElem?_getD, List.getD_eq_getElem?_getD, List.getElem?_append_left (by rw [h.len]; exact hj)]
  refine ⟨by simp [h.len], fun k p hp => ?_⟩
  rcases split_new hp with ⟨hk, hp⟩ | ⟨rfl, rfl⟩
  · rw [List.getElem?_append_left (by rw [h.len]; exact hk), h.eq k p hp]
    cases hpo : p.outer with
    | none => rfl
    | some j => simp only [hget j (Nat.lt_trans (ho k p j hp hpo) hk)]
  · rw [List.getElem?_append_right (by rw [h.len]; exact Nat.le_refl _), h.len, Nat.sub_self, hq, List.append_nil]
    cases hpo : p.outer with
    | none => rfl
    | some j =>
      have hj := hqo j hpo
      rw [hpo] at hget
      simp only [hget j hj, List.getElem?_cons_zero]
      rw [List.filter_eq_self.2 fun r hr => by simpa using hlt j r hr]
theorem IsVis.read {sps : List Sp} {V : List (List Nat)} (h : IsVis sps V) {k i : Nat} {p : Sp} (hp : sps[k]? = some p) (hf : ∀ (j : Nat) (q : Sp), sps[j]? = some q → q.frm ≤ i) (_ho : ∀ (k : Nat) (p : Sp) (j : Nat), sps[k]? = some p → p.outer = some j → j < k) :
    IsVis (sps.set k { p with reads := p.reads ++ [i] }) (V.set k (V.getD k [] ++ [i])) := by
  have hk := (List.getElem?_eq_some_iff.1 hp).1
  have hkV : k < V.length := by rw [h.len]; exact hk
  have hfil : ∀ (j : Nat) (t : Nat), t ≤ i → ((V.set k (V.getD k [] ++ [i])).getD j []).filter (fun r => decide (r < t)) = (V.getD j []).filter fun r => decide (r < t) := by
    intro j t ht
    by_cases e : k = j
    · subst e
      have e1 : (V.set k (V.getD k [] ++ [i])).getD k [] = V.getD k [] ++ [i] := by rw [List.getD_eq_getElem?_getD, List.getElem?_set_self hkV]; rfl
      rw [e1, List.filter_append]
      simp [show ¬ i < t by omega]
    · rw [List.getD_eq_getElem?_getD, List.getElem?_set_ne e, ← List.getD_eq_getElem?_getD]
  refine ⟨by simp [h.len], fun j q hq => ?_⟩
  rcases set_at hp hq with ⟨rfl, rfl⟩ | ⟨hjk, hq⟩
  · have e0 := getD_of (h.eq _ p hp)
    rw [List.getElem?_set_self hkV]
    cases hpo : p.outer with
    | none =>
      rw [hpo] at e0
      simp only [e0, List.nil_append]
    | some o =>
      simp only
      rw [hfil o p.frm (hf _ p hp), e0]
      simp only [hpo, List.append_assoc]
  · rw [List.getElem?_set_ne (fun e => hjk e.symm), h.eq j q hq]
    cases hpo : q.outer with
    | none => rfl
    | some o => simp only [hfil o q.frm (hf _ q hq)]
theorem IsVis.write {sps : List Sp} {V : List (List Nat)} (h : IsVis sps V) {k i : Nat} {p : Sp} (hp : sps[k]? = some p) : IsVis (sps.set k { p with to := i }) V := by
  refine ⟨by simp [h.len], fun j q hq => ?_⟩
  rcases set_at hp hq with ⟨rfl, rfl⟩ | ⟨hjk, hq⟩
  · exact h.eq _ p hp
  · exact h.eq j q hq
inductive Ways (sps : List Sp) : Option Nat → Nat → List (Nat × Nat) → Prop
  | nil {t : Nat} : Ways sps none t []
  | cons {k t : Nat} {p : Sp} {l : List (Nat × Nat)} (hp : sps[k]? = some p) (hl : Ways sps p.outer p.frm l) : Ways sps (some k) t ((k, (p.reads.filter fun r => decide (r < t)).length) :: l)
theorem Ways.mem {sps : List Sp} {V : List (List Nat)} (h : IsVis sps V) (hs : ∀ (k : Nat) (p : Sp), sps[k]? = some p → p.reads.Pairwise (· < ·)) : ∀ {o : Option Nat} {t : Nat} {l : List (Nat × Nat)}, Ways sps o t l →
    (∀ (k j : Nat) (p q : Sp), sps[k]? = some p → p.outer = some j → sps[j]? = some q → q.frm ≤ p.frm) → (∀ (k : Nat) (p : Sp), o = some k → sps[k]? = some p → p.frm ≤ t) →
    ∀ r, (∃ x ∈ l, ∃ p, sps[x.1]? = some p ∧ r ∈ p.reads.take x.2) ↔ ∃ k, o = some k ∧ r ∈ (V.getD k []).filter fun r => decide (r < t)
  | _, _, _, .nil, _, _, r => by simp
  | some k, t, _, .cons (p := p) (l := l) hp hl, hfr, ht, r => by
    have ih := hl.mem h hs hfr (fun j q hj hq => hfr k j p q hp hj hq) r
    have hpt := ht k p rfl hp
    have hft : p.reads.take (p.reads.filter fun r => decide (r < t)).length = p.reads.filter fun r => decide (r < t) := by
      have hpw := hs k p hp
      clear hp hl ih hpt
      generalize p.reads = m at hpw
      induction m with
      | nil => rfl
      | cons a m ih =>
        rw [List.pairwise_cons] at hpw
        by_cases ha : a < t
        · simp only [List.filter_cons, ha, decide_true, if_true, List.length_cons, List.take_succ_cons]
          rw [ih hpw.2]
        · have : m.filter (fun r => decide (r < t)) = [] := by
            rw [List.filter_eq_nil_iff]
            intro b hb
            have := hpw.1 b hb
            simp; omega
          simp [ha, this]
    constructor
    · rintro ⟨x, hx, q, hq, hr⟩
      rcases List.mem_cons.1 hx with rfl | hx
      · rw [hp] at hq; injection hq with hq; subst hq
        simp only [hft, List.mem_filter, decide_eq_true_eq] at hr
        refine ⟨k, rfl, ?_⟩
        rw [getD_of (h.eq k p hp), List.mem_filter, decide_eq_true_eq]
        exact ⟨List.mem_append.2 (.inr hr.1), hr.2⟩
      · obtain ⟨j, hj, hm⟩ := ih.1 ⟨x, hx, q, hq, hr⟩
        refine ⟨k, rfl, ?_⟩
        rw [List.mem_filter, decide_eq_true_eq] at hm
        rw [getD_of (h.eq k p hp), List.mem_filter, decide_eq_true_eq]
        refine ⟨List.mem_append.2 (.inl ?_), by omega⟩
        rw [hj]
        simp only [List.mem_filter, decide_eq_true_eq]
        exact hm
    · rintro ⟨k', hk', hm⟩
      injection hk' with hk'
      subst hk'
      rw [getD_of (h.eq k p hp), List.mem_filter, decide_eq_true_eq] at hm
      rcases List.mem_append.1 hm.1 with hm1 | hm1
      · cases hpo : p.outer with
        | none => rw [hpo] at hm1; simp at hm1
        | some j =>
          rw [hpo] at hm1
          simp only at hm1
          obtain ⟨x, hx, q, hq, hr⟩ := ih.2 ⟨j, hpo, hm1⟩
          exact ⟨x, List.mem_cons_of_mem _ hx, q, hq, hr⟩
      · exact ⟨_, List.mem_cons_self, p, hp, by simp only [hft, List.mem_filter, decide_eq_true_eq]; exact ⟨hm1, hm.2⟩⟩
end Go.Proofs.YtbhiaeciiphelaaGreatDoor
namespace Go.Proofs.YtbhiaeciiphelaaGreatDoor
open Go.RowKit Go.Shelf
theorem Ways.step {sps : List Sp} : ∀ {o : Option Nat} {t : Nat} {wl : List (Nat × Nat)}, Ways sps o t wl → ∀ (i : Nat) (x : Nat × Nat), wl[i]? = some x → ∃ p, sps[x.1]? = some p ∧
    ((p.outer = none ∧ wl[i + 1]? = none) ∨ ∃ j q, p.outer = some j ∧ sps[j]? = some q ∧ wl[i + 1]? = some (j, (q.reads.filter fun r => decide (r < p.frm)).length))
  | _, _, _, .nil, i, x, h => by simp at h
  | some k, t, _, .cons (p := p) (l := l) hp hl, i, x, h => by
    cases i with
    | zero =>
      simp at h
      subst h
      refine ⟨p, hp, ?_⟩
      cases hpo : p.outer with
      | none =>
        rw [hpo] at hl
        cases hl
        exact .inl ⟨rfl, rfl⟩
      | some j =>
        rw [hpo] at hl
        cases hl with
        | cons hq hl2 => exact .inr ⟨j, _, rfl, hq, rfl⟩
    | succ i =>
      have h' : l[i]? = some x := by simpa using h
      obtain ⟨q, hq, hs⟩ := hl.step i x h'
      exact ⟨q, hq, by simpa using hs⟩
theorem Ways.ex {sps : List Sp} (ho : ∀ (k : Nat) (p : Sp) (j : Nat), sps[k]? = some p → p.outer = some j → j < k) : ∀ (k : Nat) (t : Nat), k < sps.length → ∃ wl, Ways sps (some k) t wl := by
  intro k
  induction k using Nat.strongRecOn with
  | _ k ih =>
    intro t hk
    have hp := List.getElem?_eq_getElem hk
    cases hpo : (sps[k]).outer with
    | none => exact ⟨_, .cons hp (by rw [hpo]; exact .nil)⟩
    | some j =>
      have hjk := ho k _ j hp hpo
      obtain ⟨wl, hw⟩ := ih j hjk (sps[k]).frm (by omega)
      exact ⟨_, .cons hp (by rw [hpo]; exact hw)⟩
theorem Ways.head {sps : List Sp} {k t : Nat} {wl : List (Nat × Nat)} (h : Ways sps (some k) t wl) : ∃ p, sps[k]? = some p ∧ wl[0]? = some (k, (p.reads.filter fun r => decide (r < t)).length) := by
  cases h with
  | cons hp hl => exact ⟨_, hp, rfl⟩
def wayPtr (m : List (Int × Nat)) (wl : List (Nat × Nat)) (i : Nat) : Value := .pointer (ptrOf m (wl[i]?.map (·.1)))
def wayLeft (m : List (Int × Nat)) (bx : Nat) (W : World) : Nat := match W.cell? ⟨bx, 0, none⟩ with
  | some (.pointer (some a)) => m.findIdx (fun x => x.2 == a.block) + 1
  | _ => 0
end Go.Proofs.YtbhiaeciiphelaaGreatDoor
namespace Go.Proofs.YtbhiaeciiphelaaGreatDoor
open Go.RowKit Go.Shelf
attribute [local go_sem] Oper.semAt_some
theorem way_at {w0 wR : World} {ev : Value} {L M : Nat} {wv : Value} {m : List (Int × Nat)} {rf : Nat → Value} {sps : List Sp} {win : List Nat} (hR : RMem w0 wR ev L M wv m rf sps win) {wl : List (Nat × Nat)} {i : Nat} {x : Nat × Nat} (hx : wl[i]? = some x) {p : Sp} (hp : sps[x.1]? = some p) :
    ∃ b, wayPtr m wl i = .pointer (some ⟨b, 0, none⟩) ∧ m[x.1]? = some (p.addr, b) ∧ wR.heap[b]? = some (spanObj m p (rf x.1)) := by
  obtain ⟨b, h1, _, h2⟩ := hR.at hp
  exact ⟨b, by simp [wayPtr, hx, ptrOf, h1], h1, h2⟩
theorem wayLeft_nil {m : List (Int × Nat)} {bx : Nat} {W : World} {o : Obj} (h : W.heap[bx]? = some o) (ho : o = .cells #[.pointer none] 99 (0, 0)) : wayLeft m bx W = 0 := by
  subst ho
  unfold wayLeft
  rw [cell_of_block h]; rfl
theorem wayLeft_at {m : List (Int × Nat)} {bx b k : Nat} {a : Int} {W : World} (h : W.heap[bx]? = some (.cells #[.pointer (some ⟨b, 0, none⟩)] 99 (0, 0))) (hm : m[k]? = some (a, b)) (hn : (m.map (·.2)).Nodup) : wayLeft m bx W = k + 1 := by
  unfold wayLeft
  rw [cell_of_block h]
  show m.findIdx (fun x => x.2 == b) + 1 = k + 1
  obtain ⟨hk, hk2⟩ := List.getElem?_eq_some_iff.1 hm
  have hle : m.findIdx (fun x => x.2 == b) = k := by
    rw [List.findIdx_eq hk]
    refine ⟨by rw [hk2]; simp, fun j hj => ?_⟩
    have hjk : j < m.length := by omega
    have hne : (m[j]).2 ≠ b := by
      intro e
      have h1 : (m.map (·.2))[j]? = (m.map (·.2))[k]? := by rw [List.getElem?_map, List.getElem?_map, hm, List.getElem?_eq_getElem hjk]; simp [e]
      have := (List.getElem?_inj (by simpa using hjk) hn).1 h1
      omega
    simpa using hne
  rw [hle]
set_option maxHeartbeats 4000000 in
set_option maxRecDepth 100000 in
theorem ways2_in (nn l bx : Nat) {w0 wR : World} {ev : Value} {L M : Nat} {wv : Value} {m : List (Int × Nat)} {rf : Nat → Value} {sps : List Sp} {win : List Nat} (hR : RMem w0 wR ev L M wv m rf sps win)
    (hsrt : ∀ (k : Nat) (p : Sp), sps[k]? = some p → p.reads.Pairwise (· < ·) ∧ p.reads.length ≤ 60000) (ho : ∀ (k : Nat) (p : Sp) (j : Nat), sps[k]? = some p → p.outer = some j → j < k)
    (k0 t : Nat) (wl : List (Nat × Nat)) (hw : Ways sps (some k0) t wl) (ht : ∀ p, sps[k0]? = some p → ∀ r ∈ p.reads, r < t) (J : Value → Nat → World → Prop) (Y : World → World → Prop) (JD : World → Prop) (W : World)
    (hm : ∀ s i W', J s i W' → Keeps wR W' ∧ W'.heap[bx]? = some (.cells #[s] 99 (0, 0))) (hJd : ∀ s i W' q, J s i W' → J s i (W'.drewN q)) (hJs : ∀ s i W' v, J s i W' → J v i (W'.setCell ⟨bx, 0, none⟩ v)) (h0 : J (wayPtr m wl 0) 0 W)
    (hY : ∀ s i W1 x, wl[i]? = some x → J s i W1 → Yields l #[wayPtr m wl i, .int .i64 x.2] W1 fun e W' => (e = .returned (.bool true) ∧ J s (i + 1) W' ∧ Y W1 W') ∨ (e = .returned (.bool false) ∧ JD W')) :
    CallsIn Fence.wide nn Tryz.prog 126 #[.func (.yield l) #[] #[], .pointer (some ⟨bx, 0, none⟩)] W fun e W' => (∃ v, e = .returned v) ∧ ((∃ s, J s wl.length W') ∨ JD W') := by
  obtain ⟨p0, hp0, hx0⟩ := hw.head
  obtain ⟨b0, hb0, hmb0, hspan0⟩ := way_at hR hx0 hp0
  obtain ⟨hk0, hbox0⟩ := hm _ _ _ h0
  rw [hb0] at hbox0
  have hsp0 := hk0.at hspan0 (fun x => x)
  obtain ⟨pp, cc, hrf, hlc, hcm, _⟩ := row_form (hR.rows k0 p0 hp0)
  have e0 := cell_of_block hbox0 0
  have e3 := cell_of_block hsp0 3
  simp at e0 e3
  rw [hrf] at e3
  have hcnt : (p0.reads.filter fun r => decide (r < t)) = p0.reads := List.filter_eq_self.2 fun r hr => by simpa using ht p0 hp0 r hr
  rw [hcnt] at hx0
  have HX0 := Lib.hid hx0
  have HR := Lib.hid hR
  have HW := Lib.hid hw
  have HSr := Lib.hid hsrt
  have HOo := Lib.hid ho
  have HM := Lib.hid hm
  have HJd := Lib.hid hJd
  have HJs := Lib.hid hJs
  have H0 := Lib.hid h0
  have HY := Lib.hid hY
  clear hR hsrt ho hw ht hm hJd hJs h0 hY hp0 hx0 hb0 hmb0 hspan0 hk0 hbox0 hsp0 hrf hlc hcm hcnt
  refine callsIn_of_wp Tryz.func126 rfl trivial ?_ rfl
  simp only [Tryz.ntmps126, List.size_toArray, List.length_cons, List.length_nil, Nat.reduceAdd, Nat.reduceSub, Array.replicate_succ, Array.replicate_zero, List.push_toArray, List.append_toArray, List.nil_append, List.cons_append]
  gi_wp2
  clear e0 e3
  gi_loopw [3] (fun q wr => ∃ i : Nat, i ≤ wl.length ∧ J (wayPtr m wl i) i wr ∧ ∀ x, wl[i]? = some x → q = .int .i64 x.2) (fun _ wr => wayLeft m bx wr)
  case atStart =>
    refine ⟨0, Nat.zero_le _, H0.out, fun x hx => ?_⟩
    rw [HX0.out] at hx
    injection hx with hx
    subst hx
    rfl
  case round =>
    obtain ⟨i, hi, hJ, hq⟩ := hrel
    obtain ⟨hk, hbox⟩ := HM.out _ _ _ hJ
    have HJ := Lib.hid hJ
    have HK := Lib.hid hk
    have HBx := Lib.hid hbox
    clear hJ hk hbox
    by_cases hil : i < wl.length
    · obtain ⟨x, hx⟩ : ∃ x, wl[i]? = some x := ⟨wl[i], List.getElem?_eq_getElem hil⟩
      obtain ⟨p, hp, hstep⟩ := HW.out.step i x hx
      obtain ⟨b, hbp, hmb, hspan⟩ := way_at HR.out hx hp
      have hqx := hq x hx
      subst hqx
      have hbox := HBx.out
      rw [hbp] at hbox
      have e0 := cell_of_block hbox 0
      simp at e0
      have hy := HY.out _ i wr x hx HJ.out
      rw [hbp] at hy
      obtain ⟨fn, tmps, assign, body, hy1, hRr⟩ := hy
      have HRr := Lib.hid hRr
      have HX := Lib.hid hx
      have HP := Lib.hid hp
      have HSp := Lib.hid hspan
      have HBp := Lib.hid hbp
      have HMb := Lib.hid hmb
      have HSt := Lib.hid hstep
      clear hRr hx hp hspan hbp hmb hstep hbox hq
      gi_wp2
      refine ⟨fun h => by simp [Fence.wide] at h, (roundIn_any _ HRr.out).mono ?_⟩
      rintro _ W3 (⟨rfl, hJ3, _⟩ | ⟨rfl, hJD⟩)
      rotate_left
      · have HJD := Lib.hid hJD
        clear hJD e0
        gi_wp2
        go_end0
        exact ⟨⟨_, rfl⟩, .inr HJD.out⟩
      obtain ⟨hk3, hbox3⟩ := HM.out _ _ _ hJ3
      have hsp3 := hk3.at HSp.out (fun x => x)
      have g0 := cell_of_block hbox3 0
      have g1 := cell_of_block hsp3 0
      have g2 := cell_of_block hsp3 2
      have gf := free_of_block hbox3 0
      simp at g0 g1 g2
      have HJ3 := Lib.hid hJ3
      have HK3 := Lib.hid hk3
      have HB3 := Lib.hid hbox3
      have hbxw := HBx.out
      rw [HBp.out] at hbxw
      have HML := Lib.hid (wayLeft_at hbxw HMb.out HR.out.bnd)
      clear hJ3 hk3 hbox3 hsp3 e0 hbxw
      rcases HSt.out with ⟨hpo, hnext⟩ | ⟨j, q, hpo, hqq, hnext⟩
      · rw [hpo] at g2
        simp [ptrOf] at g2
        have HNx := Lib.hid hnext
        clear hnext hpo
        gi_wp2
        go_roundw
        case rel =>
          refine ⟨i + 1, by omega, ?_, fun x hx => by rw [HNx.out] at hx; cases hx⟩
          have e1 : wayPtr m wl (i + 1) = .pointer none := by simp [wayPtr, HNx.out, ptrOf]
          rw [e1]
          exact HJs.out _ _ _ _ HJ3.out
        case measure =>
          rw [HML.out, wayLeft_nil (heap_set_same HB3.out _) rfl]
          omega
      · obtain ⟨bj, hmj, _, hspj⟩ := HR.out.at hqq
        have hspj3 := HK3.out.at hspj (fun x => x)
        have g3 := cell_of_block hspj3 3
        simp at g3
        have hrow3 : W3.ownsRow w0.heap.size 3 1 (rf j) q.reads.length (nums q.reads) := row_same (HR.out.rows j q hqq) fun g hg => HK3.out.block g ((HR.out.rows j q hqq).lt g hg).2 (fun x => x)
        have HBf := Lib.hid (fun mq => before_of (W3.drewN mq) w0.heap.size bj (rf j) q.reads p.frm g3 (row_same hrow3 fun _ _ => rfl) (HSr.out j q hqq).1 (Nat.le_trans (HSr.out j q hqq).2 (by decide)))
        have e1 : wayPtr m wl (i + 1) = .pointer (some ⟨bj, 0, none⟩) := by simp [wayPtr, hnext, ptrOf, hmj]
        have hjk := HOo.out x.1 p j HP.out hpo
        rw [hpo] at g2
        simp [ptrOf, hmj] at g2
        have HNx := Lib.hid hnext
        have HE1 := Lib.hid e1
        have HMj := Lib.hid hmj
        clear hnext hpo hqq hmj hspj hspj3 g3 hrow3 e1
        gi_wp2
        refine wpIn_wide.2 ?_
        go_quiet ((go_at_call 91; refine Calls.quiet_of (HBf.out _)))
        gi_wp2
        go_roundw
        case rel =>
          refine ⟨i + 1, by omega, ?_, fun y hy => ?_⟩
          · rw [HE1.out]
            exact HJs.out _ _ _ _ (HJd.out _ _ _ _ HJ3.out)
          · rw [HNx.out] at hy
            injection hy with hy
            subst hy
            rfl
        case measure =>
          rw [HML.out, wayLeft_at (heap_set_same (w := W3.drewN nq) HB3.out _) HMj.out HR.out.bnd]
          omega
    · obtain rfl : i = wl.length := by omega
      have hbox := HBx.out
      have hnil : wayPtr m wl wl.length = .pointer none := by simp [wayPtr, ptrOf]
      rw [hnil] at hbox
      have e0 := cell_of_block hbox 0
      simp at e0
      gi_wp2
      all_goals
        refine ⟨fun _ _ => trivial, ?_⟩
        gi_wp2
        go_end0
        exact ⟨⟨_, rfl⟩, .inl ⟨_, HJ.out⟩⟩
theorem ways1_in (nn l bx : Nat) {w0 wR : World} {ev : Value} {L M : Nat} {wv : Value} {m : List (Int × Nat)} {rf : Nat → Value} {sps : List Sp} {win : List Nat} (hR : RMem w0 wR ev L M wv m rf sps win)
    (hsrt : ∀ (k : Nat) (p : Sp), sps[k]? = some p → p.reads.Pairwise (· < ·) ∧ p.reads.length ≤ 60000) (ho : ∀ (k : Nat) (p : Sp) (j : Nat), sps[k]? = some p → p.outer = some j → j < k)
    (k0 t : Nat) (wl : List (Nat × Nat)) (hw : Ways sps (some k0) t wl) (ht : ∀ p, sps[k0]? = some p → ∀ r ∈ p.reads, r < t) (J : Value → Nat → World → Prop) (Y : World → World → Prop) (W : World)
    (hm : ∀ s i W', J s i W' → Keeps wR W' ∧ W'.heap[bx]? = some (.cells #[s] 99 (0, 0))) (hJd : ∀ s i W' q, J s i W' → J s i (W'.drewN q)) (hJs : ∀ s i W' v, J s i W' → J v i (W'.setCell ⟨bx, 0, none⟩ v)) (h0 : J (wayPtr m wl 0) 0 W)
    (hY : ∀ s i W1 x, wl[i]? = some x → J s i W1 → Yields l #[wayPtr m wl i, .int .i64 x.2] W1 fun e W' => e = .returned (.bool true) ∧ J s (i + 1) W' ∧ Y W1 W') :
    CallsIn Fence.wide nn Tryz.prog 126 #[.func (.yield l) #[] #[], .pointer (some ⟨bx, 0, none⟩)] W fun e W' => (∃ v, e = .returned v) ∧ ∃ s, J s wl.length W' := by
  refine (ways2_in nn l bx hR hsrt ho k0 t wl hw ht J Y (fun _ => False) W hm hJd hJs h0 fun s i W1 x hx hj => ?_).mono (fun e W' h => ⟨h.1, h.2.elim id (fun h => h.elim)⟩)
  obtain ⟨fn, tmps, assign, body, hy, hr⟩ := hY s i W1 x hx hj
  exact ⟨fn, tmps, assign, body, hy, hr.mono (fun e w' h => .inl h)⟩
end Go.Proofs.YtbhiaeciiphelaaGreatDoor
namespace Go.Proofs.YtbhiaeciiphelaaGreatDoor
open Go.RowKit Go.Shelf
section
variable {l n : Nat} {P : Program} {K : Act → World → Prop} {Q : Exit → Act → World → Prop}
theorem oper_round {o : Oper} {a : Act} {w : World} (hdef : ∀ c, o.op ≠ .defer c) (h : o.wp P a w K Q) : o.wpIn (Fence.wide.inRound l) n P a w K Q := by
  unfold Oper.wpIn
  unfold Oper.wp at h
  refine ⟨fun f _ => trivial, ?_⟩
  rw [show (Fence.wide.inRound l).round = some l from rfl, Oper.semAt_some l _ o hdef]
  generalize (execOp a.eval o).run P w = r at h ⊢
  cases r with
  | ok x w' =>
    cases x <;> first
      | exact h
      | exact h.elim
      | exact ⟨fun h => by simp [Fence.wide] at h, (callsIn_wide (n := n - 1)).2 h⟩
      | exact ⟨fun h => by simp [Fence.wide] at h, fun c cs _ => let ⟨v, w', r, s⟩ := h c cs; ⟨v, w', r, stepsIn_wide.2 s⟩⟩
  | halt x w' =>
    cases x <;> exact h
theorem any_round {ops : Array Oper} (hdef : ∀ (i : Nat) (o : Oper), ops[i]? = some o → ∀ c, o.op ≠ .defer c) (hq : ¬ LetsOut Q) : ∀ (fuel : Nat) (listed : Array Bool) (a : Act) (w : World), wpAny P .any ops Q fuel listed a w → wpAnyIn (Fence.wide.inRound l) n P .any ops Q fuel listed a w
  | 0, _, _, _, h => h
  | fuel + 1, listed, a, w, h => by
    refine ⟨h.1, fun i hi => ?_⟩
    have h1 := h.2 i hi
    unfold wpOp at h1
    unfold wpOpIn
    cases ho : ops[i]? with
    | none =>
      rw [ho] at h1
      exact any_round hdef hq fuel _ a w h1
    | some o =>
      rw [ho] at h1
      simp only at h1 ⊢
      split at h1
      · rename_i hw
        rw [if_pos hw]
        rcases h1 with h1 | ⟨_, h1⟩
        · exact oper_round (hdef i o ho) (Oper.wp_mono (fun a' w' => any_round hdef hq fuel _ a' w') h1)
        · exact absurd h1 hq
      · rename_i hw
        rw [if_neg hw]
        exact ⟨fun f _ => trivial, any_round hdef hq fuel _ _ _ h1⟩
def noDefer (ops : Array Oper) : Bool := ops.toList.all fun o => match o.op with | .defer _ => false | _ => true
theorem noDefer_spec {ops : Array Oper} (h : noDefer ops = true) : ∀ (i : Nat) (o : Oper), ops[i]? = some o → ∀ c, o.op ≠ .defer c := by
  intro i o ho c hc
  have h1 := List.all_eq_true.1 h o (by rw [← Array.getElem?_toList] at ho; exact List.mem_of_getElem? ho)
  rw [hc] at h1
  cases h1
theorem region_round {ops : Array Oper} {id : Nat} {a : Act} {w : World} (hm : P.follows .mixedOrders = true) (hdef : ∀ (i : Nat) (o : Oper), ops[i]? = some o → ∀ c, o.op ≠ .defer c) (hq : ¬ LetsOut Q)
    (h : wpAny P .any ops Q ops.size (Array.replicate ops.size false) a w.drew) : (Code.region id ops true).wpIn (Fence.wide.inRound l) n P Q a w :=
  wpIn_region_any hm (any_round hdef hq _ _ _ _ h)
end
end Go.Proofs.YtbhiaeciiphelaaGreatDoor
namespace Go.Proofs.YtbhiaeciiphelaaGreatDoor
open Go.RowKit
section
open Go.Lib
theorem compact_to {d : Array Int} (hs : ∀ j : Nat, 0 < j → j < d.size → d[j - 1]! ≤ d[j]!) : ∀ m : Nat, m ≤ d.size →
    (compactUpTo d m).Pairwise (· < ·) ∧ (∀ a, a ∈ compactUpTo d m ↔ ∃ j, j < m ∧ d[j]! = a) ∧ ∀ a ∈ compactUpTo d m, 0 < m ∧ a ≤ d[m - 1]!
  | 0, _ => by simp [compactUpTo]
  | m + 1, hm => by
    obtain ⟨h1, h2, h3⟩ := compact_to hs m (by omega)
    rw [compactUpTo_succ]
    by_cases hk : keeps d m = true
    · rw [if_pos hk]
      have hlt : ∀ a ∈ compactUpTo d m, a < d[m]! := by
        intro a ha
        obtain ⟨h0, hle⟩ := h3 a ha
        have hne : d[m]! ≠ d[m - 1]! := by
          simp only [keeps, decide_eq_true_eq] at hk
          rcases hk with hk | hk
          · omega
          · exact hk
        have := hs m h0 (by omega)
        omega
      refine ⟨?_, fun a => ?_, fun a ha => ?_⟩
      · rw [List.pairwise_append]
        exact ⟨h1, by simp, fun x hx y hy => by rw [List.mem_singleton] at hy; subst hy; exact hlt x hx⟩
      · rw [List.mem_append, h2, List.mem_singleton]
        constructor
        · rintro (⟨j, hj, e⟩ | rfl)
          · exact ⟨j, by omega, e⟩
          · exact ⟨m, by omega, rfl⟩
        · rintro ⟨j, hj, e⟩
          by_cases hjm : j < m
          · exact .inl ⟨j, hjm, e⟩
          · have : j = m := by omega
            subst this; exact .inr e.symm
      · refine ⟨by omega, ?_⟩
        rw [Nat.add_sub_cancel]
        rcases List.mem_append.1 ha with ha | ha
        · have := hlt a ha; omega
        · rw [List.mem_singleton] at ha; subst ha; exact Int.le_refl _
    · have hk' : keeps d m = false := by simpa using hk
      rw [hk']
      simp only [Bool.false_eq_true, if_false, List.append_nil]
      have hm0 : m ≠ 0 ∧ d[m]! = d[m - 1]! := by
        simp only [keeps, decide_eq_false_iff_not, not_or, Decidable.not_not] at hk'
        exact hk'
      refine ⟨h1, fun a => ?_, fun a ha => ?_⟩
      · rw [h2]
        constructor
        · rintro ⟨j, hj, e⟩; exact ⟨j, by omega, e⟩
        · rintro ⟨j, hj, e⟩
          by_cases hjm : j < m
          · exact ⟨j, hjm, e⟩
          · have : j = m := by omega
            subst this
            exact ⟨j - 1, by omega, by rw [← hm0.2]; exact e⟩
      · rw [Nat.add_sub_cancel, hm0.2]
        exact ⟨by omega, (h3 a ha).2⟩
theorem compact_rising {zs : List Int} (hs : zs.Pairwise (· ≤ ·)) : (compact zs).Pairwise (· < ·) ∧ ∀ a, a ∈ compact zs ↔ a ∈ zs := by
  have h := compact_to (d := zs.toArray) (fun j h0 hj => by
    have hj' : j < zs.length := by simpa using hj
    have e1 : zs.toArray[j]! = zs[j] := by simp [hj']
    have e2 : zs.toArray[j - 1]! = zs[j - 1]'(by omega) := by simp [show j - 1 < zs.length by omega]
    rw [e1, e2]
    exact (List.pairwise_iff_getElem.1 hs) (j - 1) j (by omega) hj' (by omega)) zs.length (by simp)
  refine ⟨h.1, fun a => ?_⟩
  unfold compact
  rw [h.2.1]
  constructor
  · rintro ⟨j, hj, e⟩
    have : zs.toArray[j]! = zs[j] := by simp [hj]
    rw [← e, this]; exact List.getElem_mem hj
  · intro ha
    obtain ⟨j, hj, e⟩ := List.getElem_of_mem ha
    exact ⟨j, hj, by simp [hj, e]⟩
theorem compact_len {zs : List Int} : (compact zs).length ≤ zs.length := by
  unfold compact compactUpTo
  rw [List.length_map]
  exact Nat.le_trans (List.length_filter_le _ _) (by simp)
end
theorem size_putI (cur : Array Value) (ts : List Int) : (Go.Sort.putCells (Value.int .i64) 0 ts.toArray cur).size = cur.size := by simp [Go.Sort.putCells]
def rise (l : List Int) : List Int := Lib.compact (l.mergeSort fun x y => decide (x ≤ y))
theorem sorted_le (l : List Int) : (l.mergeSort fun x y => decide (x ≤ y)).Pairwise (· ≤ ·) :=
  (List.pairwise_mergeSort (le := fun x y : Int => decide (x ≤ y)) (fun a b c h1 h2 => by simp at *; omega) (fun a b => by simp; omega) l).imp (fun h => by simpa using h)
theorem rise_is (l : List Int) : (rise l).Pairwise (· < ·) ∧ ∀ a, a ∈ rise l ↔ a ∈ l := by
  obtain ⟨h1, h2⟩ := compact_rising (sorted_le l)
  exact ⟨h1, fun a => (h2 a).trans (List.mergeSort_perm l _).mem_iff⟩
theorem rise_slots {l : List Int} (h : ∀ a ∈ l, 0 ≤ a ∧ a < 30000) : rise l = slots l := by
  obtain ⟨h1, h2⟩ := rise_is l
  refine rising_eqI h1 ((nums_rising _).filter _) fun a => ?_
  rw [h2, mem_slots]
  exact ⟨fun ha => ⟨h a ha, ha⟩, fun ha => ha.2⟩
open Go.Sort in
set_option maxHeartbeats 4000000 in
theorem rising_of (w : World) (base : Nat) (v : Value) (l : List Int) (h : w.ownsRow base 3 1 v l.length (ints l)) (hl : l.length ≤ 1000000000000) :
    Calls Tryz.prog 69 #[v] w fun e w' => ∃ v', e = .returned v' ∧ w'.ownsRow base 3 1 v' (rise l).length (ints (rise l)) ∧ v'.ownBlock = v.ownBlock ∧ Kept (fun b => v.ownBlock = some b) w w' := by
  rcases h.2 with ⟨rfl, h2⟩ | ⟨g, cap, cur, rfl, hbase, hg, hc, hcm, hcs, htake⟩
  · have hnil : l = [] := List.eq_nil_of_length_eq_zero h2
    subst hnil
    have H1 := Lib.hid (Tryz.slices_Sort_int_none none 0)
    have H2 := Lib.hid (Tryz.slices_Compact_int_empty none 0)
    clear h h2
    go_enter Tryz.func69, Tryz.ntmps69
    go_wp2_with fail
    refine (H1.out _).mono ?_
    rintro _ w1 ⟨rfl, rfl⟩
    go_wp2_with fail
    refine (H2.out _).mono ?_
    rintro _ w2 ⟨rfl, rfl⟩
    go_wp2
    go_ret
    have e0 : rise [] = [] := by simp [rise, Lib.compact, Lib.compactUpTo]
    rw [e0]
    exact ⟨_, rfl, World.ownsRow_nil _ _ _ _, rfl, Kept.refl _ _⟩
  · have hH := holds_of_blockI hg (by rw [Nat.mul_one] at htake; exact htake)
    have hlts : (l.mergeSort (fun x y => decide (x ≤ y))).length = l.length := List.length_mergeSort _
    have H1 := Lib.hid (Tryz.slices_Sort_int g 0 cap l w hH (heap_lt hg) (by omega))
    have H2 := Lib.hid (fun (q : Nat) (os : Array Obj) => heap_sortedI (n := q) (os := os) (l.mergeSort (fun x y => decide (x ≤ y))).toArray hg)
    have H3 := Lib.hid (fun (q : Nat) (os : Array Obj) => grownBy_sortedI (w := w) (g := g) (n := q) (os := os) (l.mergeSort (fun x y => decide (x ≤ y))).toArray)
    have H4 := Lib.hid (take_putCellsI cur (l.mergeSort (fun x y => decide (x ≤ y))) (by omega))
    have H5 := Lib.hid hlts
    have H6 := Lib.hid hcs
    clear h hg hH htake hlts
    go_enter Tryz.func69, Tryz.ntmps69
    go_wp2_with fail
    refine H1.out.mono ?_
    rintro _ w1 ⟨rfl, q, os, hw1⟩
    have hb1 := H2.out q os
    have hg1 := H3.out q os
    rw [← hw1] at hb1 hg1
    have hcl1 := size_putI cur (l.mergeSort (fun x y => decide (x ≤ y)))
    generalize hcur : Go.Sort.putCells (Value.int .i64) 0 (l.mergeSort (fun x y => decide (x ≤ y))).toArray cur = cur1 at hb1 hcl1
    have ht1 := H4.out
    rw [hcur] at ht1
    have HC := Lib.hid (Tryz.slices_Compact_int g 0 cap (l.mergeSort (fun x y => decide (x ≤ y))) w1 (holds_of_blockI hb1 ht1) (by rw [H5.out]; omega) (by rw [H5.out]; exact hc))
    rw [H5.out] at HC
    have HB1 := Lib.hid hb1
    have HG1 := Lib.hid hg1
    have HCl := Lib.hid hcl1
    clear hb1 hg1 hw1 hcur ht1 hcl1
    go_wp2_with fail
    refine HC.out.mono ?_
    rintro _ w2 ⟨rfl, q2, hw2⟩
    rw [← Go.Sort.grow_empty (Go.Sort.putRow _ _ _ _ _)] at hw2
    have hb2 := heap_sortedI (n := q2) (os := #[]) (Lib.compact (l.mergeSort (fun x y => decide (x ≤ y))) ++ List.replicate (l.length - (Lib.compact (l.mergeSort (fun x y => decide (x ≤ y)))).length) 0).toArray HB1.out
    have hg2 := grownBy_sortedI (w := w1) (g := g) (n := q2) (os := #[]) (Lib.compact (l.mergeSort (fun x y => decide (x ≤ y))) ++ List.replicate (l.length - (Lib.compact (l.mergeSort (fun x y => decide (x ≤ y)))).length) 0).toArray
    rw [← hw2] at hb2 hg2
    have HB2 := Lib.hid hb2
    have HG2 := Lib.hid hg2
    clear hb2 hg2 hw2
    go_wp2
    go_ret
    have hrl : (rise l).length ≤ l.length := by
      have := compact_len (zs := l.mergeSort (fun x y => decide (x ≤ y)))
      rw [H5.out] at this
      exact this
    refine ⟨_, rfl, ⟨by simp [ints], .inr ⟨g, cap, _, rfl, hbase, HB2.out, by omega, hcm, ?_, ?_⟩⟩, rfl, Kept.trans ((Kept.refl _ w).grown HG1.out (fun b hb _ => hb)) ((Kept.refl _ w1).grown HG2.out (fun b hb _ => hb)) (fun _ _ h => h)⟩
    · rw [size_putI, HCl.out, H6.out]
    · have h9 := take_putCellsI cur1 (Lib.compact (l.mergeSort (fun x y => decide (x ≤ y))) ++ List.replicate (l.length - (Lib.compact (l.mergeSort (fun x y => decide (x ≤ y)))).length) 0) (by
        rw [HCl.out, H6.out, List.length_append, List.length_replicate]
        have h8 : (Lib.compact (l.mergeSort (fun x y => decide (x ≤ y)))).length ≤ l.length := hrl
        omega)
      have h7 := congrArg (List.take (rise l).length) h9
      rw [List.take_take, List.map_append, List.take_append_of_le_length (by simp [rise]), Nat.min_eq_left (by simp [rise])] at h7
      rw [Nat.mul_one, h7, List.take_of_length_le (by simp [rise])]
      rfl
end Go.Proofs.YtbhiaeciiphelaaGreatDoor
