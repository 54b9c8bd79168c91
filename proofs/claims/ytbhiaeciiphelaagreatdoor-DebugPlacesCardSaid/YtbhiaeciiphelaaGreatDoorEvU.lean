/-
  DERIVED. Contracts of Readers of package debug, and of the comparing of numbers. Condition: the events lie in a row; there are at most sixty thousand.
-/
import Derived.Test.YtbhiaeciiphelaaGreatDoorEvQ
namespace Go.Proofs.YtbhiaeciiphelaaGreatDoor
open Go.RowKit Go.Shelf
theorem row_lower {w : World} {base base' : Nat} {e : TypeId} {size : Nat} {v : Value} {n : Nat} {xs : List Value} (h : w.ownsRow base e size v n xs) (hb : base' ≤ base) : w.ownsRow base' e size v n xs := by
  refine ⟨h.1, ?_⟩
  rcases h.2 with h | ⟨g, cap, cur, hv, hg, r⟩
  · exact .inl h
  · exact .inr ⟨g, cap, cur, hv, Nat.le_trans hb hg, r⟩
set_option maxHeartbeats 2000000 in
theorem indices_mk (L : Nat) (y : Int) (w : World) : Calls Tryz.prog 51 #[.pointer (some ⟨L, 0, none⟩), .int .i64 2, .int .i64 y] w fun e w' =>
    e = .returned (.func (.func 88) #[] #[.pointer (some ⟨w.heap.size, 0, none⟩), .pointer (some ⟨w.heap.size + 1, 0, none⟩), .pointer (some ⟨w.heap.size + 2, 0, none⟩)]) ∧
      w' = ((w.alloc (.cells #[.pointer (some ⟨L, 0, none⟩)] 93)).alloc (.cells #[.int .i64 2] 3)).alloc (.cells #[.int .i64 y] 3) := by
  go_enter Tryz.func51, Tryz.ntmps51
  go_wp2
  go_ret
  exact ⟨rfl, rfl⟩
theorem indices_at (L : Nat) (y : Int) (w : World) (a : Option Addr) (n c : Nat) (evs : List Ev) (h : EvIn w a n evs) (hl : w.cell? ⟨L, 0, none⟩ = some (.slice a n c)) (hL : L < w.heap.size) :
    Calls Tryz.prog 51 #[.pointer (some ⟨L, 0, none⟩), .int .i64 2, .int .i64 y] w fun e w' => ∃ bx bk ba, e = .returned (.func (.func 88) #[] #[.pointer (some ⟨bx, 0, none⟩), .pointer (some ⟨bk, 0, none⟩), .pointer (some ⟨ba, 0, none⟩)]) ∧
      ItAt w' bx bk ba L a n c y evs ∧ Keeps w w' := by
  refine (indices_mk L y w).mono ?_
  rintro e w' ⟨rfl, rfl⟩
  have s1 : (w.alloc (.cells #[.pointer (some ⟨L, 0, none⟩)] 93)).heap.size = w.heap.size + 1 := World.size_alloc _ _
  have s2 : ((w.alloc (.cells #[.pointer (some ⟨L, 0, none⟩)] 93)).alloc (.cells #[.int .i64 2] 3)).heap.size = w.heap.size + 2 := by rw [World.size_alloc, s1]
  have s3 : (((w.alloc (.cells #[.pointer (some ⟨L, 0, none⟩)] 93)).alloc (.cells #[.int .i64 2] 3)).alloc (.cells #[.int .i64 y] 3)).heap.size = w.heap.size + 3 := by rw [World.size_alloc, s2]
  have hk : Keeps w (((w.alloc (.cells #[.pointer (some ⟨L, 0, none⟩)] 93)).alloc (.cells #[.int .i64 2] 3)).alloc (.cells #[.int .i64 y] 3)) := ((((Kept.refl _ w).alloc _).alloc _).alloc _)
  have h1 : (((w.alloc (.cells #[.pointer (some ⟨L, 0, none⟩)] 93)).alloc (.cells #[.int .i64 2] 3)).alloc (.cells #[.int .i64 y] 3)).heap[w.heap.size]? = some (.cells #[.pointer (some ⟨L, 0, none⟩)] 93 (0, 0)) := heap_alloc_old _ (heap_alloc_old _ (heap_alloc_at w _))
  have h2 : (((w.alloc (.cells #[.pointer (some ⟨L, 0, none⟩)] 93)).alloc (.cells #[.int .i64 2] 3)).alloc (.cells #[.int .i64 y] 3)).heap[w.heap.size + 1]? = some (.cells #[.int .i64 2] 3 (0, 0)) := by
    rw [← s1]; exact heap_alloc_old _ (heap_alloc_at _ _)
  have h3 : (((w.alloc (.cells #[.pointer (some ⟨L, 0, none⟩)] 93)).alloc (.cells #[.int .i64 2] 3)).alloc (.cells #[.int .i64 y] 3)).heap[w.heap.size + 2]? = some (.cells #[.int .i64 y] 3 (0, 0)) := by
    rw [← s2]; exact heap_alloc_at _ _
  refine ⟨w.heap.size, w.heap.size + 1, w.heap.size + 2, rfl, ⟨by rw [cell_of_block h1]; rfl, by rw [cell_of_block h2]; rfl, by rw [cell_of_block h3]; rfl, ?_, h.keeps hk, by omega, by omega, by omega, by omega⟩, hk⟩
  rw [World.cell?_of_block (w' := (((w.alloc (.cells #[.pointer (some ⟨L, 0, none⟩)] 93)).alloc (.cells #[.int .i64 2] 3)).alloc (.cells #[.int .i64 y] 3))) (w := w) (hk.block L hL (fun x => x))]
  exact hl
set_option maxHeartbeats 4000000 in
set_option maxRecDepth 100000 in
theorem readers_of (w : World) (a : Option Addr) (n c : Nat) (evs : List Ev) (h : EvIn w a n evs) (y : Int) :
    Calls Tryz.prog 18 #[.slice a n c, .int .i64 y] w fun e w' => ∃ v, e = .returned (.tuple #[v, .int .i64 (outErr evs)]) ∧ w'.ownsRow w.heap.size 3 1 v (outReaders evs y).length (nums (outReaders evs y)) ∧ Keeps w w' := by
  have HI := Lib.hid h
  cases hro : readOf evs with
  | none =>
    have HO := Lib.hid (show outReaders evs y = [] ∧ outErr evs = 250 by unfold outReaders outErr; rw [hro]; exact ⟨rfl, rfl⟩)
    have Hr := Lib.hid (read_no (c := c) h hro)
    clear h hro
    go_enter Tryz.func18, Tryz.ntmps18
    go_wp2_with (go_at_call 47; refine Hr.out.mono ?_; rintro _ w1 ⟨rfl, hk⟩; have HK := Lib.hid hk; clear hk)
    go_ret2
    exact ⟨.slice none 0 0, by rw [HO.out.2]; rfl, by rw [HO.out.1]; exact World.ownsRow_nil _ _ _ _, HK.out⟩
  | some s =>
    have HO := Lib.hid (show outReaders evs y = rdsOf y 0 evs ∧ outErr evs = 0 by unfold outReaders outErr; rw [hro]; exact ⟨rfl, rfl⟩)
    have Hr := Lib.hid (read_yes (c := c) h hro)
    clear h hro
    go_enter Tryz.func18, Tryz.ntmps18
    go_wp2_with fail
    refine Hr.out.mono ?_
    rintro _ w1 ⟨L, M, wv, m, rf, rfl, hm⟩
    have hl : w1.cell? ⟨L, 0, none⟩ = some (.slice a n c) := by rw [cell_of_block hm.hL]; rfl
    have Hi := Lib.hid (indices_at L y w1 a n c evs (HI.out.keeps hm.kept) hl (heap_lt hm.hL))
    have HK := Lib.hid hm.kept
    clear hm hl
    go_wp2_with fail
    refine Hi.out.mono ?_
    rintro _ w2 ⟨bx, bk, ba, rfl, hit, hk2⟩
    have Hc := Lib.hid (collect_of w2 bx bk ba L a n c y evs hit)
    have HK2 := Lib.hid hk2
    clear hit hk2
    go_wp2_with fail
    refine Hc.out.mono ?_
    rintro _ w3 ⟨v, rfl, hrow, hb⟩
    have HR := Lib.hid hrow
    have HB := Lib.hid hb
    clear hrow hb
    go_wp2
    go_ret2
    have hkk : Keeps w w2 := Keeps.trans HK.out HK2.out
    have hk3 : Keeps w2 w3 := ⟨HB.out.os, HB.out.tape, HB.out.output, HB.out.size, fun k hk _ => HB.out.block k hk⟩
    refine ⟨v, by rw [HO.out.2]; rfl, ?_, Keeps.trans hkk hk3⟩
    rw [HO.out.1]
    exact row_lower HR.out hkk.size
/-- Numbers lie in a row. -/
def RowAt (w : World) (p : Option Addr) (l : List Nat) : Prop := ∀ (j x : Nat), l[j]? = some x → ∃ g, p = some ⟨g, 0, none⟩ ∧ w.cell? ⟨g, j, none⟩ = some (.int .i64 x)
theorem row_at {w : World} {base : Nat} {v : Value} {l : List Nat} (h : w.ownsRow base 3 1 v l.length (nums l)) : ∃ p c, v = .slice p l.length c ∧ l.length ≤ c ∧ RowAt w p l := by
  rcases h.2 with ⟨h1, h2⟩ | ⟨g, cap, cur, hv, _, hg, hc, _⟩
  · refine ⟨none, 0, by rw [h1, h2], by omega, fun j x hj => ?_⟩
    have := (List.getElem?_eq_some_iff.1 hj).1
    omega
  · refine ⟨some ⟨g, 0, none⟩, cap, hv, hc, fun j x hj => ⟨g, rfl, ?_⟩⟩
    have h3 := h.cells (g := g) (by rw [hv]; rfl) j (.int .i64 x) (by simp [nums, hj])
    by_cases e : j = 0
    · subst e; simpa [Addr.add] using h3
    · simpa [Addr.add, e] using h3
set_option maxHeartbeats 2000000 in
set_option maxRecDepth 100000 in
/-- Two rows of numbers are the same. -/
theorem sameInts_of (w : World) (p q : Option Addr) (c d : Nat) (l : List Nat) (h : RowAt w p l) (h' : RowAt w q l) (hlen : l.length ≤ 60000) :
    Calls Tryz.prog 20 #[.slice p l.length c, .slice q l.length d] w fun e w' => e = .returned (.bool true) ∧ Keeps w w' := by
  obtain ⟨n, hn⟩ : ∃ n, n = l.length := ⟨_, rfl⟩
  rw [← hn] at hlen ⊢
  have Hn := Lib.hid hn
  have H1 := Lib.hid h
  have H2 := Lib.hid h'
  clear h h' hn
  go_enter Tryz.func20, Tryz.ntmps20
  go_wp2
  go_loopw [5] (fun q wr => ∃ j m : Nat, j ≤ n ∧ q = .int .i64 j ∧ wr = w.drewN m) (fun q _ => n - (intOf q).toNat)
  case atStart => exact ⟨0, 0, Nat.zero_le _, rfl, rfl⟩
  case round =>
    obtain ⟨j, m, hj, rfl, rfl⟩ := hrel
    by_cases hjn : j < n
    · obtain ⟨x, hx⟩ : ∃ x, l[j]? = some x := ⟨l[j]'(by rw [← Hn.out]; omega), List.getElem?_eq_getElem _⟩
      obtain ⟨g, rfl, c1⟩ := H1.out j x hx
      obtain ⟨g', rfl, c2⟩ := H2.out j x hx
      have k1 : (j : Int) < n := by omega
      have k2 : (0 : Int) ≤ j := by omega
      clear hx
      go_wp2
      go_quiet (fail)
      go_wp2
      go_roundw
      case rel => exact ⟨j + 1, _, by omega, by go_num, rfl⟩
      case measure => simp [intOf] <;> omega
    · go_wp2
      go_ret
      exact ⟨rfl, Keeps.drewN _ _⟩
end Go.Proofs.YtbhiaeciiphelaaGreatDoor
