/-
  DERIVED. slices.Collect over a list's indices, by the range over a function. Condition: the events lie in a row; there are at most sixty thousand.
-/
import Derived.Test.YtbhiaeciiphelaaGreatDoorEvO
namespace Go.Proofs.YtbhiaeciiphelaaGreatDoor
open Go.RowKit Go.Shelf
attribute [local go_sem] Oper.semAt_some
/-- What the iterator over a list's indices reads. -/
structure ItAt (w : World) (bx bk ba L : Nat) (a : Option Addr) (n c : Nat) (y : Int) (evs : List Ev) : Prop where
  x : w.cell? ⟨bx, 0, none⟩ = some (.pointer (some ⟨L, 0, none⟩))
  k : w.cell? ⟨bk, 0, none⟩ = some (.int .i64 2)
  y : w.cell? ⟨ba, 0, none⟩ = some (.int .i64 y)
  l : w.cell? ⟨L, 0, none⟩ = some (.slice a n c)
  ev : EvIn w a n evs
  lx : bx < w.heap.size
  lk : bk < w.heap.size
  ly : ba < w.heap.size
  ll : L < w.heap.size
theorem ItAt.below {w w' : World} {bx bk ba L : Nat} {a : Option Addr} {n c : Nat} {y : Int} {evs : List Ev} (h : ItAt w bx bk ba L a n c y evs) (hb : Below w.heap.size w w') : ItAt w' bx bk ba L a n c y evs :=
  ⟨by rw [hb.cell (p := ⟨bx, 0, none⟩) h.lx]; exact h.x, by rw [hb.cell (p := ⟨bk, 0, none⟩) h.lk]; exact h.k, by rw [hb.cell (p := ⟨ba, 0, none⟩) h.ly]; exact h.y, by rw [hb.cell (p := ⟨L, 0, none⟩) h.ll]; exact h.l,
    h.ev.keeps ⟨hb.os, hb.tape, hb.output, hb.size, fun k hk _ => hb.block k hk⟩, Nat.lt_of_lt_of_le h.lx hb.size, Nat.lt_of_lt_of_le h.lk hb.size, Nat.lt_of_lt_of_le h.ly hb.size, Nat.lt_of_lt_of_le h.ll hb.size⟩
set_option maxHeartbeats 4000000 in
set_option maxRecDepth 100000 in
theorem indices1_in (nn l bx bk ba L : Nat) (a : Option Addr) (n c : Nat) (y : Int) (evs : List Ev) (J : Nat → World → Prop) (Y : World → World → Prop) (W : World) (hn : n = evs.length) (hfew : n ≤ 60000)
    (hm : ∀ (i : Nat) (W' : World), J i W' → ItAt W' bx bk ba L a n c y evs) (hJa : ∀ (i : Nat) (W' : World) (o : Obj), J i W' → J i (W'.alloc o)) (h0 : J 0 W)
    (hY : ∀ (i : Nat) (W1 : World) (x : Nat), (rdsOf y 0 evs)[i]? = some x → J i W1 → Yields l #[.int .i64 x] W1 fun e W' => e = .returned (.bool true) ∧ J (i + 1) W' ∧ Y W1 W') :
    CallsIn Fence.wide nn Tryz.prog 88 #[.func (.yield l) #[] #[], .pointer (some ⟨bx, 0, none⟩), .pointer (some ⟨bk, 0, none⟩), .pointer (some ⟨ba, 0, none⟩)] W fun e W' => (∃ v, e = .returned v) ∧ J (rdsOf y 0 evs).length W' := by
  obtain ⟨m1, m2, m3, m4, m5, _, _, _, _⟩ := hm 0 W h0
  clear m2 m3 m5
  have HM := Lib.hid hm
  have HY := Lib.hid hY
  have H0 := Lib.hid h0
  have HJa := Lib.hid hJa
  have HN := Lib.hid hn
  clear hm hY h0 hJa hn
  refine callsIn_of_wp Tryz.func88 rfl trivial ?_ rfl
  simp only [Tryz.ntmps88, List.size_toArray, List.length_cons, List.length_nil, Nat.reduceAdd, Nat.reduceSub, Array.replicate_succ, Array.replicate_zero, List.push_toArray, List.append_toArray, List.nil_append, List.cons_append]
  gi_wp2
  clear m1 m4
  gi_loopw [12] (fun q wr => ∃ i : Nat, i ≤ n ∧ q = .int .i64 i ∧ J (rdsOf y 0 (evs.take i)).length wr) (fun q _ => n - (intOf q).toNat)
  case atStart => exact ⟨0, Nat.zero_le _, rfl, H0.out⟩
  case round =>
    obtain ⟨i, hi, rfl, hJ⟩ := hrel
    have HJ := Lib.hid hJ
    clear hJ
    by_cases hin : i < n
    · obtain ⟨e, he⟩ : ∃ e, evs[i]? = some e := ⟨evs[i]'(by rw [← HN.out]; omega), List.getElem?_eq_getElem _⟩
      obtain ⟨m1, m2, m3, m4, m5, l1, l2, l3, l4⟩ := HM.out _ _ HJ.out
      obtain ⟨eb, eo, rfl, hlt, c0, c1, c2, c3, c4, c5, c6, c7⟩ := m5.ev.cells he
      have HE := Lib.hid (rdsOf_take (y := y) he)
      have HEv := Lib.hid he
      clear he m1 m4 m5 l1 l4
      have k1 : (i : Int) < n := by omega
      have k2 : (0 : Int) ≤ i := by omega
      by_cases q2 : e.kind = 2
      · rw [q2] at c0
        by_cases hay : e.addr = y
        · subst hay
          have hS : rdsOf e.addr 0 (evs.take (i + 1)) = rdsOf e.addr 0 (evs.take i) ++ [i] := by rw [HE.out, if_pos ⟨q2, rfl⟩]
          have hat : (rdsOf e.addr 0 evs)[(rdsOf e.addr 0 (evs.take i)).length]? = some i := by
            have h1 := rdsOf_append e.addr 0 (evs.take (i + 1)) (evs.drop (i + 1))
            rw [List.take_append_drop, hS] at h1
            rw [h1]; simp
          have hS2 : (rdsOf e.addr 0 (evs.take i)).length + 1 = (rdsOf e.addr 0 (evs.take (i + 1))).length := by rw [hS]; simp
          have hy := HY.out _ (wr.alloc (.cells #[.int .i64 2, .int .i64 e.site, .int .i64 e.addr, .slice e.args e.argn e.argc, .int .i64 e.vk, .int .i64 e.vn, .string e.vs, .slice e.va e.van e.vac] 98)) i hat (HJa.out _ _ _ HJ.out)
          rw [hS2] at hy
          obtain ⟨fn, tmps, assign, body, hy1, hR⟩ := hy
          have HR := Lib.hid hR
          clear hR hS hS2 hat
          gi_wp2
          refine ⟨fun h => by simp [Fence.wide] at h, (roundIn_any _ HR.out).mono ?_⟩
          rintro _ W3 ⟨rfl, hJ3, _⟩
          have HJ3 := Lib.hid hJ3
          clear hJ3
          gi_wp2
          go_roundw
          case rel => exact ⟨i + 1, by omega, by go_num, HJ3.out⟩
          case measure => simp [intOf] <;> omega
        · have HS := Lib.hid (show rdsOf y 0 (evs.take (i + 1)) = rdsOf y 0 (evs.take i) by rw [HE.out, if_neg (fun h => hay h.2), List.append_nil])
          have hbq : (e.addr == y) = false := by simp [hay]
          gi_wp2
          refine ⟨fun _ _ => trivial, ?_⟩
          gi_wp2
          go_roundw
          case rel => exact ⟨i + 1, by omega, by go_num, by rw [HS.out]; exact HJa.out _ _ _ HJ.out⟩
          case measure => simp [intOf] <;> omega
      · have HS := Lib.hid (show rdsOf y 0 (evs.take (i + 1)) = rdsOf y 0 (evs.take i) by rw [HE.out, if_neg (fun h => q2 h.1), List.append_nil])
        have hbq : (e.kind == 2) = false := by simp [q2]
        gi_wp2
        refine ⟨fun _ _ => trivial, ?_⟩
        gi_wp2
        go_roundw
        case rel => exact ⟨i + 1, by omega, by go_num, by rw [HS.out]; exact HJa.out _ _ _ HJ.out⟩
        case measure => simp [intOf] <;> omega
    · obtain rfl : i = n := by omega
      gi_wp2
      go_end0
      refine ⟨⟨_, rfl⟩, ?_⟩
      have := HJ.out
      rw [HN.out, List.take_length] at this
      exact this
end Go.Proofs.YtbhiaeciiphelaaGreatDoor
