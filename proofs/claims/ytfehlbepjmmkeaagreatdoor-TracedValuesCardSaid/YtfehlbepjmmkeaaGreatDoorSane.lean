/-
  DERIVED. The example with which the statements begin returns true and leaves all memory as it was. Condition: the package variable that it reads is laid.
-/
import Derived.Test.YtfehlbepjmmkeaaGreatDoorCk1
import Derived.Test.YtfehlbepjmmkeaaGreatDoorCk2
import Derived.Test.YtfehlbepjmmkeaaGreatDoorCk3
import Derived.Test.YtfehlbepjmmkeaaGreatDoorCk4
import Derived.Test.YtfehlbepjmmkeaaGreatDoorCk5
import Derived.Test.YtfehlbepjmmkeaaGreatDoorCk6
import Derived.Test.YtfehlbepjmmkeaaGreatDoorCk7
import Derived.Test.YtfehlbepjmmkeaaGreatDoorCk8
import Derived.Test.YtfehlbepjmmkeaaGreatDoorCk9
import Derived.Test.YtfehlbepjmmkeaaGreatDoorCk10
import Derived.Test.YtfehlbepjmmkeaaGreatDoorCk11
import Derived.Test.YtfehlbepjmmkeaaGreatDoorCk12
import Derived.Test.YtfehlbepjmmkeaaGreatDoorCk13
import Derived.Test.YtfehlbepjmmkeaaGreatDoorCk14
import Derived.Test.YtfehlbepjmmkeaaGreatDoorFk15
import Derived.Test.YtfehlbepjmmkeaaGreatDoorFk15a
import Derived.Test.YtfehlbepjmmkeaaGreatDoorFk15b
import Derived.Test.YtfehlbepjmmkeaaGreatDoorFk15c
import Derived.Test.YtfehlbepjmmkeaaGreatDoorCk16
import Derived.Test.YtfehlbepjmmkeaaGreatDoorCk17
import Derived.Test.YtfehlbepjmmkeaaGreatDoorTie2
namespace Go.Proofs.YtfehlbepjmmkeaaGreatDoor
open Go.RowKit
namespace Ex
set_option maxRecDepth 100000

theorem callExt {P : Program} {f : Nat} {fn : Func} {e : Array Value → Sem Value} (hf : P.funcs[f]? = some fn) (hb : fn.body = none) (hn : (fn.name == "runtime.NumGoroutine") = false)
    (hx : Extern.findNext fn = none) (he : Extern.find fn = some e) {args : Array Value} {w : World} {v : Value} (h : (e args).run P w = .ok v w) : (callFunc f args).run P w = .ok (.value v) w := by
  have hn' : fn.name ≠ "runtime.NumGoroutine" := by simpa using hn
  simp [callFunc, go_sem, hf, hb, hx, hn', he, h]

/-- Of a name there is one function alone. -/
def soleB (P : Program) (n : String) (k : Nat) : Bool := (P.funcs.toList.zipIdx.all fun x => x.1.name != n || Nat.beq x.2 k)
theorem sole {P : Program} {n : String} {k : Nat} (h : soleB P n k = true) {f : Nat} {fn : Func} (hf : P.funcs[f]? = some fn) (hn : fn.name = n) : f = k := by
  unfold soleB at h
  rw [List.all_eq_true] at h
  have hm : (fn, f) ∈ P.funcs.toList.zipIdx := by
    rw [List.mem_zipIdx_iff_getElem?]
    simpa using hf
  have := h _ hm
  simp only [Bool.or_eq_true, bne_iff_ne, ne_eq] at this
  rcases this with h1 | h1
  · exact absurd hn h1
  · exact Nat.eq_of_beq_eq_true h1

theorem ext : Ext Tryz.prog where
  mix := by kernel_rfl
  idx f fn hf hb hn args w v h := by
    have e : f = 291 := sole (show soleB Tryz.prog nmIdx 291 = true by decide +kernel) hf hn
    subst e
    rw [Tryz.func291] at hf
    injection hf with hf
    subst hf
    exact callExt Tryz.func291 (by kernel_rfl) (by kernel_rfl) (by kernel_rfl) (by kernel_rfl) h
  cnt f fn hf hb hn args w v h := by
    have e : f = 261 := sole (show soleB Tryz.prog nmCnt 261 = true by decide +kernel) hf hn
    subst e
    rw [Tryz.func261] at hf
    injection hf with hf
    subst hf
    exact callExt Tryz.func261 (by kernel_rfl) (by kernel_rfl) (by kernel_rfl) (by kernel_rfl) h
  esc f fn hf hb hn v w := by
    have e : f = 226 := sole (show soleB Tryz.prog nmEsc 226 = true by decide +kernel) hf hn
    subst e
    rw [Tryz.func226] at hf
    injection hf with hf
    subst hf
    exact callExt Tryz.func226 (by kernel_rfl) (by kernel_rfl) (by kernel_rfl) (e := Extern.AbiNoEscape.same) (by kernel_rfl) (by rfl)

theorem part {n : Nat} {s r : AS} (h : chkG C 6 n s r = true) : Reach Tryz.prog s r := chk_reach ext table ((chkG_eq C 6 n s r) ▸ h)
theorem p1 : Reach Tryz.prog s0 s1 := part c1
theorem p2 : Reach Tryz.prog s1 s2 := part c2
theorem p3 : Reach Tryz.prog s2 s3 := part c3
theorem p4 : Reach Tryz.prog s3 s4 := part c4
theorem p5 : Reach Tryz.prog s4 s5 := part c5
theorem p6 : Reach Tryz.prog s5 s6 := part c6
theorem p7 : Reach Tryz.prog s6 s7 := part c7
theorem p8 : Reach Tryz.prog s7 s8 := part c8
theorem p9 : Reach Tryz.prog s8 s9 := part c9
theorem p10 : Reach Tryz.prog s9 s10 := part c10
theorem p11 : Reach Tryz.prog s10 s11 := part c11
theorem p12 : Reach Tryz.prog s11 s12 := part c12
theorem p13 : Reach Tryz.prog s12 s13 := part c13
theorem p14 : Reach Tryz.prog s13 s14 := part c14
theorem w15x0 : ReachL 7528 Tryz.prog (way (runL C 6 0 6 s14) 0) r15 := toFork_reach ext table g15x0 (fun j hj => match j, hj with
  | 0, _ => chkL_reach ext table h15x0x0
  | 1, _ => chkL_reach ext table h15x0x1
  | 2, _ => chkL_reach ext table h15x0x2
  | 3, _ => chkL_reach ext table h15x0x3
  | k + 4, h => absurd h (by omega)) rfl rfl
theorem w15x1 : ReachL 7528 Tryz.prog (way (runL C 6 0 6 s14) 1) r15 := toFork_reach ext table g15x1 (fun j hj => match j, hj with
  | 0, _ => chkL_reach ext table h15x1x0
  | 1, _ => chkL_reach ext table h15x1x1
  | 2, _ => chkL_reach ext table h15x1x2
  | 3, _ => chkL_reach ext table h15x1x3
  | k + 4, h => absurd h (by omega)) rfl rfl
theorem w15x2 : ReachL 7528 Tryz.prog (way (runL C 6 0 6 s14) 2) r15 := toFork_reach ext table g15x2 (fun j hj => match j, hj with
  | 0, _ => chkL_reach ext table h15x2x0
  | 1, _ => chkL_reach ext table h15x2x1
  | 2, _ => chkL_reach ext table h15x2x2
  | 3, _ => chkL_reach ext table h15x2x3
  | k + 4, h => absurd h (by omega)) rfl rfl
theorem w15x3 : ReachL 7528 Tryz.prog (way (runL C 6 0 6 s14) 3) r15 := toFork_reach ext table g15x3 (fun j hj => match j, hj with
  | 0, _ => chkL_reach ext table h15x3x0
  | 1, _ => chkL_reach ext table h15x3x1
  | 2, _ => chkL_reach ext table h15x3x2
  | 3, _ => chkL_reach ext table h15x3x3
  | k + 4, h => absurd h (by omega)) rfl rfl
theorem w15x4 : ReachL 7528 Tryz.prog (way (runL C 6 0 6 s14) 4) r15 := toFork_reach ext table g15x4 (fun j hj => match j, hj with
  | 0, _ => chkL_reach ext table h15x4x0
  | 1, _ => chkL_reach ext table h15x4x1
  | 2, _ => chkL_reach ext table h15x4x2
  | 3, _ => chkL_reach ext table h15x4x3
  | k + 4, h => absurd h (by omega)) rfl rfl
theorem p15 : Reach Tryz.prog s14 s15 := toForkT_reach ext table f15 (fun i hi => match i, hi with
  | 0, _ => w15x0
  | 1, _ => w15x1
  | 2, _ => w15x2
  | 3, _ => w15x3
  | 4, _ => w15x4
  | k + 5, h => absurd h (by omega)) rfl rfl
theorem p16 : Reach Tryz.prog s15 s16 := part c16
theorem p17 : Reach Tryz.prog s16 s17 := part c17

theorem whole : Reach Tryz.prog s0 s17 := ((((((((((((((((p1.trans p2).trans p3).trans p4).trans p5).trans p6).trans p7).trans p8).trans p9).trans p10).trans p11).trans p12).trans p13).trans p14).trans p15).trans p16).trans p17)

/-- Where the names of the run lie when it begins. -/
def place (b o : Nat) (n : Nat) : Loc := if n = 64 then ⟨b, o, 0⟩ else ⟨n, 0, 0⟩

theorem H0_get {n : Nat} {x : ABlk} (h : H0.bl.get n = some x) : n = 0 ∧ x = .cells 1 (lst [.iface 354 (.ptr 64 0)]) 228 false 0 0 := by
  have := trie_get (α := ABlk) (l := [(0, ABlk.cells 1 (lst [AV.iface 354 (AV.ptr 64 0)]) 228 false 0 0)]) (fun x hx => by
    rw [List.mem_singleton] at hx; subst hx; exact of_decide_eq_true (by kernel_rfl)) h
  rw [List.mem_singleton] at this
  injection this with h1 h2
  exact ⟨h1, h2⟩

theorem lst_get {i : Nat} {x v : AV} (h : (lst [x]).get i = some v) : i = 0 ∧ v = x := by
  have e : lst [x] = T.set (some x) FUEL .E 0 := rfl
  rw [e, T.get_set _ _ _ _ _ (of_decide_eq_true (by kernel_rfl))] at h
  split at h
  · rename_i h0
    injection h with h
    exact ⟨h0, h.symm⟩
  · rw [T.get_E] at h; cases h

theorem start {w : World} {b o : Nat} (h : w.heap[0]? = some (.cells #[.iface 354 (.pointer (some ⟨b, o, none⟩))] 228 (0, 0))) : Rel Tryz.prog (place b o) (fun n => n < 65) H0 w where
  blk n x hx _ := by
    obtain ⟨rfl, rfl⟩ := H0_get hx
    refine ⟨_, _, h, rfl, fun _ => ⟨rfl, rfl, rfl⟩, fun hc => (by cases hc), fun i v hv => ?_⟩
    obtain ⟨rfl, rfl⟩ := lst_get hv
    exact ⟨Nat.zero_lt_one, (show (64 : Nat) < 65 by decide), rfl⟩
  inj n n' x x' hx hx' _ _ _ := (H0_get hx).1.trans (H0_get hx').1.symm
  next n hn := hn
  glob g hg := ⟨Nat.lt_of_lt_of_le hg (by decide), by unfold place; rw [if_neg (by have : GMAX = 64 := rfl; omega)]⟩
  lent n m l c hx _ := by have := (H0_get hx).2; cases this
  uniq n m l c n' l' c' hx _ _ _ := by have := (H0_get hx).2; cases this

theorem sane_calls {w : World} {b o : Nat} (h : w.heap[0]? = some (.cells #[.iface 354 (.pointer (some ⟨b, o, none⟩))] 228 (0, 0))) :
    Calls Tryz.prog 5 #[] w fun e w' => e = .returned (.bool true) ∧ w'.os = w.os ∧ w'.tape = w.tape ∧ w'.output = w.output ∧ w.heap.size ≤ w'.heap.size ∧ ∀ i, i < w.heap.size → w'.heap[i]? = w.heap[i]? := by
  have he : enterA C 5 [] false 64 = some s0.fr := by kernel_rfl
  have hs : s0 = ⟨s0.fr, [], H0⟩ := by kernel_rfl
  have hd : doneA C 5 s17 = some (.bool true) := by kernel_rfl
  have hr := whole
  rw [hs] at hr
  refine (calls_of_reach table he hr hd (show 64 ≤ 65 by decide) (start h) trivial).mono fun e w' ⟨φ', dm', q1, _, q3, q4⟩ => ?_
  refine ⟨q1, q4.os, q4.tape, q4.output, q4.size, fun i hi => ?_⟩
  by_cases ho : i = 0
  · subst ho
    have hg : s17.H.bl.get 0 = some (.cells 1 (lst [.iface 354 (.ptr 64 0)]) 228 false 0 0) := by kernel_rfl
    have hdm : dm' 0 := q4.dms 0 (show (0 : Nat) < 65 by decide)
    have hp : φ' 0 = ⟨0, 0, 0⟩ := q4.ph 0 (show (0 : Nat) < 65 by decide)
    have hp2 : φ' 64 = ⟨b, o, 0⟩ := q4.ph 64 (show (64 : Nat) < 65 by decide)
    obtain ⟨c, z, r1, r2, r3, _, r4⟩ := q3.blk 0 _ hg hdm
    obtain ⟨_, _, r5⟩ := r3 rfl
    obtain ⟨_, _, r6⟩ := r4 0 (.iface 354 (.ptr 64 0)) (by kernel_rfl)
    rw [hp] at r1 r6
    have hz : z = (0, 0) := r2
    have hc : c = #[.iface 354 (.pointer (some ⟨b, o, none⟩))] := by
      have hv : conc φ' (.iface 354 (.ptr 64 0)) = .iface 354 (.pointer (some ⟨b, o, none⟩)) := by simp [conc, hp2]
      rw [hv] at r6
      obtain ⟨l⟩ := c
      match l, r5, r6 with
      | [y], _, r6 =>
        simp at r6
        rw [r6]
    rw [r1, h, hz, hc]
  · refine q4.frame i hi fun hx => ?_
    obtain ⟨n, x, h1, _, h3⟩ := hx
    obtain ⟨rfl, rfl⟩ := H0_get h1
    exact ho (by rw [← h3]; rfl)
end Ex
end Go.Proofs.YtfehlbepjmmkeaaGreatDoor
