/-
  DERIVED. The prepared functions of the program that the run of the example enters, as the reckoning of their text gives them. No condition.
-/
import Derived.Test.YtbhiaeciiphelaaGreatDoorXk
import Derived.Test.YtbhiaeciiphelaaGreatDoorProg
namespace Go.Proofs.YtbhiaeciiphelaaGreatDoor
namespace Ex
noncomputable section
set_option maxRecDepth 1000000
set_option maxHeartbeats 8000000
def trie {α : Type} : List (Nat × α) → T α
  | [] => .E
  | (k, v) :: l => T.set (some v) FUEL (trie l) k
def lst (l : List AV) : T AV := putCells l 0 .E
def subC : List Nat → PC → PC
  | [], c => c
  | i :: l, c => match c with
    | .seq a b => subC l (match i with | 0 => a | _ => b)
    | .cond _ a b => subC l (match i with | 0 => a | _ => b)
    | .rangeF _ _ a b => subC l (match i with | 0 => a | _ => b)
    | .block _ b => subC l b
    | .loop b => subC l b
    | c => c
def subR (p : List Nat) (n : Nat) (c : PC) : List PO := match subC p c with
  | .region l => l.drop n
  | _ => []
abbrev PS (fn : Func) : Type := { x : PF // prepF Tryz.prog fn = x }
def pfs9 : PS Tryz.f9 := by
  refine ⟨?x, ?h⟩
  case h => cbv; rfl
def pf9 : PF := pfs9.1
def pfs15 : PS Tryz.f15 := by
  refine ⟨?x, ?h⟩
  case h => cbv; rfl
def pf15 : PF := pfs15.1
def pfs18 : PS Tryz.f18 := by
  refine ⟨?x, ?h⟩
  case h => cbv; rfl
def pf18 : PF := pfs18.1
def pfs20 : PS Tryz.f20 := by
  refine ⟨?x, ?h⟩
  case h => cbv; rfl
def pf20 : PF := pfs20.1
def pfs27 : PS Tryz.f27 := by
  refine ⟨?x, ?h⟩
  case h => cbv; rfl
def pf27 : PF := pfs27.1
def pfs30 : PS Tryz.f30 := by
  refine ⟨?x, ?h⟩
  case h => cbv; rfl
def pf30 : PF := pfs30.1
def pfs37 : PS Tryz.f37 := by
  refine ⟨?x, ?h⟩
  case h => cbv; rfl
def pf37 : PF := pfs37.1
def pfs39 : PS Tryz.f39 := by
  refine ⟨?x, ?h⟩
  case h => cbv; rfl
def pf39 : PF := pfs39.1
def pfs42 : PS Tryz.f42 := by
  refine ⟨?x, ?h⟩
  case h => cbv; rfl
def pf42 : PF := pfs42.1
def pfs43 : PS Tryz.f43 := by
  refine ⟨?x, ?h⟩
  case h => cbv; rfl
def pf43 : PF := pfs43.1
def pfs44 : PS Tryz.f44 := by
  refine ⟨?x, ?h⟩
  case h => cbv; rfl
def pf44 : PF := pfs44.1
def pfs45 : PS Tryz.f45 := by
  refine ⟨?x, ?h⟩
  case h => cbv; rfl
def pf45 : PF := pfs45.1
def pfs46 : PS Tryz.f46 := by
  refine ⟨?x, ?h⟩
  case h => cbv; rfl
def pf46 : PF := pfs46.1
def pfs47 : PS Tryz.f47 := by
  refine ⟨?x, ?h⟩
  case h => cbv; rfl
def pf47 : PF := pfs47.1
def pfs48 : PS Tryz.f48 := by
  refine ⟨?x, ?h⟩
  case h => cbv; rfl
def pf48 : PF := pfs48.1
def pfs50 : PS Tryz.f50 := by
  refine ⟨?x, ?h⟩
  case h => cbv; rfl
def pf50 : PF := pfs50.1
def pfs51 : PS Tryz.f51 := by
  refine ⟨?x, ?h⟩
  case h => cbv; rfl
def pf51 : PF := pfs51.1
def pfs53 : PS Tryz.f53 := by
  refine ⟨?x, ?h⟩
  case h => cbv; rfl
def pf53 : PF := pfs53.1
def pfs54 : PS Tryz.f54 := by
  refine ⟨?x, ?h⟩
  case h => cbv; rfl
def pf54 : PF := pfs54.1
def pfs61 : PS Tryz.f61 := by
  refine ⟨?x, ?h⟩
  case h => cbv; rfl
def pf61 : PF := pfs61.1
def pfs63 : PS Tryz.f63 := by
  refine ⟨?x, ?h⟩
  case h => cbv; rfl
def pf63 : PF := pfs63.1
def pfs65 : PS Tryz.f65 := by
  refine ⟨?x, ?h⟩
  case h => cbv; rfl
def pf65 : PF := pfs65.1
def pfs68 : PS Tryz.f68 := by
  refine ⟨?x, ?h⟩
  case h => cbv; rfl
def pf68 : PF := pfs68.1
def pfs69 : PS Tryz.f69 := by
  refine ⟨?x, ?h⟩
  case h => cbv; rfl
def pf69 : PF := pfs69.1
def pfs71 : PS Tryz.f71 := by
  refine ⟨?x, ?h⟩
  case h => cbv; rfl
def pf71 : PF := pfs71.1
def pfs72 : PS Tryz.f72 := by
  refine ⟨?x, ?h⟩
  case h => cbv; rfl
def pf72 : PF := pfs72.1
def pfs73 : PS Tryz.f73 := by
  refine ⟨?x, ?h⟩
  case h => cbv; rfl
def pf73 : PF := pfs73.1
def pfs74 : PS Tryz.f74 := by
  refine ⟨?x, ?h⟩
  case h => cbv; rfl
def pf74 : PF := pfs74.1
def pfs75 : PS Tryz.f75 := by
  refine ⟨?x, ?h⟩
  case h => cbv; rfl
def pf75 : PF := pfs75.1
def pfs76 : PS Tryz.f76 := by
  refine ⟨?x, ?h⟩
  case h => cbv; rfl
def pf76 : PF := pfs76.1
def pfs77 : PS Tryz.f77 := by
  refine ⟨?x, ?h⟩
  case h => cbv; rfl
def pf77 : PF := pfs77.1
def pfs78 : PS Tryz.f78 := by
  refine ⟨?x, ?h⟩
  case h => cbv; rfl
def pf78 : PF := pfs78.1
def pfs79 : PS Tryz.f79 := by
  refine ⟨?x, ?h⟩
  case h => cbv; rfl
def pf79 : PF := pfs79.1
def pfs80 : PS Tryz.f80 := by
  refine ⟨?x, ?h⟩
  case h => cbv; rfl
def pf80 : PF := pfs80.1
def pfs81 : PS Tryz.f81 := by
  refine ⟨?x, ?h⟩
  case h => cbv; rfl
def pf81 : PF := pfs81.1
def pfs82 : PS Tryz.f82 := by
  refine ⟨?x, ?h⟩
  case h => cbv; rfl
def pf82 : PF := pfs82.1
def pfs83 : PS Tryz.f83 := by
  refine ⟨?x, ?h⟩
  case h => cbv; rfl
def pf83 : PF := pfs83.1
def pfs84 : PS Tryz.f84 := by
  refine ⟨?x, ?h⟩
  case h => cbv; rfl
def pf84 : PF := pfs84.1
def pfs85 : PS Tryz.f85 := by
  refine ⟨?x, ?h⟩
  case h => cbv; rfl
def pf85 : PF := pfs85.1
def pfs86 : PS Tryz.f86 := by
  refine ⟨?x, ?h⟩
  case h => cbv; rfl
def pf86 : PF := pfs86.1
def pfs87 : PS Tryz.f87 := by
  refine ⟨?x, ?h⟩
  case h => cbv; rfl
def pf87 : PF := pfs87.1
def pfs88 : PS Tryz.f88 := by
  refine ⟨?x, ?h⟩
  case h => cbv; rfl
def pf88 : PF := pfs88.1
def pfs89 : PS Tryz.f89 := by
  refine ⟨?x, ?h⟩
  case h => cbv; rfl
def pf89 : PF := pfs89.1
def pfs90 : PS Tryz.f90 := by
  refine ⟨?x, ?h⟩
  case h => cbv; rfl
def pf90 : PF := pfs90.1
def pfs91 : PS Tryz.f91 := by
  refine ⟨?x, ?h⟩
  case h => cbv; rfl
def pf91 : PF := pfs91.1
def pfs92 : PS Tryz.f92 := by
  refine ⟨?x, ?h⟩
  case h => cbv; rfl
def pf92 : PF := pfs92.1
def pfs95 : PS Tryz.f95 := by
  refine ⟨?x, ?h⟩
  case h => cbv; rfl
def pf95 : PF := pfs95.1
def pfs96 : PS Tryz.f96 := by
  refine ⟨?x, ?h⟩
  case h => cbv; rfl
def pf96 : PF := pfs96.1
def pfs97 : PS Tryz.f97 := by
  refine ⟨?x, ?h⟩
  case h => cbv; rfl
def pf97 : PF := pfs97.1
def pfs98 : PS Tryz.f98 := by
  refine ⟨?x, ?h⟩
  case h => cbv; rfl
def pf98 : PF := pfs98.1
def pfs99 : PS Tryz.f99 := by
  refine ⟨?x, ?h⟩
  case h => cbv; rfl
def pf99 : PF := pfs99.1
def pfs100 : PS Tryz.f100 := by
  refine ⟨?x, ?h⟩
  case h => cbv; rfl
def pf100 : PF := pfs100.1
def pfs101 : PS Tryz.f101 := by
  refine ⟨?x, ?h⟩
  case h => cbv; rfl
def pf101 : PF := pfs101.1
def pfs102 : PS Tryz.f102 := by
  refine ⟨?x, ?h⟩
  case h => cbv; rfl
def pf102 : PF := pfs102.1
def pfs103 : PS Tryz.f103 := by
  refine ⟨?x, ?h⟩
  case h => cbv; rfl
def pf103 : PF := pfs103.1
def pfs104 : PS Tryz.f104 := by
  refine ⟨?x, ?h⟩
  case h => cbv; rfl
def pf104 : PF := pfs104.1
def pfs105 : PS Tryz.f105 := by
  refine ⟨?x, ?h⟩
  case h => cbv; rfl
def pf105 : PF := pfs105.1
def pfs106 : PS Tryz.f106 := by
  refine ⟨?x, ?h⟩
  case h => cbv; rfl
def pf106 : PF := pfs106.1
def pfs107 : PS Tryz.f107 := by
  refine ⟨?x, ?h⟩
  case h => cbv; rfl
def pf107 : PF := pfs107.1
def pfs108 : PS Tryz.f108 := by
  refine ⟨?x, ?h⟩
  case h => cbv; rfl
def pf108 : PF := pfs108.1
def pfs109 : PS Tryz.f109 := by
  refine ⟨?x, ?h⟩
  case h => cbv; rfl
def pf109 : PF := pfs109.1
def pfs110 : PS Tryz.f110 := by
  refine ⟨?x, ?h⟩
  case h => cbv; rfl
def pf110 : PF := pfs110.1
def pfs112 : PS Tryz.f112 := by
  refine ⟨?x, ?h⟩
  case h => cbv; rfl
def pf112 : PF := pfs112.1
def pfs113 : PS Tryz.f113 := by
  refine ⟨?x, ?h⟩
  case h => cbv; rfl
def pf113 : PF := pfs113.1
def pfs114 : PS Tryz.f114 := by
  refine ⟨?x, ?h⟩
  case h => cbv; rfl
def pf114 : PF := pfs114.1
def pfs115 : PS Tryz.f115 := by
  refine ⟨?x, ?h⟩
  case h => cbv; rfl
def pf115 : PF := pfs115.1
def pfs116 : PS Tryz.f116 := by
  refine ⟨?x, ?h⟩
  case h => cbv; rfl
def pf116 : PF := pfs116.1
def pfs117 : PS Tryz.f117 := by
  refine ⟨?x, ?h⟩
  case h => cbv; rfl
def pf117 : PF := pfs117.1
def pfs118 : PS Tryz.f118 := by
  refine ⟨?x, ?h⟩
  case h => cbv; rfl
def pf118 : PF := pfs118.1
def pfs119 : PS Tryz.f119 := by
  refine ⟨?x, ?h⟩
  case h => cbv; rfl
def pf119 : PF := pfs119.1
def pfs120 : PS Tryz.f120 := by
  refine ⟨?x, ?h⟩
  case h => cbv; rfl
def pf120 : PF := pfs120.1
def pfs121 : PS Tryz.f121 := by
  refine ⟨?x, ?h⟩
  case h => cbv; rfl
def pf121 : PF := pfs121.1
def pfs122 : PS Tryz.f122 := by
  refine ⟨?x, ?h⟩
  case h => cbv; rfl
def pf122 : PF := pfs122.1
def pfs123 : PS Tryz.f123 := by
  refine ⟨?x, ?h⟩
  case h => cbv; rfl
def pf123 : PF := pfs123.1
def pfs124 : PS Tryz.f124 := by
  refine ⟨?x, ?h⟩
  case h => cbv; rfl
def pf124 : PF := pfs124.1
def pfs125 : PS Tryz.f125 := by
  refine ⟨?x, ?h⟩
  case h => cbv; rfl
def pf125 : PF := pfs125.1
def pfs126 : PS Tryz.f126 := by
  refine ⟨?x, ?h⟩
  case h => cbv; rfl
def pf126 : PF := pfs126.1
def pfs127 : PS Tryz.f127 := by
  refine ⟨?x, ?h⟩
  case h => cbv; rfl
def pf127 : PF := pfs127.1
def pfs128 : PS Tryz.f128 := by
  refine ⟨?x, ?h⟩
  case h => cbv; rfl
def pf128 : PF := pfs128.1
def pfs129 : PS Tryz.f129 := by
  refine ⟨?x, ?h⟩
  case h => cbv; rfl
def pf129 : PF := pfs129.1
def pfs130 : PS Tryz.f130 := by
  refine ⟨?x, ?h⟩
  case h => cbv; rfl
def pf130 : PF := pfs130.1
def pfs131 : PS Tryz.f131 := by
  refine ⟨?x, ?h⟩
  case h => cbv; rfl
def pf131 : PF := pfs131.1
end
end Ex
end Go.Proofs.YtbhiaeciiphelaaGreatDoor
