/-
  DERIVED. Prepared functions of the program that the run of the example enters, as the reckoning of their text gives them. No condition.
-/
import Derived.Test.YtfehlbepjmmkeaaGreatDoorXk
import Derived.Test.YtfehlbepjmmkeaaGreatDoorProg
namespace Go.Proofs.YtfehlbepjmmkeaaGreatDoor
namespace Ex
noncomputable section
set_option maxRecDepth 1000000
set_option maxHeartbeats 8000000
def trie {α : Type} : List (Nat × α) → T α
  | [] => .E
  | (k, v) :: l => T.set (some v) FUEL (trie l) k
def lst (l : List AV) : T AV := putCells l 0 .E
def subC : List Nat → PC → PC
  | [], c => c
  | i :: l, c => match c with
    | .seq a b => subC l (match i with | 0 => a | _ => b)
    | .cond _ a b => subC l (match i with | 0 => a | _ => b)
    | .rangeF _ _ a b => subC l (match i with | 0 => a | _ => b)
    | .block _ b => subC l b
    | .loop b => subC l b
    | c => c
def subR (p : List Nat) (n : Nat) (c : PC) : List PO := match subC p c with
  | .region l => l.drop n
  | _ => []
def subD (p : List Nat) (n : Nat) (c : PC) : DO := match subC p c with
  | .drawn l => l.getD n ⟨0, ⟨none, none, .bad, 0⟩, []⟩
  | _ => ⟨0, ⟨none, none, .bad, 0⟩, []⟩
def eqTs : List Nat := [2, 3, 5, 6, 12, 21, 26, 234, 269, 277, 279, 304, 324, 368, 369, 371, 372]
/-- A function prepared. -/
abbrev PS (fn : Func) : Type := { x : PF // prepF Tryz.prog fn = x }
def pfs5 : PS Tryz.f5 := by
 refine ⟨?x, ?h⟩
 case h => cbv; rfl
def pf5 : PF := pfs5.1
def pfs6 : PS Tryz.f6 := by
 refine ⟨?x, ?h⟩
 case h => cbv; rfl
def pf6 : PF := pfs6.1
def pfs17 : PS Tryz.f17 := by
 refine ⟨?x, ?h⟩
 case h => cbv; rfl
def pf17 : PF := pfs17.1
def pfs18 : PS Tryz.f18 := by
 refine ⟨?x, ?h⟩
 case h => cbv; rfl
def pf18 : PF := pfs18.1
def pfs19 : PS Tryz.f19 := by
 refine ⟨?x, ?h⟩
 case h => cbv; rfl
def pf19 : PF := pfs19.1
def pfs20 : PS Tryz.f20 := by
 refine ⟨?x, ?h⟩
 case h => cbv; rfl
def pf20 : PF := pfs20.1
def pfs21 : PS Tryz.f21 := by
 refine ⟨?x, ?h⟩
 case h => cbv; rfl
def pf21 : PF := pfs21.1
def pfs22 : PS Tryz.f22 := by
 refine ⟨?x, ?h⟩
 case h => cbv; rfl
def pf22 : PF := pfs22.1
def pfs23 : PS Tryz.f23 := by
 refine ⟨?x, ?h⟩
 case h => cbv; rfl
def pf23 : PF := pfs23.1
def pfs24 : PS Tryz.f24 := by
 refine ⟨?x, ?h⟩
 case h => cbv; rfl
def pf24 : PF := pfs24.1
def pfs25 : PS Tryz.f25 := by
 refine ⟨?x, ?h⟩
 case h => cbv; rfl
def pf25 : PF := pfs25.1
def pfs26 : PS Tryz.f26 := by
 refine ⟨?x, ?h⟩
 case h => cbv; rfl
def pf26 : PF := pfs26.1
def pfs27 : PS Tryz.f27 := by
 refine ⟨?x, ?h⟩
 case h => cbv; rfl
def pf27 : PF := pfs27.1
def pfs30 : PS Tryz.f30 := by
 refine ⟨?x, ?h⟩
 case h => cbv; rfl
def pf30 : PF := pfs30.1
def pfs54 : PS Tryz.f54 := by
 refine ⟨?x, ?h⟩
 case h => cbv; rfl
def pf54 : PF := pfs54.1
def pfs55 : PS Tryz.f55 := by
 refine ⟨?x, ?h⟩
 case h => cbv; rfl
def pf55 : PF := pfs55.1
def pfs56 : PS Tryz.f56 := by
 refine ⟨?x, ?h⟩
 case h => cbv; rfl
def pf56 : PF := pfs56.1
def pfs57 : PS Tryz.f57 := by
 refine ⟨?x, ?h⟩
 case h => cbv; rfl
def pf57 : PF := pfs57.1
def pfs58 : PS Tryz.f58 := by
 refine ⟨?x, ?h⟩
 case h => cbv; rfl
def pf58 : PF := pfs58.1
def pfs59 : PS Tryz.f59 := by
 refine ⟨?x, ?h⟩
 case h => cbv; rfl
def pf59 : PF := pfs59.1
def pfs60 : PS Tryz.f60 := by
 refine ⟨?x, ?h⟩
 case h => cbv; rfl
def pf60 : PF := pfs60.1
def pfs61 : PS Tryz.f61 := by
 refine ⟨?x, ?h⟩
 case h => cbv; rfl
def pf61 : PF := pfs61.1
def pfs62 : PS Tryz.f62 := by
 refine ⟨?x, ?h⟩
 case h => cbv; rfl
def pf62 : PF := pfs62.1
def pfs63 : PS Tryz.f63 := by
 refine ⟨?x, ?h⟩
 case h => cbv; rfl
def pf63 : PF := pfs63.1
def pfs64 : PS Tryz.f64 := by
 refine ⟨?x, ?h⟩
 case h => cbv; rfl
def pf64 : PF := pfs64.1
def pfs65 : PS Tryz.f65 := by
 refine ⟨?x, ?h⟩
 case h => cbv; rfl
def pf65 : PF := pfs65.1
def pfs66 : PS Tryz.f66 := by
 refine ⟨?x, ?h⟩
 case h => cbv; rfl
def pf66 : PF := pfs66.1
def pfs67 : PS Tryz.f67 := by
 refine ⟨?x, ?h⟩
 case h => cbv; rfl
def pf67 : PF := pfs67.1
def pfs68 : PS Tryz.f68 := by
 refine ⟨?x, ?h⟩
 case h => cbv; rfl
def pf68 : PF := pfs68.1
def pfs69 : PS Tryz.f69 := by
 refine ⟨?x, ?h⟩
 case h => cbv; rfl
def pf69 : PF := pfs69.1
def pfs70 : PS Tryz.f70 := by
 refine ⟨?x, ?h⟩
 case h => cbv; rfl
def pf70 : PF := pfs70.1
def pfs71 : PS Tryz.f71 := by
 refine ⟨?x, ?h⟩
 case h => cbv; rfl
def pf71 : PF := pfs71.1
def pfs72 : PS Tryz.f72 := by
 refine ⟨?x, ?h⟩
 case h => cbv; rfl
def pf72 : PF := pfs72.1
def pfs73 : PS Tryz.f73 := by
 refine ⟨?x, ?h⟩
 case h => cbv; rfl
def pf73 : PF := pfs73.1
def pfs74 : PS Tryz.f74 := by
 refine ⟨?x, ?h⟩
 case h => cbv; rfl
def pf74 : PF := pfs74.1
def pfs75 : PS Tryz.f75 := by
 refine ⟨?x, ?h⟩
 case h => cbv; rfl
def pf75 : PF := pfs75.1
def pfs76 : PS Tryz.f76 := by
 refine ⟨?x, ?h⟩
 case h => cbv; rfl
def pf76 : PF := pfs76.1
def pfs77 : PS Tryz.f77 := by
 refine ⟨?x, ?h⟩
 case h => cbv; rfl
def pf77 : PF := pfs77.1
def pfs79 : PS Tryz.f79 := by
 refine ⟨?x, ?h⟩
 case h => cbv; rfl
def pf79 : PF := pfs79.1
def pfs99 : PS Tryz.f99 := by
 refine ⟨?x, ?h⟩
 case h => cbv; rfl
def pf99 : PF := pfs99.1
def pfs100 : PS Tryz.f100 := by
 refine ⟨?x, ?h⟩
 case h => cbv; rfl
def pf100 : PF := pfs100.1
def pfs101 : PS Tryz.f101 := by
 refine ⟨?x, ?h⟩
 case h => cbv; rfl
def pf101 : PF := pfs101.1
def pfs102 : PS Tryz.f102 := by
 refine ⟨?x, ?h⟩
 case h => cbv; rfl
def pf102 : PF := pfs102.1
def pfs103 : PS Tryz.f103 := by
 refine ⟨?x, ?h⟩
 case h => cbv; rfl
def pf103 : PF := pfs103.1
def pfs104 : PS Tryz.f104 := by
 refine ⟨?x, ?h⟩
 case h => cbv; rfl
def pf104 : PF := pfs104.1
def pfs105 : PS Tryz.f105 := by
 refine ⟨?x, ?h⟩
 case h => cbv; rfl
def pf105 : PF := pfs105.1
def pfs106 : PS Tryz.f106 := by
 refine ⟨?x, ?h⟩
 case h => cbv; rfl
def pf106 : PF := pfs106.1
def pfs107 : PS Tryz.f107 := by
 refine ⟨?x, ?h⟩
 case h => cbv; rfl
def pf107 : PF := pfs107.1
def pfs108 : PS Tryz.f108 := by
 refine ⟨?x, ?h⟩
 case h => cbv; rfl
def pf108 : PF := pfs108.1
def pfs109 : PS Tryz.f109 := by
 refine ⟨?x, ?h⟩
 case h => cbv; rfl
def pf109 : PF := pfs109.1
def pfs111 : PS Tryz.f111 := by
 refine ⟨?x, ?h⟩
 case h => cbv; rfl
def pf111 : PF := pfs111.1
def pfs112 : PS Tryz.f112 := by
 refine ⟨?x, ?h⟩
 case h => cbv; rfl
def pf112 : PF := pfs112.1
def pfs113 : PS Tryz.f113 := by
 refine ⟨?x, ?h⟩
 case h => cbv; rfl
def pf113 : PF := pfs113.1
def pfs114 : PS Tryz.f114 := by
 refine ⟨?x, ?h⟩
 case h => cbv; rfl
def pf114 : PF := pfs114.1
def pfs115 : PS Tryz.f115 := by
 refine ⟨?x, ?h⟩
 case h => cbv; rfl
def pf115 : PF := pfs115.1
def pfs116 : PS Tryz.f116 := by
 refine ⟨?x, ?h⟩
 case h => cbv; rfl
def pf116 : PF := pfs116.1
def pfs118 : PS Tryz.f118 := by
 refine ⟨?x, ?h⟩
 case h => cbv; rfl
def pf118 : PF := pfs118.1
def pfs119 : PS Tryz.f119 := by
 refine ⟨?x, ?h⟩
 case h => cbv; rfl
def pf119 : PF := pfs119.1
def pfs120 : PS Tryz.f120 := by
 refine ⟨?x, ?h⟩
 case h => cbv; rfl
def pf120 : PF := pfs120.1
def pfs121 : PS Tryz.f121 := by
 refine ⟨?x, ?h⟩
 case h => cbv; rfl
def pf121 : PF := pfs121.1
def pfs122 : PS Tryz.f122 := by
 refine ⟨?x, ?h⟩
 case h => cbv; rfl
def pf122 : PF := pfs122.1
def pfs123 : PS Tryz.f123 := by
 refine ⟨?x, ?h⟩
 case h => cbv; rfl
def pf123 : PF := pfs123.1
def pfs124 : PS Tryz.f124 := by
 refine ⟨?x, ?h⟩
 case h => cbv; rfl
def pf124 : PF := pfs124.1
def pfs125 : PS Tryz.f125 := by
 refine ⟨?x, ?h⟩
 case h => cbv; rfl
def pf125 : PF := pfs125.1
def pfs126 : PS Tryz.f126 := by
 refine ⟨?x, ?h⟩
 case h => cbv; rfl
def pf126 : PF := pfs126.1
def pfs127 : PS Tryz.f127 := by
 refine ⟨?x, ?h⟩
 case h => cbv; rfl
def pf127 : PF := pfs127.1
def pfs128 : PS Tryz.f128 := by
 refine ⟨?x, ?h⟩
 case h => cbv; rfl
def pf128 : PF := pfs128.1
def pfs129 : PS Tryz.f129 := by
 refine ⟨?x, ?h⟩
 case h => cbv; rfl
def pf129 : PF := pfs129.1
def pfs130 : PS Tryz.f130 := by
 refine ⟨?x, ?h⟩
 case h => cbv; rfl
def pf130 : PF := pfs130.1
def pfs131 : PS Tryz.f131 := by
 refine ⟨?x, ?h⟩
 case h => cbv; rfl
def pf131 : PF := pfs131.1
def pfs132 : PS Tryz.f132 := by
 refine ⟨?x, ?h⟩
 case h => cbv; rfl
def pf132 : PF := pfs132.1
def pfs133 : PS Tryz.f133 := by
 refine ⟨?x, ?h⟩
 case h => cbv; rfl
def pf133 : PF := pfs133.1
def pfs134 : PS Tryz.f134 := by
 refine ⟨?x, ?h⟩
 case h => cbv; rfl
def pf134 : PF := pfs134.1
def pfs135 : PS Tryz.f135 := by
 refine ⟨?x, ?h⟩
 case h => cbv; rfl
def pf135 : PF := pfs135.1
def pfs136 : PS Tryz.f136 := by
 refine ⟨?x, ?h⟩
 case h => cbv; rfl
def pf136 : PF := pfs136.1
def pfs139 : PS Tryz.f139 := by
 refine ⟨?x, ?h⟩
 case h => cbv; rfl
def pf139 : PF := pfs139.1
def pfs147 : PS Tryz.f147 := by
 refine ⟨?x, ?h⟩
 case h => cbv; rfl
def pf147 : PF := pfs147.1
def pfs148 : PS Tryz.f148 := by
 refine ⟨?x, ?h⟩
 case h => cbv; rfl
def pf148 : PF := pfs148.1
end
end Ex
end Go.Proofs.YtfehlbepjmmkeaaGreatDoor
