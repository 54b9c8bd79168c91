/-
  No cell of these rows narrows 'for every input' (looked for: loops, veiled, ifaces, maps, wideKeys, modest, calm, conditions, laid).
  DERIVED. THE GIVEN ROWS OF THIS SEAT. 9 by the template 'for every input the law returns true; each argument reads behind the call as it read before'; 0 by the template 'total and deterministic' (their statements: YtijceljhpbdnnaaTotals.lean).
  GIVEN WITH THE SEED: the statements are not yours to turn. If you find one false, say at which input.
  Laid BY PROGRAM, IN A SANDBOX (cutbox-rows.mjs): the forced cells as the released guide's own fill.sh prints them over the translation 6aebc150f0f80771… (all of the seat's roots in one cut). By AI agents, Wed Nov 11 2026. No macro, syntax, notation, axiom, sorry.
-/
import Derived.Test.YtijceljhpbdnnaaChecked
import GoSem.Claim
import GoSem.ClaimJoined
import GoSem.ClaimMapViews
import Derived.JoinedTies
import Derived.KernelRfl
namespace Go.Proofs.Ytijceljhpbdnnaa
/- THE CELL 'sum', in the pinned program and in every row, IS THE sha256 OF THE DUMP (.gsa) THAT YtijceljhpbdnnaaProg.lean LOADS. Nothing in Lean hashes anything: it is a label: what it is worth is what the hold of that sum in a sandbox is worth. -/
noncomputable def Try.pinned : Pinned := { name := "ytijceljhpbdnnaa", sum := "6aebc150f0f80771249af216b13c271436e95ef81ae49e04ad4c30f105a7144b", checked := Try.checked }
namespace Rows
def none {H : Type} : Left H := { results := [], args := [] }

/-- 'restitchlaw18.OrderFew': WHATEVER THE INPUT: true; the input reads as it did. -/
def orderFewSpec : ChangeSpec := { name := "orderFew", fn := fun _ => fun
  | [d1, d2, d3] => { results := [.lit (.bool true)], args := [d1, d2, d3] }
  | _ => none }
def orderFewRow : OpenClaim := { program := "ytijceljhpbdnnaa", sum := "6aebc150f0f80771249af216b13c271436e95ef81ae49e04ad4c30f105a7144b", func := "restitch/restitchlaw18.OrderFew", spec := "orderFew", unfollowed := true, recurses := true, apart := false }
def OrderFewSaid : Prop := orderFewRow.holds Try.pinned (OpenSpec.ofChange orderFewSpec)

/-- ITS FALSE NEIGHBOUR: 'it returns false'. Refute it at one input. -/
def orderFewWrong : ChangeSpec := { name := "orderFew", fn := fun _ => fun
  | [d1, d2, d3] => { results := [.lit (.bool false)], args := [d1, d2, d3] }
  | _ => none }
def OrderFewWrongFalsely : Prop := orderFewRow.holds Try.pinned (OpenSpec.ofChange orderFewWrong)

/-- 'restitchlaw18.OrderPlays': WHATEVER THE INPUT: true; the input reads as it did. -/
def orderPlaysSpec : ChangeSpec := { name := "orderPlays", fn := fun _ => fun
  | [d] => { results := [.lit (.bool true)], args := [d] }
  | _ => none }
def orderPlaysRow : OpenClaim := { program := "ytijceljhpbdnnaa", sum := "6aebc150f0f80771249af216b13c271436e95ef81ae49e04ad4c30f105a7144b", func := "restitch/restitchlaw18.OrderPlays", spec := "orderPlays", unfollowed := true, recurses := true, apart := false }
def OrderPlaysSaid : Prop := orderPlaysRow.holds Try.pinned (OpenSpec.ofChange orderPlaysSpec)

/-- ITS FALSE NEIGHBOUR: 'it returns false'. Refute it at one input. -/
def orderPlaysWrong : ChangeSpec := { name := "orderPlays", fn := fun _ => fun
  | [d] => { results := [.lit (.bool false)], args := [d] }
  | _ => none }
def OrderPlaysWrongFalsely : Prop := orderPlaysRow.holds Try.pinned (OpenSpec.ofChange orderPlaysWrong)

/-- 'restitchlaw18.OrderLess': WHATEVER THE INPUT: true; the input reads as it did. -/
def orderLessSpec : ChangeSpec := { name := "orderLess", fn := fun _ => fun
  | [d1, d2] => { results := [.lit (.bool true)], args := [d1, d2] }
  | _ => none }
def orderLessRow : OpenClaim := { program := "ytijceljhpbdnnaa", sum := "6aebc150f0f80771249af216b13c271436e95ef81ae49e04ad4c30f105a7144b", func := "restitch/restitchlaw18.OrderLess", spec := "orderLess", unfollowed := true, recurses := true, apart := false }
def OrderLessSaid : Prop := orderLessRow.holds Try.pinned (OpenSpec.ofChange orderLessSpec)

/-- ITS FALSE NEIGHBOUR: 'it returns false'. Refute it at one input. -/
def orderLessWrong : ChangeSpec := { name := "orderLess", fn := fun _ => fun
  | [d1, d2] => { results := [.lit (.bool false)], args := [d1, d2] }
  | _ => none }
def OrderLessWrongFalsely : Prop := orderLessRow.holds Try.pinned (OpenSpec.ofChange orderLessWrong)

/-- 'restitchlaw18.OrderBeside': WHATEVER THE INPUT: true; the input reads as it did. -/
def orderBesideSpec : ChangeSpec := { name := "orderBeside", fn := fun _ => fun
  | [d] => { results := [.lit (.bool true)], args := [d] }
  | _ => none }
def orderBesideRow : OpenClaim := { program := "ytijceljhpbdnnaa", sum := "6aebc150f0f80771249af216b13c271436e95ef81ae49e04ad4c30f105a7144b", func := "restitch/restitchlaw18.OrderBeside", spec := "orderBeside", unfollowed := true, recurses := true, apart := false }
def OrderBesideSaid : Prop := orderBesideRow.holds Try.pinned (OpenSpec.ofChange orderBesideSpec)

/-- ITS FALSE NEIGHBOUR: 'it returns false'. Refute it at one input. -/
def orderBesideWrong : ChangeSpec := { name := "orderBeside", fn := fun _ => fun
  | [d] => { results := [.lit (.bool false)], args := [d] }
  | _ => none }
def OrderBesideWrongFalsely : Prop := orderBesideRow.holds Try.pinned (OpenSpec.ofChange orderBesideWrong)

/-- 'restitchlaw18.OrderGone': WHATEVER THE INPUT: true; the input reads as it did. -/
def orderGoneSpec : ChangeSpec := { name := "orderGone", fn := fun _ => fun
  | [d1, d2, d3] => { results := [.lit (.bool true)], args := [d1, d2, d3] }
  | _ => none }
def orderGoneRow : OpenClaim := { program := "ytijceljhpbdnnaa", sum := "6aebc150f0f80771249af216b13c271436e95ef81ae49e04ad4c30f105a7144b", func := "restitch/restitchlaw18.OrderGone", spec := "orderGone", unfollowed := true, recurses := true, apart := false }
def OrderGoneSaid : Prop := orderGoneRow.holds Try.pinned (OpenSpec.ofChange orderGoneSpec)

/-- ITS FALSE NEIGHBOUR: 'it returns false'. Refute it at one input. -/
def orderGoneWrong : ChangeSpec := { name := "orderGone", fn := fun _ => fun
  | [d1, d2, d3] => { results := [.lit (.bool false)], args := [d1, d2, d3] }
  | _ => none }
def OrderGoneWrongFalsely : Prop := orderGoneRow.holds Try.pinned (OpenSpec.ofChange orderGoneWrong)

/-- 'restitchlaw18.OrderTags': WHATEVER THE INPUT: true; the input reads as it did. -/
def orderTagsSpec : ChangeSpec := { name := "orderTags", fn := fun _ => fun
  | [d] => { results := [.lit (.bool true)], args := [d] }
  | _ => none }
def orderTagsRow : OpenClaim := { program := "ytijceljhpbdnnaa", sum := "6aebc150f0f80771249af216b13c271436e95ef81ae49e04ad4c30f105a7144b", func := "restitch/restitchlaw18.OrderTags", spec := "orderTags", unfollowed := true, recurses := true, apart := false }
def OrderTagsSaid : Prop := orderTagsRow.holds Try.pinned (OpenSpec.ofChange orderTagsSpec)

/-- ITS FALSE NEIGHBOUR: 'it returns false'. Refute it at one input. -/
def orderTagsWrong : ChangeSpec := { name := "orderTags", fn := fun _ => fun
  | [d] => { results := [.lit (.bool false)], args := [d] }
  | _ => none }
def OrderTagsWrongFalsely : Prop := orderTagsRow.holds Try.pinned (OpenSpec.ofChange orderTagsWrong)

/-- 'restitchlaw18.OrderBetween': WHATEVER THE INPUT: true; the input reads as it did. -/
def orderBetweenSpec : ChangeSpec := { name := "orderBetween", fn := fun _ => fun
  | [d1, d2, d3] => { results := [.lit (.bool true)], args := [d1, d2, d3] }
  | _ => none }
def orderBetweenRow : OpenClaim := { program := "ytijceljhpbdnnaa", sum := "6aebc150f0f80771249af216b13c271436e95ef81ae49e04ad4c30f105a7144b", func := "restitch/restitchlaw18.OrderBetween", spec := "orderBetween", unfollowed := true, recurses := true, apart := false }
def OrderBetweenSaid : Prop := orderBetweenRow.holds Try.pinned (OpenSpec.ofChange orderBetweenSpec)

/-- ITS FALSE NEIGHBOUR: 'it returns false'. Refute it at one input. -/
def orderBetweenWrong : ChangeSpec := { name := "orderBetween", fn := fun _ => fun
  | [d1, d2, d3] => { results := [.lit (.bool false)], args := [d1, d2, d3] }
  | _ => none }
def OrderBetweenWrongFalsely : Prop := orderBetweenRow.holds Try.pinned (OpenSpec.ofChange orderBetweenWrong)

/-- 'restitchlaw18.OrderClones': WHATEVER THE INPUT: true; the input reads as it did. -/
def orderClonesSpec : ChangeSpec := { name := "orderClones", fn := fun _ => fun
  | [d1, d2] => { results := [.lit (.bool true)], args := [d1, d2] }
  | _ => none }
def orderClonesRow : OpenClaim := { program := "ytijceljhpbdnnaa", sum := "6aebc150f0f80771249af216b13c271436e95ef81ae49e04ad4c30f105a7144b", func := "restitch/restitchlaw18.OrderClones", spec := "orderClones", unfollowed := true, recurses := true, apart := false }
def OrderClonesSaid : Prop := orderClonesRow.holds Try.pinned (OpenSpec.ofChange orderClonesSpec)

/-- ITS FALSE NEIGHBOUR: 'it returns false'. Refute it at one input. -/
def orderClonesWrong : ChangeSpec := { name := "orderClones", fn := fun _ => fun
  | [d1, d2] => { results := [.lit (.bool false)], args := [d1, d2] }
  | _ => none }
def OrderClonesWrongFalsely : Prop := orderClonesRow.holds Try.pinned (OpenSpec.ofChange orderClonesWrong)

/-- 'restitchlaw18.OrderNil': WHATEVER THE INPUT: true; the input reads as it did. -/
def orderNilSpec : ChangeSpec := { name := "orderNil", fn := fun _ => fun
  | [d] => { results := [.lit (.bool true)], args := [d] }
  | _ => none }
def orderNilRow : OpenClaim := { program := "ytijceljhpbdnnaa", sum := "6aebc150f0f80771249af216b13c271436e95ef81ae49e04ad4c30f105a7144b", func := "restitch/restitchlaw18.OrderNil", spec := "orderNil", unfollowed := true, recurses := true, apart := false }
def OrderNilSaid : Prop := orderNilRow.holds Try.pinned (OpenSpec.ofChange orderNilSpec)

/-- ITS FALSE NEIGHBOUR: 'it returns false'. Refute it at one input. -/
def orderNilWrong : ChangeSpec := { name := "orderNil", fn := fun _ => fun
  | [d] => { results := [.lit (.bool false)], args := [d] }
  | _ => none }
def OrderNilWrongFalsely : Prop := orderNilRow.holds Try.pinned (OpenSpec.ofChange orderNilWrong)

/- THE SECOND FORM. 'bulk': how many values and letters a reading holds, each counted each time it is reached (what is shared counts as often as it is met; a slice's spare places count too). A statement '..UptoSaid' is the law's where the arguments, and the package variables that the reading takes, are together of bulk at most 1048576: NARROWER than '..Said'. Prove '..Said' where nothing that the law and all that it calls make is longer than what came in: it says more and counts as full. Else prove '..UptoSaid'. A law counts once. -/
mutual
def uptoBulk {H : Type} : DataW H → Nat
  | .lit (.string bytes) => bytes.length + 1
  | .lit _ => 1
  | .nil => 1
  | .ptr d => uptoBulk d + 1
  | .slice elems spare => uptoBulkAll elems + uptoBulkAll spare + 1
  | .agg parts => uptoBulkAll parts + 1
  | .iface _ d => uptoBulk d + 1
  | .map entries => uptoBulkEntries entries + 1
  | .held _ => 1
def uptoBulkAll {H : Type} : List (DataW H) → Nat
  | [] => 0
  | d :: r => uptoBulk d + uptoBulkAll r
def uptoBulkEntries {H : Type} : List (Lit × DataW H) → Nat
  | [] => 0
  | x :: r => uptoBulkEntry x + uptoBulkEntries r
def uptoBulkEntry {H : Type} : Lit × DataW H → Nat
  | (.string bytes, d) => bytes.length + uptoBulk d + 1
  | (_, d) => uptoBulk d + 1
 end
def uptoSmall : (H : Type) → List (DataW H) → Bool := fun _ ds => decide (uptoBulkAll ds ≤ 1048576)
def OpenSpec.upto (s : _root_.Go.ChangeSpec) : _root_.Go.OpenSpec := { _root_.Go.OpenSpec.ofChange s with cond := some uptoSmall }

/-- 'restitchlaw18.OrderFew', WHERE WHAT IT READS IS OF BULK AT MOST 1048576: true; the input reads as it did. -/
def orderFewUptoRow : OpenClaim := { program := "ytijceljhpbdnnaa", sum := "6aebc150f0f80771249af216b13c271436e95ef81ae49e04ad4c30f105a7144b", func := "restitch/restitchlaw18.OrderFew", spec := "orderFew", unfollowed := true, recurses := true, apart := false, narrowed := true }
def OrderFewUptoSaid : Prop := orderFewUptoRow.holds Try.pinned (OpenSpec.upto orderFewSpec)

/-- 'restitchlaw18.OrderPlays', WHERE WHAT IT READS IS OF BULK AT MOST 1048576: true; the input reads as it did. -/
def orderPlaysUptoRow : OpenClaim := { program := "ytijceljhpbdnnaa", sum := "6aebc150f0f80771249af216b13c271436e95ef81ae49e04ad4c30f105a7144b", func := "restitch/restitchlaw18.OrderPlays", spec := "orderPlays", unfollowed := true, recurses := true, apart := false, narrowed := true }
def OrderPlaysUptoSaid : Prop := orderPlaysUptoRow.holds Try.pinned (OpenSpec.upto orderPlaysSpec)

/-- 'restitchlaw18.OrderLess', WHERE WHAT IT READS IS OF BULK AT MOST 1048576: true; the input reads as it did. -/
def orderLessUptoRow : OpenClaim := { program := "ytijceljhpbdnnaa", sum := "6aebc150f0f80771249af216b13c271436e95ef81ae49e04ad4c30f105a7144b", func := "restitch/restitchlaw18.OrderLess", spec := "orderLess", unfollowed := true, recurses := true, apart := false, narrowed := true }
def OrderLessUptoSaid : Prop := orderLessUptoRow.holds Try.pinned (OpenSpec.upto orderLessSpec)

/-- 'restitchlaw18.OrderBeside', WHERE WHAT IT READS IS OF BULK AT MOST 1048576: true; the input reads as it did. -/
def orderBesideUptoRow : OpenClaim := { program := "ytijceljhpbdnnaa", sum := "6aebc150f0f80771249af216b13c271436e95ef81ae49e04ad4c30f105a7144b", func := "restitch/restitchlaw18.OrderBeside", spec := "orderBeside", unfollowed := true, recurses := true, apart := false, narrowed := true }
def OrderBesideUptoSaid : Prop := orderBesideUptoRow.holds Try.pinned (OpenSpec.upto orderBesideSpec)

/-- 'restitchlaw18.OrderGone', WHERE WHAT IT READS IS OF BULK AT MOST 1048576: true; the input reads as it did. -/
def orderGoneUptoRow : OpenClaim := { program := "ytijceljhpbdnnaa", sum := "6aebc150f0f80771249af216b13c271436e95ef81ae49e04ad4c30f105a7144b", func := "restitch/restitchlaw18.OrderGone", spec := "orderGone", unfollowed := true, recurses := true, apart := false, narrowed := true }
def OrderGoneUptoSaid : Prop := orderGoneUptoRow.holds Try.pinned (OpenSpec.upto orderGoneSpec)

/-- 'restitchlaw18.OrderTags', WHERE WHAT IT READS IS OF BULK AT MOST 1048576: true; the input reads as it did. -/
def orderTagsUptoRow : OpenClaim := { program := "ytijceljhpbdnnaa", sum := "6aebc150f0f80771249af216b13c271436e95ef81ae49e04ad4c30f105a7144b", func := "restitch/restitchlaw18.OrderTags", spec := "orderTags", unfollowed := true, recurses := true, apart := false, narrowed := true }
def OrderTagsUptoSaid : Prop := orderTagsUptoRow.holds Try.pinned (OpenSpec.upto orderTagsSpec)

/-- 'restitchlaw18.OrderBetween', WHERE WHAT IT READS IS OF BULK AT MOST 1048576: true; the input reads as it did. -/
def orderBetweenUptoRow : OpenClaim := { program := "ytijceljhpbdnnaa", sum := "6aebc150f0f80771249af216b13c271436e95ef81ae49e04ad4c30f105a7144b", func := "restitch/restitchlaw18.OrderBetween", spec := "orderBetween", unfollowed := true, recurses := true, apart := false, narrowed := true }
def OrderBetweenUptoSaid : Prop := orderBetweenUptoRow.holds Try.pinned (OpenSpec.upto orderBetweenSpec)

/-- 'restitchlaw18.OrderClones', WHERE WHAT IT READS IS OF BULK AT MOST 1048576: true; the input reads as it did. -/
def orderClonesUptoRow : OpenClaim := { program := "ytijceljhpbdnnaa", sum := "6aebc150f0f80771249af216b13c271436e95ef81ae49e04ad4c30f105a7144b", func := "restitch/restitchlaw18.OrderClones", spec := "orderClones", unfollowed := true, recurses := true, apart := false, narrowed := true }
def OrderClonesUptoSaid : Prop := orderClonesUptoRow.holds Try.pinned (OpenSpec.upto orderClonesSpec)

/-- 'restitchlaw18.OrderNil', WHERE WHAT IT READS IS OF BULK AT MOST 1048576: true; the input reads as it did. -/
def orderNilUptoRow : OpenClaim := { program := "ytijceljhpbdnnaa", sum := "6aebc150f0f80771249af216b13c271436e95ef81ae49e04ad4c30f105a7144b", func := "restitch/restitchlaw18.OrderNil", spec := "orderNil", unfollowed := true, recurses := true, apart := false, narrowed := true }
def OrderNilUptoSaid : Prop := orderNilUptoRow.holds Try.pinned (OpenSpec.upto orderNilSpec)

end Rows
end Go.Proofs.Ytijceljhpbdnnaa
