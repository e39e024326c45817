/-
  No cell of these rows narrows 'for every input' (looked for: loops, veiled, ifaces, maps, wideKeys, modest, calm, conditions, laid).
  DERIVED. THE GIVEN ROWS OF THIS SEAT. 8 by the template 'for every input the law returns true; each argument reads behind the call as it read before'; 0 by the template 'total and deterministic' (their statements: YtfhbkhhfcjmnhaaTotals.lean).
  GIVEN WITH THE SEED: the statements are not yours to turn. If you find one false, say at which input.
  Laid BY PROGRAM, IN A SANDBOX (cutbox-rows.mjs): the forced cells as the released guide's own fill.sh prints them over the translation 6a1b3f976395e9b9… (all of the seat's roots in one cut). By AI agents, Wed Nov 11 2026. No macro, syntax, notation, axiom, sorry.
-/
import Derived.Test.YtfhbkhhfcjmnhaaChecked
import GoSem.Claim
import GoSem.ClaimJoined
import GoSem.ClaimMapViews
import Derived.JoinedTies
import Derived.KernelRfl
namespace Go.Proofs.Ytfhbkhhfcjmnhaa
/- THE CELL 'sum', in the pinned program and in every row, IS THE sha256 OF THE DUMP (.gsa) THAT YtfhbkhhfcjmnhaaProg.lean LOADS. Nothing in Lean hashes anything: it is a label: what it is worth is what the hold of that sum in a sandbox is worth. -/
noncomputable def Try.pinned : Pinned := { name := "ytfhbkhhfcjmnhaa", sum := "6a1b3f976395e9b9cf7f518493e82027dd682a975f6b179fec0c0b1a1ad866ba", checked := Try.checked }
namespace Rows
def none {H : Type} : Left H := { results := [], args := [] }

/-- 'banyanlaw04.OrderNames': WHATEVER THE INPUT: true; the input reads as it did. -/
def orderNamesSpec : ChangeSpec := { name := "orderNames", fn := fun _ => fun
  | [] => { results := [.lit (.bool true)], args := [] }
  | _ => none }
def orderNamesRow : OpenClaim := { program := "ytfhbkhhfcjmnhaa", sum := "6a1b3f976395e9b9cf7f518493e82027dd682a975f6b179fec0c0b1a1ad866ba", func := "banyan/banyanlaw04.OrderNames", spec := "orderNames", unfollowed := true, recurses := true, apart := false }
def OrderNamesSaid : Prop := orderNamesRow.holds Try.pinned (OpenSpec.ofChange orderNamesSpec)

/-- ITS FALSE NEIGHBOUR: 'it returns false'. Refute it at one input. -/
def orderNamesWrong : ChangeSpec := { name := "orderNames", fn := fun _ => fun
  | [] => { results := [.lit (.bool false)], args := [] }
  | _ => none }
def OrderNamesWrongFalsely : Prop := orderNamesRow.holds Try.pinned (OpenSpec.ofChange orderNamesWrong)

/-- 'banyanlaw04.OrderCovers': WHATEVER THE INPUT: true; the input reads as it did. -/
def orderCoversSpec : ChangeSpec := { name := "orderCovers", fn := fun _ => fun
  | [d] => { results := [.lit (.bool true)], args := [d] }
  | _ => none }
def orderCoversRow : OpenClaim := { program := "ytfhbkhhfcjmnhaa", sum := "6a1b3f976395e9b9cf7f518493e82027dd682a975f6b179fec0c0b1a1ad866ba", func := "banyan/banyanlaw04.OrderCovers", spec := "orderCovers", unfollowed := true, recurses := true, apart := false }
def OrderCoversSaid : Prop := orderCoversRow.holds Try.pinned (OpenSpec.ofChange orderCoversSpec)

/-- ITS FALSE NEIGHBOUR: 'it returns false'. Refute it at one input. -/
def orderCoversWrong : ChangeSpec := { name := "orderCovers", fn := fun _ => fun
  | [d] => { results := [.lit (.bool false)], args := [d] }
  | _ => none }
def OrderCoversWrongFalsely : Prop := orderCoversRow.holds Try.pinned (OpenSpec.ofChange orderCoversWrong)

/-- 'banyanlaw04.OrderTotal': WHATEVER THE INPUT: true; the input reads as it did. -/
def orderTotalSpec : ChangeSpec := { name := "orderTotal", fn := fun _ => fun
  | [d1, d2, d3] => { results := [.lit (.bool true)], args := [d1, d2, d3] }
  | _ => none }
def orderTotalRow : OpenClaim := { program := "ytfhbkhhfcjmnhaa", sum := "6a1b3f976395e9b9cf7f518493e82027dd682a975f6b179fec0c0b1a1ad866ba", func := "banyan/banyanlaw04.OrderTotal", spec := "orderTotal", unfollowed := true, recurses := true, apart := false }
def OrderTotalSaid : Prop := orderTotalRow.holds Try.pinned (OpenSpec.ofChange orderTotalSpec)

/-- ITS FALSE NEIGHBOUR: 'it returns false'. Refute it at one input. -/
def orderTotalWrong : ChangeSpec := { name := "orderTotal", fn := fun _ => fun
  | [d1, d2, d3] => { results := [.lit (.bool false)], args := [d1, d2, d3] }
  | _ => none }
def OrderTotalWrongFalsely : Prop := orderTotalRow.holds Try.pinned (OpenSpec.ofChange orderTotalWrong)

/-- 'banyanlaw04.OrderUnion': WHATEVER THE INPUT: true; the input reads as it did. -/
def orderUnionSpec : ChangeSpec := { name := "orderUnion", fn := fun _ => fun
  | [d1, d2, d3] => { results := [.lit (.bool true)], args := [d1, d2, d3] }
  | _ => none }
def orderUnionRow : OpenClaim := { program := "ytfhbkhhfcjmnhaa", sum := "6a1b3f976395e9b9cf7f518493e82027dd682a975f6b179fec0c0b1a1ad866ba", func := "banyan/banyanlaw04.OrderUnion", spec := "orderUnion", unfollowed := true, recurses := true, apart := false }
def OrderUnionSaid : Prop := orderUnionRow.holds Try.pinned (OpenSpec.ofChange orderUnionSpec)

/-- ITS FALSE NEIGHBOUR: 'it returns false'. Refute it at one input. -/
def orderUnionWrong : ChangeSpec := { name := "orderUnion", fn := fun _ => fun
  | [d1, d2, d3] => { results := [.lit (.bool false)], args := [d1, d2, d3] }
  | _ => none }
def OrderUnionWrongFalsely : Prop := orderUnionRow.holds Try.pinned (OpenSpec.ofChange orderUnionWrong)

/-- 'banyanlaw04.OrderKeys': WHATEVER THE INPUT: true; the input reads as it did. -/
def orderKeysSpec : ChangeSpec := { name := "orderKeys", fn := fun _ => fun
  | [d1, d2] => { results := [.lit (.bool true)], args := [d1, d2] }
  | _ => none }
def orderKeysRow : OpenClaim := { program := "ytfhbkhhfcjmnhaa", sum := "6a1b3f976395e9b9cf7f518493e82027dd682a975f6b179fec0c0b1a1ad866ba", func := "banyan/banyanlaw04.OrderKeys", spec := "orderKeys", unfollowed := true, recurses := true, apart := false }
def OrderKeysSaid : Prop := orderKeysRow.holds Try.pinned (OpenSpec.ofChange orderKeysSpec)

/-- ITS FALSE NEIGHBOUR: 'it returns false'. Refute it at one input. -/
def orderKeysWrong : ChangeSpec := { name := "orderKeys", fn := fun _ => fun
  | [d1, d2] => { results := [.lit (.bool false)], args := [d1, d2] }
  | _ => none }
def OrderKeysWrongFalsely : Prop := orderKeysRow.holds Try.pinned (OpenSpec.ofChange orderKeysWrong)

/-- 'banyanlaw04.OrderNear': WHATEVER THE INPUT: true; the input reads as it did. -/
def orderNearSpec : ChangeSpec := { name := "orderNear", fn := fun _ => fun
  | [d1, d2, d3] => { results := [.lit (.bool true)], args := [d1, d2, d3] }
  | _ => none }
def orderNearRow : OpenClaim := { program := "ytfhbkhhfcjmnhaa", sum := "6a1b3f976395e9b9cf7f518493e82027dd682a975f6b179fec0c0b1a1ad866ba", func := "banyan/banyanlaw04.OrderNear", spec := "orderNear", unfollowed := true, recurses := true, apart := false }
def OrderNearSaid : Prop := orderNearRow.holds Try.pinned (OpenSpec.ofChange orderNearSpec)

/-- ITS FALSE NEIGHBOUR: 'it returns false'. Refute it at one input. -/
def orderNearWrong : ChangeSpec := { name := "orderNear", fn := fun _ => fun
  | [d1, d2, d3] => { results := [.lit (.bool false)], args := [d1, d2, d3] }
  | _ => none }
def OrderNearWrongFalsely : Prop := orderNearRow.holds Try.pinned (OpenSpec.ofChange orderNearWrong)

/-- 'banyanlaw04.OrderRanges': WHATEVER THE INPUT: true; the input reads as it did. -/
def orderRangesSpec : ChangeSpec := { name := "orderRanges", fn := fun _ => fun
  | [d1, d2, d3] => { results := [.lit (.bool true)], args := [d1, d2, d3] }
  | _ => none }
def orderRangesRow : OpenClaim := { program := "ytfhbkhhfcjmnhaa", sum := "6a1b3f976395e9b9cf7f518493e82027dd682a975f6b179fec0c0b1a1ad866ba", func := "banyan/banyanlaw04.OrderRanges", spec := "orderRanges", unfollowed := true, recurses := true, apart := false }
def OrderRangesSaid : Prop := orderRangesRow.holds Try.pinned (OpenSpec.ofChange orderRangesSpec)

/-- ITS FALSE NEIGHBOUR: 'it returns false'. Refute it at one input. -/
def orderRangesWrong : ChangeSpec := { name := "orderRanges", fn := fun _ => fun
  | [d1, d2, d3] => { results := [.lit (.bool false)], args := [d1, d2, d3] }
  | _ => none }
def OrderRangesWrongFalsely : Prop := orderRangesRow.holds Try.pinned (OpenSpec.ofChange orderRangesWrong)

/-- 'banyanlaw04.OrderSets': WHATEVER THE INPUT: true; the input reads as it did. -/
def orderSetsSpec : ChangeSpec := { name := "orderSets", fn := fun _ => fun
  | [d1, d2, d3] => { results := [.lit (.bool true)], args := [d1, d2, d3] }
  | _ => none }
def orderSetsRow : OpenClaim := { program := "ytfhbkhhfcjmnhaa", sum := "6a1b3f976395e9b9cf7f518493e82027dd682a975f6b179fec0c0b1a1ad866ba", func := "banyan/banyanlaw04.OrderSets", spec := "orderSets", unfollowed := true, recurses := true, apart := false }
def OrderSetsSaid : Prop := orderSetsRow.holds Try.pinned (OpenSpec.ofChange orderSetsSpec)

/-- ITS FALSE NEIGHBOUR: 'it returns false'. Refute it at one input. -/
def orderSetsWrong : ChangeSpec := { name := "orderSets", fn := fun _ => fun
  | [d1, d2, d3] => { results := [.lit (.bool false)], args := [d1, d2, d3] }
  | _ => none }
def OrderSetsWrongFalsely : Prop := orderSetsRow.holds Try.pinned (OpenSpec.ofChange orderSetsWrong)

/- THE SECOND FORM. 'bulk': how many values and letters a reading holds, each counted each time it is reached (what is shared counts as often as it is met; a slice's spare places count too). A statement '..UptoSaid' is the law's where the arguments, and the package variables that the reading takes, are together of bulk at most 1048576: NARROWER than '..Said'. Prove '..Said' where nothing that the law and all that it calls make is longer than what came in: it says more and counts as full. Else prove '..UptoSaid'. A law counts once. -/
mutual
def uptoBulk {H : Type} : DataW H → Nat
  | .lit (.string bytes) => bytes.length + 1
  | .lit _ => 1
  | .nil => 1
  | .ptr d => uptoBulk d + 1
  | .slice elems spare => uptoBulkAll elems + uptoBulkAll spare + 1
  | .agg parts => uptoBulkAll parts + 1
  | .iface _ d => uptoBulk d + 1
  | .map entries => uptoBulkEntries entries + 1
  | .held _ => 1
def uptoBulkAll {H : Type} : List (DataW H) → Nat
  | [] => 0
  | d :: r => uptoBulk d + uptoBulkAll r
def uptoBulkEntries {H : Type} : List (Lit × DataW H) → Nat
  | [] => 0
  | x :: r => uptoBulkEntry x + uptoBulkEntries r
def uptoBulkEntry {H : Type} : Lit × DataW H → Nat
  | (.string bytes, d) => bytes.length + uptoBulk d + 1
  | (_, d) => uptoBulk d + 1
 end
def uptoSmall : (H : Type) → List (DataW H) → Bool := fun _ ds => decide (uptoBulkAll ds ≤ 1048576)
def OpenSpec.upto (s : _root_.Go.ChangeSpec) : _root_.Go.OpenSpec := { _root_.Go.OpenSpec.ofChange s with cond := some uptoSmall }

/-- 'banyanlaw04.OrderNames', WHERE WHAT IT READS IS OF BULK AT MOST 1048576: true; the input reads as it did. -/
def orderNamesUptoRow : OpenClaim := { program := "ytfhbkhhfcjmnhaa", sum := "6a1b3f976395e9b9cf7f518493e82027dd682a975f6b179fec0c0b1a1ad866ba", func := "banyan/banyanlaw04.OrderNames", spec := "orderNames", unfollowed := true, recurses := true, apart := false, narrowed := true }
def OrderNamesUptoSaid : Prop := orderNamesUptoRow.holds Try.pinned (OpenSpec.upto orderNamesSpec)

/-- 'banyanlaw04.OrderCovers', WHERE WHAT IT READS IS OF BULK AT MOST 1048576: true; the input reads as it did. -/
def orderCoversUptoRow : OpenClaim := { program := "ytfhbkhhfcjmnhaa", sum := "6a1b3f976395e9b9cf7f518493e82027dd682a975f6b179fec0c0b1a1ad866ba", func := "banyan/banyanlaw04.OrderCovers", spec := "orderCovers", unfollowed := true, recurses := true, apart := false, narrowed := true }
def OrderCoversUptoSaid : Prop := orderCoversUptoRow.holds Try.pinned (OpenSpec.upto orderCoversSpec)

/-- 'banyanlaw04.OrderTotal', WHERE WHAT IT READS IS OF BULK AT MOST 1048576: true; the input reads as it did. -/
def orderTotalUptoRow : OpenClaim := { program := "ytfhbkhhfcjmnhaa", sum := "6a1b3f976395e9b9cf7f518493e82027dd682a975f6b179fec0c0b1a1ad866ba", func := "banyan/banyanlaw04.OrderTotal", spec := "orderTotal", unfollowed := true, recurses := true, apart := false, narrowed := true }
def OrderTotalUptoSaid : Prop := orderTotalUptoRow.holds Try.pinned (OpenSpec.upto orderTotalSpec)

/-- 'banyanlaw04.OrderUnion', WHERE WHAT IT READS IS OF BULK AT MOST 1048576: true; the input reads as it did. -/
def orderUnionUptoRow : OpenClaim := { program := "ytfhbkhhfcjmnhaa", sum := "6a1b3f976395e9b9cf7f518493e82027dd682a975f6b179fec0c0b1a1ad866ba", func := "banyan/banyanlaw04.OrderUnion", spec := "orderUnion", unfollowed := true, recurses := true, apart := false, narrowed := true }
def OrderUnionUptoSaid : Prop := orderUnionUptoRow.holds Try.pinned (OpenSpec.upto orderUnionSpec)

/-- 'banyanlaw04.OrderKeys', WHERE WHAT IT READS IS OF BULK AT MOST 1048576: true; the input reads as it did. -/
def orderKeysUptoRow : OpenClaim := { program := "ytfhbkhhfcjmnhaa", sum := "6a1b3f976395e9b9cf7f518493e82027dd682a975f6b179fec0c0b1a1ad866ba", func := "banyan/banyanlaw04.OrderKeys", spec := "orderKeys", unfollowed := true, recurses := true, apart := false, narrowed := true }
def OrderKeysUptoSaid : Prop := orderKeysUptoRow.holds Try.pinned (OpenSpec.upto orderKeysSpec)

/-- 'banyanlaw04.OrderNear', WHERE WHAT IT READS IS OF BULK AT MOST 1048576: true; the input reads as it did. -/
def orderNearUptoRow : OpenClaim := { program := "ytfhbkhhfcjmnhaa", sum := "6a1b3f976395e9b9cf7f518493e82027dd682a975f6b179fec0c0b1a1ad866ba", func := "banyan/banyanlaw04.OrderNear", spec := "orderNear", unfollowed := true, recurses := true, apart := false, narrowed := true }
def OrderNearUptoSaid : Prop := orderNearUptoRow.holds Try.pinned (OpenSpec.upto orderNearSpec)

/-- 'banyanlaw04.OrderRanges', WHERE WHAT IT READS IS OF BULK AT MOST 1048576: true; the input reads as it did. -/
def orderRangesUptoRow : OpenClaim := { program := "ytfhbkhhfcjmnhaa", sum := "6a1b3f976395e9b9cf7f518493e82027dd682a975f6b179fec0c0b1a1ad866ba", func := "banyan/banyanlaw04.OrderRanges", spec := "orderRanges", unfollowed := true, recurses := true, apart := false, narrowed := true }
def OrderRangesUptoSaid : Prop := orderRangesUptoRow.holds Try.pinned (OpenSpec.upto orderRangesSpec)

/-- 'banyanlaw04.OrderSets', WHERE WHAT IT READS IS OF BULK AT MOST 1048576: true; the input reads as it did. -/
def orderSetsUptoRow : OpenClaim := { program := "ytfhbkhhfcjmnhaa", sum := "6a1b3f976395e9b9cf7f518493e82027dd682a975f6b179fec0c0b1a1ad866ba", func := "banyan/banyanlaw04.OrderSets", spec := "orderSets", unfollowed := true, recurses := true, apart := false, narrowed := true }
def OrderSetsUptoSaid : Prop := orderSetsUptoRow.holds Try.pinned (OpenSpec.upto orderSetsSpec)

end Rows
end Go.Proofs.Ytfhbkhhfcjmnhaa
