/-
  No cell of these rows narrows 'for every input' (looked for: loops, veiled, ifaces, maps, wideKeys, modest, calm, conditions, laid).
  DERIVED. THE GIVEN ROWS OF THIS SEAT. 9 by the template 'for every input the law returns true; each argument reads behind the call as it read before'; 0 by the template 'total and deterministic' (their statements: YtbkaabjjmoaijaaTotals.lean).
  GIVEN WITH THE SEED: the statements are not yours to turn. If you find one false, say at which input.
  Laid BY PROGRAM, IN A SANDBOX (cutbox-rows.mjs): the forced cells as the released guide's own fill.sh prints them over the translation 3e68f27102b76a09… (all of the seat's roots in one cut). By AI agents, Wed Nov 11 2026. No macro, syntax, notation, axiom, sorry.
-/
import Derived.Test.YtbkaabjjmoaijaaChecked
import GoSem.Claim
import GoSem.ClaimJoined
import GoSem.ClaimMapViews
import Derived.JoinedTies
import Derived.KernelRfl
namespace Go.Proofs.Ytbkaabjjmoaijaa
/- THE CELL 'sum', in the pinned program and in every row, IS THE sha256 OF THE DUMP (.gsa) THAT YtbkaabjjmoaijaaProg.lean LOADS. Nothing in Lean hashes anything: it is a label: what it is worth is what the hold of that sum in a sandbox is worth. -/
noncomputable def Try.pinned : Pinned := { name := "ytbkaabjjmoaijaa", sum := "3e68f27102b76a0923491e41271193184a2408dda9f0688edc214f6809d535ac", checked := Try.checked }
namespace Rows
def none {H : Type} : Left H := { results := [], args := [] }

/-- 'banyanlaw05.LeafNames': WHATEVER THE INPUT: true; the input reads as it did. -/
def leafNamesSpec : ChangeSpec := { name := "leafNames", fn := fun _ => fun
  | [] => { results := [.lit (.bool true)], args := [] }
  | _ => none }
def leafNamesRow : OpenClaim := { program := "ytbkaabjjmoaijaa", sum := "3e68f27102b76a0923491e41271193184a2408dda9f0688edc214f6809d535ac", func := "banyan/banyanlaw05.LeafNames", spec := "leafNames", unfollowed := true, recurses := true, apart := false }
def LeafNamesSaid : Prop := leafNamesRow.holds Try.pinned (OpenSpec.ofChange leafNamesSpec)

/-- ITS FALSE NEIGHBOUR: 'it returns false'. Refute it at one input. -/
def leafNamesWrong : ChangeSpec := { name := "leafNames", fn := fun _ => fun
  | [] => { results := [.lit (.bool false)], args := [] }
  | _ => none }
def LeafNamesWrongFalsely : Prop := leafNamesRow.holds Try.pinned (OpenSpec.ofChange leafNamesWrong)

/-- 'banyanlaw05.LeafEncodes': WHATEVER THE INPUT: true; the input reads as it did. -/
def leafEncodesSpec : ChangeSpec := { name := "leafEncodes", fn := fun _ => fun
  | [d1, d2, d3] => { results := [.lit (.bool true)], args := [d1, d2, d3] }
  | _ => none }
def leafEncodesRow : OpenClaim := { program := "ytbkaabjjmoaijaa", sum := "3e68f27102b76a0923491e41271193184a2408dda9f0688edc214f6809d535ac", func := "banyan/banyanlaw05.LeafEncodes", spec := "leafEncodes", unfollowed := true, recurses := true, apart := false }
def LeafEncodesSaid : Prop := leafEncodesRow.holds Try.pinned (OpenSpec.ofChange leafEncodesSpec)

/-- ITS FALSE NEIGHBOUR: 'it returns false'. Refute it at one input. -/
def leafEncodesWrong : ChangeSpec := { name := "leafEncodes", fn := fun _ => fun
  | [d1, d2, d3] => { results := [.lit (.bool false)], args := [d1, d2, d3] }
  | _ => none }
def LeafEncodesWrongFalsely : Prop := leafEncodesRow.holds Try.pinned (OpenSpec.ofChange leafEncodesWrong)

/-- 'banyanlaw05.LeafDecodes': WHATEVER THE INPUT: true; the input reads as it did. -/
def leafDecodesSpec : ChangeSpec := { name := "leafDecodes", fn := fun _ => fun
  | [d1, d2, d3] => { results := [.lit (.bool true)], args := [d1, d2, d3] }
  | _ => none }
def leafDecodesRow : OpenClaim := { program := "ytbkaabjjmoaijaa", sum := "3e68f27102b76a0923491e41271193184a2408dda9f0688edc214f6809d535ac", func := "banyan/banyanlaw05.LeafDecodes", spec := "leafDecodes", unfollowed := true, recurses := true, apart := false }
def LeafDecodesSaid : Prop := leafDecodesRow.holds Try.pinned (OpenSpec.ofChange leafDecodesSpec)

/-- ITS FALSE NEIGHBOUR: 'it returns false'. Refute it at one input. -/
def leafDecodesWrong : ChangeSpec := { name := "leafDecodes", fn := fun _ => fun
  | [d1, d2, d3] => { results := [.lit (.bool false)], args := [d1, d2, d3] }
  | _ => none }
def LeafDecodesWrongFalsely : Prop := leafDecodesRow.holds Try.pinned (OpenSpec.ofChange leafDecodesWrong)

/-- 'banyanlaw05.LeafBack': WHATEVER THE INPUT: true; the input reads as it did. -/
def leafBackSpec : ChangeSpec := { name := "leafBack", fn := fun _ => fun
  | [d] => { results := [.lit (.bool true)], args := [d] }
  | _ => none }
def leafBackRow : OpenClaim := { program := "ytbkaabjjmoaijaa", sum := "3e68f27102b76a0923491e41271193184a2408dda9f0688edc214f6809d535ac", func := "banyan/banyanlaw05.LeafBack", spec := "leafBack", unfollowed := true, recurses := true, apart := false }
def LeafBackSaid : Prop := leafBackRow.holds Try.pinned (OpenSpec.ofChange leafBackSpec)

/-- ITS FALSE NEIGHBOUR: 'it returns false'. Refute it at one input. -/
def leafBackWrong : ChangeSpec := { name := "leafBack", fn := fun _ => fun
  | [d] => { results := [.lit (.bool false)], args := [d] }
  | _ => none }
def LeafBackWrongFalsely : Prop := leafBackRow.holds Try.pinned (OpenSpec.ofChange leafBackWrong)

/-- 'banyanlaw05.LeafCuts': WHATEVER THE INPUT: true; the input reads as it did. -/
def leafCutsSpec : ChangeSpec := { name := "leafCuts", fn := fun _ => fun
  | [d1, d2] => { results := [.lit (.bool true)], args := [d1, d2] }
  | _ => none }
def leafCutsRow : OpenClaim := { program := "ytbkaabjjmoaijaa", sum := "3e68f27102b76a0923491e41271193184a2408dda9f0688edc214f6809d535ac", func := "banyan/banyanlaw05.LeafCuts", spec := "leafCuts", unfollowed := true, recurses := true, apart := false }
def LeafCutsSaid : Prop := leafCutsRow.holds Try.pinned (OpenSpec.ofChange leafCutsSpec)

/-- ITS FALSE NEIGHBOUR: 'it returns false'. Refute it at one input. -/
def leafCutsWrong : ChangeSpec := { name := "leafCuts", fn := fun _ => fun
  | [d1, d2] => { results := [.lit (.bool false)], args := [d1, d2] }
  | _ => none }
def LeafCutsWrongFalsely : Prop := leafCutsRow.holds Try.pinned (OpenSpec.ofChange leafCutsWrong)

/-- 'banyanlaw05.LeafSplits': WHATEVER THE INPUT: true; the input reads as it did. -/
def leafSplitsSpec : ChangeSpec := { name := "leafSplits", fn := fun _ => fun
  | [d1, d2] => { results := [.lit (.bool true)], args := [d1, d2] }
  | _ => none }
def leafSplitsRow : OpenClaim := { program := "ytbkaabjjmoaijaa", sum := "3e68f27102b76a0923491e41271193184a2408dda9f0688edc214f6809d535ac", func := "banyan/banyanlaw05.LeafSplits", spec := "leafSplits", unfollowed := true, recurses := true, apart := false }
def LeafSplitsSaid : Prop := leafSplitsRow.holds Try.pinned (OpenSpec.ofChange leafSplitsSpec)

/-- ITS FALSE NEIGHBOUR: 'it returns false'. Refute it at one input. -/
def leafSplitsWrong : ChangeSpec := { name := "leafSplits", fn := fun _ => fun
  | [d1, d2] => { results := [.lit (.bool false)], args := [d1, d2] }
  | _ => none }
def LeafSplitsWrongFalsely : Prop := leafSplitsRow.holds Try.pinned (OpenSpec.ofChange leafSplitsWrong)

/-- 'banyanlaw05.LeafSets': WHATEVER THE INPUT: true; the input reads as it did. -/
def leafSetsSpec : ChangeSpec := { name := "leafSets", fn := fun _ => fun
  | [d1, d2, d3] => { results := [.lit (.bool true)], args := [d1, d2, d3] }
  | _ => none }
def leafSetsRow : OpenClaim := { program := "ytbkaabjjmoaijaa", sum := "3e68f27102b76a0923491e41271193184a2408dda9f0688edc214f6809d535ac", func := "banyan/banyanlaw05.LeafSets", spec := "leafSets", unfollowed := true, recurses := true, apart := false }
def LeafSetsSaid : Prop := leafSetsRow.holds Try.pinned (OpenSpec.ofChange leafSetsSpec)

/-- ITS FALSE NEIGHBOUR: 'it returns false'. Refute it at one input. -/
def leafSetsWrong : ChangeSpec := { name := "leafSets", fn := fun _ => fun
  | [d1, d2, d3] => { results := [.lit (.bool false)], args := [d1, d2, d3] }
  | _ => none }
def LeafSetsWrongFalsely : Prop := leafSetsRow.holds Try.pinned (OpenSpec.ofChange leafSetsWrong)

/-- 'banyanlaw05.LeafMap': WHATEVER THE INPUT: true; the input reads as it did. -/
def leafMapSpec : ChangeSpec := { name := "leafMap", fn := fun _ => fun
  | [d] => { results := [.lit (.bool true)], args := [d] }
  | _ => none }
def leafMapRow : OpenClaim := { program := "ytbkaabjjmoaijaa", sum := "3e68f27102b76a0923491e41271193184a2408dda9f0688edc214f6809d535ac", func := "banyan/banyanlaw05.LeafMap", spec := "leafMap", unfollowed := true, recurses := true, apart := false }
def LeafMapSaid : Prop := leafMapRow.holds Try.pinned (OpenSpec.ofChange leafMapSpec)

/-- ITS FALSE NEIGHBOUR: 'it returns false'. Refute it at one input. -/
def leafMapWrong : ChangeSpec := { name := "leafMap", fn := fun _ => fun
  | [d] => { results := [.lit (.bool false)], args := [d] }
  | _ => none }
def LeafMapWrongFalsely : Prop := leafMapRow.holds Try.pinned (OpenSpec.ofChange leafMapWrong)

/-- 'banyanlaw05.LeafFits': WHATEVER THE INPUT: true; the input reads as it did. -/
def leafFitsSpec : ChangeSpec := { name := "leafFits", fn := fun _ => fun
  | [d] => { results := [.lit (.bool true)], args := [d] }
  | _ => none }
def leafFitsRow : OpenClaim := { program := "ytbkaabjjmoaijaa", sum := "3e68f27102b76a0923491e41271193184a2408dda9f0688edc214f6809d535ac", func := "banyan/banyanlaw05.LeafFits", spec := "leafFits", unfollowed := true, recurses := true, apart := false }
def LeafFitsSaid : Prop := leafFitsRow.holds Try.pinned (OpenSpec.ofChange leafFitsSpec)

/-- ITS FALSE NEIGHBOUR: 'it returns false'. Refute it at one input. -/
def leafFitsWrong : ChangeSpec := { name := "leafFits", fn := fun _ => fun
  | [d] => { results := [.lit (.bool false)], args := [d] }
  | _ => none }
def LeafFitsWrongFalsely : Prop := leafFitsRow.holds Try.pinned (OpenSpec.ofChange leafFitsWrong)

/- THE SECOND FORM. 'bulk': how many values and letters a reading holds, each counted each time it is reached (what is shared counts as often as it is met; a slice's spare places count too). A statement '..UptoSaid' is the law's where the arguments, and the package variables that the reading takes, are together of bulk at most 1048576: NARROWER than '..Said'. Prove '..Said' where nothing that the law and all that it calls make is longer than what came in: it says more and counts as full. Else prove '..UptoSaid'. A law counts once. -/
mutual
def uptoBulk {H : Type} : DataW H → Nat
  | .lit (.string bytes) => bytes.length + 1
  | .lit _ => 1
  | .nil => 1
  | .ptr d => uptoBulk d + 1
  | .slice elems spare => uptoBulkAll elems + uptoBulkAll spare + 1
  | .agg parts => uptoBulkAll parts + 1
  | .iface _ d => uptoBulk d + 1
  | .map entries => uptoBulkEntries entries + 1
  | .held _ => 1
def uptoBulkAll {H : Type} : List (DataW H) → Nat
  | [] => 0
  | d :: r => uptoBulk d + uptoBulkAll r
def uptoBulkEntries {H : Type} : List (Lit × DataW H) → Nat
  | [] => 0
  | x :: r => uptoBulkEntry x + uptoBulkEntries r
def uptoBulkEntry {H : Type} : Lit × DataW H → Nat
  | (.string bytes, d) => bytes.length + uptoBulk d + 1
  | (_, d) => uptoBulk d + 1
 end
def uptoSmall : (H : Type) → List (DataW H) → Bool := fun _ ds => decide (uptoBulkAll ds ≤ 1048576)
def OpenSpec.upto (s : _root_.Go.ChangeSpec) : _root_.Go.OpenSpec := { _root_.Go.OpenSpec.ofChange s with cond := some uptoSmall }

/-- 'banyanlaw05.LeafNames', WHERE WHAT IT READS IS OF BULK AT MOST 1048576: true; the input reads as it did. -/
def leafNamesUptoRow : OpenClaim := { program := "ytbkaabjjmoaijaa", sum := "3e68f27102b76a0923491e41271193184a2408dda9f0688edc214f6809d535ac", func := "banyan/banyanlaw05.LeafNames", spec := "leafNames", unfollowed := true, recurses := true, apart := false, narrowed := true }
def LeafNamesUptoSaid : Prop := leafNamesUptoRow.holds Try.pinned (OpenSpec.upto leafNamesSpec)

/-- 'banyanlaw05.LeafEncodes', WHERE WHAT IT READS IS OF BULK AT MOST 1048576: true; the input reads as it did. -/
def leafEncodesUptoRow : OpenClaim := { program := "ytbkaabjjmoaijaa", sum := "3e68f27102b76a0923491e41271193184a2408dda9f0688edc214f6809d535ac", func := "banyan/banyanlaw05.LeafEncodes", spec := "leafEncodes", unfollowed := true, recurses := true, apart := false, narrowed := true }
def LeafEncodesUptoSaid : Prop := leafEncodesUptoRow.holds Try.pinned (OpenSpec.upto leafEncodesSpec)

/-- 'banyanlaw05.LeafDecodes', WHERE WHAT IT READS IS OF BULK AT MOST 1048576: true; the input reads as it did. -/
def leafDecodesUptoRow : OpenClaim := { program := "ytbkaabjjmoaijaa", sum := "3e68f27102b76a0923491e41271193184a2408dda9f0688edc214f6809d535ac", func := "banyan/banyanlaw05.LeafDecodes", spec := "leafDecodes", unfollowed := true, recurses := true, apart := false, narrowed := true }
def LeafDecodesUptoSaid : Prop := leafDecodesUptoRow.holds Try.pinned (OpenSpec.upto leafDecodesSpec)

/-- 'banyanlaw05.LeafBack', WHERE WHAT IT READS IS OF BULK AT MOST 1048576: true; the input reads as it did. -/
def leafBackUptoRow : OpenClaim := { program := "ytbkaabjjmoaijaa", sum := "3e68f27102b76a0923491e41271193184a2408dda9f0688edc214f6809d535ac", func := "banyan/banyanlaw05.LeafBack", spec := "leafBack", unfollowed := true, recurses := true, apart := false, narrowed := true }
def LeafBackUptoSaid : Prop := leafBackUptoRow.holds Try.pinned (OpenSpec.upto leafBackSpec)

/-- 'banyanlaw05.LeafCuts', WHERE WHAT IT READS IS OF BULK AT MOST 1048576: true; the input reads as it did. -/
def leafCutsUptoRow : OpenClaim := { program := "ytbkaabjjmoaijaa", sum := "3e68f27102b76a0923491e41271193184a2408dda9f0688edc214f6809d535ac", func := "banyan/banyanlaw05.LeafCuts", spec := "leafCuts", unfollowed := true, recurses := true, apart := false, narrowed := true }
def LeafCutsUptoSaid : Prop := leafCutsUptoRow.holds Try.pinned (OpenSpec.upto leafCutsSpec)

/-- 'banyanlaw05.LeafSplits', WHERE WHAT IT READS IS OF BULK AT MOST 1048576: true; the input reads as it did. -/
def leafSplitsUptoRow : OpenClaim := { program := "ytbkaabjjmoaijaa", sum := "3e68f27102b76a0923491e41271193184a2408dda9f0688edc214f6809d535ac", func := "banyan/banyanlaw05.LeafSplits", spec := "leafSplits", unfollowed := true, recurses := true, apart := false, narrowed := true }
def LeafSplitsUptoSaid : Prop := leafSplitsUptoRow.holds Try.pinned (OpenSpec.upto leafSplitsSpec)

/-- 'banyanlaw05.LeafSets', WHERE WHAT IT READS IS OF BULK AT MOST 1048576: true; the input reads as it did. -/
def leafSetsUptoRow : OpenClaim := { program := "ytbkaabjjmoaijaa", sum := "3e68f27102b76a0923491e41271193184a2408dda9f0688edc214f6809d535ac", func := "banyan/banyanlaw05.LeafSets", spec := "leafSets", unfollowed := true, recurses := true, apart := false, narrowed := true }
def LeafSetsUptoSaid : Prop := leafSetsUptoRow.holds Try.pinned (OpenSpec.upto leafSetsSpec)

/-- 'banyanlaw05.LeafMap', WHERE WHAT IT READS IS OF BULK AT MOST 1048576: true; the input reads as it did. -/
def leafMapUptoRow : OpenClaim := { program := "ytbkaabjjmoaijaa", sum := "3e68f27102b76a0923491e41271193184a2408dda9f0688edc214f6809d535ac", func := "banyan/banyanlaw05.LeafMap", spec := "leafMap", unfollowed := true, recurses := true, apart := false, narrowed := true }
def LeafMapUptoSaid : Prop := leafMapUptoRow.holds Try.pinned (OpenSpec.upto leafMapSpec)

/-- 'banyanlaw05.LeafFits', WHERE WHAT IT READS IS OF BULK AT MOST 1048576: true; the input reads as it did. -/
def leafFitsUptoRow : OpenClaim := { program := "ytbkaabjjmoaijaa", sum := "3e68f27102b76a0923491e41271193184a2408dda9f0688edc214f6809d535ac", func := "banyan/banyanlaw05.LeafFits", spec := "leafFits", unfollowed := true, recurses := true, apart := false, narrowed := true }
def LeafFitsUptoSaid : Prop := leafFitsUptoRow.holds Try.pinned (OpenSpec.upto leafFitsSpec)

end Rows
end Go.Proofs.Ytbkaabjjmoaijaa
