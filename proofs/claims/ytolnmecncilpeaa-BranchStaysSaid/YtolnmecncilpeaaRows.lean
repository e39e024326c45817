/-
  No cell of these rows narrows 'for every input' (looked for: loops, veiled, ifaces, maps, wideKeys, modest, calm, conditions, laid).
  DERIVED. THE GIVEN ROWS OF THIS SEAT. 9 by the template 'for every input the law returns true; each argument reads behind the call as it read before'; 0 by the template 'total and deterministic' (their statements: YtolnmecncilpeaaTotals.lean).
  GIVEN WITH THE SEED: the statements are not yours to turn. If you find one false, say at which input.
  Laid BY PROGRAM, IN A SANDBOX (cutbox-rows.mjs): the forced cells as the released guide's own fill.sh prints them over the translation 4f8c202b552f3fab… (all of the seat's roots in one cut). By AI agents, Wed Nov 11 2026. No macro, syntax, notation, axiom, sorry.
-/
import Derived.Test.YtolnmecncilpeaaChecked
import GoSem.Claim
import GoSem.ClaimJoined
import GoSem.ClaimMapViews
import Derived.JoinedTies
import Derived.KernelRfl
namespace Go.Proofs.Ytolnmecncilpeaa
/- THE CELL 'sum', in the pinned program and in every row, IS THE sha256 OF THE DUMP (.gsa) THAT YtolnmecncilpeaaProg.lean LOADS. Nothing in Lean hashes anything: it is a label: what it is worth is what the hold of that sum in a sandbox is worth. -/
noncomputable def Try.pinned : Pinned := { name := "ytolnmecncilpeaa", sum := "4f8c202b552f3fab7aa6f5cbea4b442725eafd04cd8141c5dc846e7259c17b65", checked := Try.checked }
namespace Rows
def none {H : Type} : Left H := { results := [], args := [] }

/-- 'banyanlaw06.BranchNames': WHATEVER THE INPUT: true; the input reads as it did. -/
def branchNamesSpec : ChangeSpec := { name := "branchNames", fn := fun _ => fun
  | [] => { results := [.lit (.bool true)], args := [] }
  | _ => none }
def branchNamesRow : OpenClaim := { program := "ytolnmecncilpeaa", sum := "4f8c202b552f3fab7aa6f5cbea4b442725eafd04cd8141c5dc846e7259c17b65", func := "banyan/banyanlaw06.BranchNames", spec := "branchNames", apart := false }
def BranchNamesSaid : Prop := branchNamesRow.holds Try.pinned (OpenSpec.ofChange branchNamesSpec)

/-- ITS FALSE NEIGHBOUR: 'it returns false'. Refute it at one input. -/
def branchNamesWrong : ChangeSpec := { name := "branchNames", fn := fun _ => fun
  | [] => { results := [.lit (.bool false)], args := [] }
  | _ => none }
def BranchNamesWrongFalsely : Prop := branchNamesRow.holds Try.pinned (OpenSpec.ofChange branchNamesWrong)

/-- 'banyanlaw06.BranchDecodes': WHATEVER THE INPUT: true; the input reads as it did. -/
def branchDecodesSpec : ChangeSpec := { name := "branchDecodes", fn := fun _ => fun
  | [d1, d2, d3] => { results := [.lit (.bool true)], args := [d1, d2, d3] }
  | _ => none }
def branchDecodesRow : OpenClaim := { program := "ytolnmecncilpeaa", sum := "4f8c202b552f3fab7aa6f5cbea4b442725eafd04cd8141c5dc846e7259c17b65", func := "banyan/banyanlaw06.BranchDecodes", spec := "branchDecodes", recurses := true, apart := false }
def BranchDecodesSaid : Prop := branchDecodesRow.holds Try.pinned (OpenSpec.ofChange branchDecodesSpec)

/-- ITS FALSE NEIGHBOUR: 'it returns false'. Refute it at one input. -/
def branchDecodesWrong : ChangeSpec := { name := "branchDecodes", fn := fun _ => fun
  | [d1, d2, d3] => { results := [.lit (.bool false)], args := [d1, d2, d3] }
  | _ => none }
def BranchDecodesWrongFalsely : Prop := branchDecodesRow.holds Try.pinned (OpenSpec.ofChange branchDecodesWrong)

/-- 'banyanlaw06.BranchSpans': WHATEVER THE INPUT: true; the input reads as it did. -/
def branchSpansSpec : ChangeSpec := { name := "branchSpans", fn := fun _ => fun
  | [d1, d2, d3] => { results := [.lit (.bool true)], args := [d1, d2, d3] }
  | _ => none }
def branchSpansRow : OpenClaim := { program := "ytolnmecncilpeaa", sum := "4f8c202b552f3fab7aa6f5cbea4b442725eafd04cd8141c5dc846e7259c17b65", func := "banyan/banyanlaw06.BranchSpans", spec := "branchSpans", apart := false }
def BranchSpansSaid : Prop := branchSpansRow.holds Try.pinned (OpenSpec.ofChange branchSpansSpec)

/-- ITS FALSE NEIGHBOUR: 'it returns false'. Refute it at one input. -/
def branchSpansWrong : ChangeSpec := { name := "branchSpans", fn := fun _ => fun
  | [d1, d2, d3] => { results := [.lit (.bool false)], args := [d1, d2, d3] }
  | _ => none }
def BranchSpansWrongFalsely : Prop := branchSpansRow.holds Try.pinned (OpenSpec.ofChange branchSpansWrong)

/-- 'banyanlaw06.BranchReplaces': WHATEVER THE INPUT: true; the input reads as it did. -/
def branchReplacesSpec : ChangeSpec := { name := "branchReplaces", fn := fun _ => fun
  | [d1, d2, d3, d4] => { results := [.lit (.bool true)], args := [d1, d2, d3, d4] }
  | _ => none }
def branchReplacesRow : OpenClaim := { program := "ytolnmecncilpeaa", sum := "4f8c202b552f3fab7aa6f5cbea4b442725eafd04cd8141c5dc846e7259c17b65", func := "banyan/banyanlaw06.BranchReplaces", spec := "branchReplaces", apart := false }
def BranchReplacesSaid : Prop := branchReplacesRow.holds Try.pinned (OpenSpec.ofChange branchReplacesSpec)

/-- ITS FALSE NEIGHBOUR: 'it returns false'. Refute it at one input. -/
def branchReplacesWrong : ChangeSpec := { name := "branchReplaces", fn := fun _ => fun
  | [d1, d2, d3, d4] => { results := [.lit (.bool false)], args := [d1, d2, d3, d4] }
  | _ => none }
def BranchReplacesWrongFalsely : Prop := branchReplacesRow.holds Try.pinned (OpenSpec.ofChange branchReplacesWrong)

/-- 'banyanlaw06.BranchForm': WHATEVER THE INPUT: true; the input reads as it did. -/
def branchFormSpec : ChangeSpec := { name := "branchForm", fn := fun _ => fun
  | [d1, d2, d3, d4] => { results := [.lit (.bool true)], args := [d1, d2, d3, d4] }
  | _ => none }
def branchFormRow : OpenClaim := { program := "ytolnmecncilpeaa", sum := "4f8c202b552f3fab7aa6f5cbea4b442725eafd04cd8141c5dc846e7259c17b65", func := "banyan/banyanlaw06.BranchForm", spec := "branchForm", apart := false }
def BranchFormSaid : Prop := branchFormRow.holds Try.pinned (OpenSpec.ofChange branchFormSpec)

/-- ITS FALSE NEIGHBOUR: 'it returns false'. Refute it at one input. -/
def branchFormWrong : ChangeSpec := { name := "branchForm", fn := fun _ => fun
  | [d1, d2, d3, d4] => { results := [.lit (.bool false)], args := [d1, d2, d3, d4] }
  | _ => none }
def BranchFormWrongFalsely : Prop := branchFormRow.holds Try.pinned (OpenSpec.ofChange branchFormWrong)

/-- 'banyanlaw06.BranchKeys': WHATEVER THE INPUT: true; the input reads as it did. -/
def branchKeysSpec : ChangeSpec := { name := "branchKeys", fn := fun _ => fun
  | [d1, d2, d3, d4] => { results := [.lit (.bool true)], args := [d1, d2, d3, d4] }
  | _ => none }
def branchKeysRow : OpenClaim := { program := "ytolnmecncilpeaa", sum := "4f8c202b552f3fab7aa6f5cbea4b442725eafd04cd8141c5dc846e7259c17b65", func := "banyan/banyanlaw06.BranchKeys", spec := "branchKeys", recurses := true, apart := false }
def BranchKeysSaid : Prop := branchKeysRow.holds Try.pinned (OpenSpec.ofChange branchKeysSpec)

/-- ITS FALSE NEIGHBOUR: 'it returns false'. Refute it at one input. -/
def branchKeysWrong : ChangeSpec := { name := "branchKeys", fn := fun _ => fun
  | [d1, d2, d3, d4] => { results := [.lit (.bool false)], args := [d1, d2, d3, d4] }
  | _ => none }
def BranchKeysWrongFalsely : Prop := branchKeysRow.holds Try.pinned (OpenSpec.ofChange branchKeysWrong)

/-- 'banyanlaw06.BranchStays': WHATEVER THE INPUT: true; the input reads as it did. -/
def branchStaysSpec : ChangeSpec := { name := "branchStays", fn := fun _ => fun
  | [d1, d2, d3, d4, d5, d6] => { results := [.lit (.bool true)], args := [d1, d2, d3, d4, d5, d6] }
  | _ => none }
def branchStaysRow : OpenClaim := { program := "ytolnmecncilpeaa", sum := "4f8c202b552f3fab7aa6f5cbea4b442725eafd04cd8141c5dc846e7259c17b65", func := "banyan/banyanlaw06.BranchStays", spec := "branchStays", apart := false }
def BranchStaysSaid : Prop := branchStaysRow.holds Try.pinned (OpenSpec.ofChange branchStaysSpec)

/-- ITS FALSE NEIGHBOUR: 'it returns false'. Refute it at one input. -/
def branchStaysWrong : ChangeSpec := { name := "branchStays", fn := fun _ => fun
  | [d1, d2, d3, d4, d5, d6] => { results := [.lit (.bool false)], args := [d1, d2, d3, d4, d5, d6] }
  | _ => none }
def BranchStaysWrongFalsely : Prop := branchStaysRow.holds Try.pinned (OpenSpec.ofChange branchStaysWrong)

/-- 'banyanlaw06.BranchChecks': WHATEVER THE INPUT: true; the input reads as it did. -/
def branchChecksSpec : ChangeSpec := { name := "branchChecks", fn := fun _ => fun
  | [d1, d2, d3, d4] => { results := [.lit (.bool true)], args := [d1, d2, d3, d4] }
  | _ => none }
def branchChecksRow : OpenClaim := { program := "ytolnmecncilpeaa", sum := "4f8c202b552f3fab7aa6f5cbea4b442725eafd04cd8141c5dc846e7259c17b65", func := "banyan/banyanlaw06.BranchChecks", spec := "branchChecks", recurses := true, apart := false }
def BranchChecksSaid : Prop := branchChecksRow.holds Try.pinned (OpenSpec.ofChange branchChecksSpec)

/-- ITS FALSE NEIGHBOUR: 'it returns false'. Refute it at one input. -/
def branchChecksWrong : ChangeSpec := { name := "branchChecks", fn := fun _ => fun
  | [d1, d2, d3, d4] => { results := [.lit (.bool false)], args := [d1, d2, d3, d4] }
  | _ => none }
def BranchChecksWrongFalsely : Prop := branchChecksRow.holds Try.pinned (OpenSpec.ofChange branchChecksWrong)

/-- 'banyanlaw06.BranchParts': WHATEVER THE INPUT: true; the input reads as it did. -/
def branchPartsSpec : ChangeSpec := { name := "branchParts", fn := fun _ => fun
  | [d1, d2, d3] => { results := [.lit (.bool true)], args := [d1, d2, d3] }
  | _ => none }
def branchPartsRow : OpenClaim := { program := "ytolnmecncilpeaa", sum := "4f8c202b552f3fab7aa6f5cbea4b442725eafd04cd8141c5dc846e7259c17b65", func := "banyan/banyanlaw06.BranchParts", spec := "branchParts", apart := false }
def BranchPartsSaid : Prop := branchPartsRow.holds Try.pinned (OpenSpec.ofChange branchPartsSpec)

/-- ITS FALSE NEIGHBOUR: 'it returns false'. Refute it at one input. -/
def branchPartsWrong : ChangeSpec := { name := "branchParts", fn := fun _ => fun
  | [d1, d2, d3] => { results := [.lit (.bool false)], args := [d1, d2, d3] }
  | _ => none }
def BranchPartsWrongFalsely : Prop := branchPartsRow.holds Try.pinned (OpenSpec.ofChange branchPartsWrong)

/- THE SECOND FORM. 'bulk': how many values and letters a reading holds, each counted each time it is reached (what is shared counts as often as it is met; a slice's spare places count too). A statement '..UptoSaid' is the law's where the arguments, and the package variables that the reading takes, are together of bulk at most 1048576: NARROWER than '..Said'. Prove '..Said' where nothing that the law and all that it calls make is longer than what came in: it says more and counts as full. Else prove '..UptoSaid'. A law counts once. -/
mutual
def uptoBulk {H : Type} : DataW H → Nat
  | .lit (.string bytes) => bytes.length + 1
  | .lit _ => 1
  | .nil => 1
  | .ptr d => uptoBulk d + 1
  | .slice elems spare => uptoBulkAll elems + uptoBulkAll spare + 1
  | .agg parts => uptoBulkAll parts + 1
  | .iface _ d => uptoBulk d + 1
  | .map entries => uptoBulkEntries entries + 1
  | .held _ => 1
def uptoBulkAll {H : Type} : List (DataW H) → Nat
  | [] => 0
  | d :: r => uptoBulk d + uptoBulkAll r
def uptoBulkEntries {H : Type} : List (Lit × DataW H) → Nat
  | [] => 0
  | x :: r => uptoBulkEntry x + uptoBulkEntries r
def uptoBulkEntry {H : Type} : Lit × DataW H → Nat
  | (.string bytes, d) => bytes.length + uptoBulk d + 1
  | (_, d) => uptoBulk d + 1
 end
def uptoSmall : (H : Type) → List (DataW H) → Bool := fun _ ds => decide (uptoBulkAll ds ≤ 1048576)
def OpenSpec.upto (s : _root_.Go.ChangeSpec) : _root_.Go.OpenSpec := { _root_.Go.OpenSpec.ofChange s with cond := some uptoSmall }

/-- 'banyanlaw06.BranchNames', WHERE WHAT IT READS IS OF BULK AT MOST 1048576: true; the input reads as it did. -/
def branchNamesUptoRow : OpenClaim := { program := "ytolnmecncilpeaa", sum := "4f8c202b552f3fab7aa6f5cbea4b442725eafd04cd8141c5dc846e7259c17b65", func := "banyan/banyanlaw06.BranchNames", spec := "branchNames", apart := false, narrowed := true }
def BranchNamesUptoSaid : Prop := branchNamesUptoRow.holds Try.pinned (OpenSpec.upto branchNamesSpec)

/-- 'banyanlaw06.BranchDecodes', WHERE WHAT IT READS IS OF BULK AT MOST 1048576: true; the input reads as it did. -/
def branchDecodesUptoRow : OpenClaim := { program := "ytolnmecncilpeaa", sum := "4f8c202b552f3fab7aa6f5cbea4b442725eafd04cd8141c5dc846e7259c17b65", func := "banyan/banyanlaw06.BranchDecodes", spec := "branchDecodes", recurses := true, apart := false, narrowed := true }
def BranchDecodesUptoSaid : Prop := branchDecodesUptoRow.holds Try.pinned (OpenSpec.upto branchDecodesSpec)

/-- 'banyanlaw06.BranchSpans', WHERE WHAT IT READS IS OF BULK AT MOST 1048576: true; the input reads as it did. -/
def branchSpansUptoRow : OpenClaim := { program := "ytolnmecncilpeaa", sum := "4f8c202b552f3fab7aa6f5cbea4b442725eafd04cd8141c5dc846e7259c17b65", func := "banyan/banyanlaw06.BranchSpans", spec := "branchSpans", apart := false, narrowed := true }
def BranchSpansUptoSaid : Prop := branchSpansUptoRow.holds Try.pinned (OpenSpec.upto branchSpansSpec)

/-- 'banyanlaw06.BranchReplaces', WHERE WHAT IT READS IS OF BULK AT MOST 1048576: true; the input reads as it did. -/
def branchReplacesUptoRow : OpenClaim := { program := "ytolnmecncilpeaa", sum := "4f8c202b552f3fab7aa6f5cbea4b442725eafd04cd8141c5dc846e7259c17b65", func := "banyan/banyanlaw06.BranchReplaces", spec := "branchReplaces", apart := false, narrowed := true }
def BranchReplacesUptoSaid : Prop := branchReplacesUptoRow.holds Try.pinned (OpenSpec.upto branchReplacesSpec)

/-- 'banyanlaw06.BranchForm', WHERE WHAT IT READS IS OF BULK AT MOST 1048576: true; the input reads as it did. -/
def branchFormUptoRow : OpenClaim := { program := "ytolnmecncilpeaa", sum := "4f8c202b552f3fab7aa6f5cbea4b442725eafd04cd8141c5dc846e7259c17b65", func := "banyan/banyanlaw06.BranchForm", spec := "branchForm", apart := false, narrowed := true }
def BranchFormUptoSaid : Prop := branchFormUptoRow.holds Try.pinned (OpenSpec.upto branchFormSpec)

/-- 'banyanlaw06.BranchKeys', WHERE WHAT IT READS IS OF BULK AT MOST 1048576: true; the input reads as it did. -/
def branchKeysUptoRow : OpenClaim := { program := "ytolnmecncilpeaa", sum := "4f8c202b552f3fab7aa6f5cbea4b442725eafd04cd8141c5dc846e7259c17b65", func := "banyan/banyanlaw06.BranchKeys", spec := "branchKeys", recurses := true, apart := false, narrowed := true }
def BranchKeysUptoSaid : Prop := branchKeysUptoRow.holds Try.pinned (OpenSpec.upto branchKeysSpec)

/-- 'banyanlaw06.BranchStays', WHERE WHAT IT READS IS OF BULK AT MOST 1048576: true; the input reads as it did. -/
def branchStaysUptoRow : OpenClaim := { program := "ytolnmecncilpeaa", sum := "4f8c202b552f3fab7aa6f5cbea4b442725eafd04cd8141c5dc846e7259c17b65", func := "banyan/banyanlaw06.BranchStays", spec := "branchStays", apart := false, narrowed := true }
def BranchStaysUptoSaid : Prop := branchStaysUptoRow.holds Try.pinned (OpenSpec.upto branchStaysSpec)

/-- 'banyanlaw06.BranchChecks', WHERE WHAT IT READS IS OF BULK AT MOST 1048576: true; the input reads as it did. -/
def branchChecksUptoRow : OpenClaim := { program := "ytolnmecncilpeaa", sum := "4f8c202b552f3fab7aa6f5cbea4b442725eafd04cd8141c5dc846e7259c17b65", func := "banyan/banyanlaw06.BranchChecks", spec := "branchChecks", recurses := true, apart := false, narrowed := true }
def BranchChecksUptoSaid : Prop := branchChecksUptoRow.holds Try.pinned (OpenSpec.upto branchChecksSpec)

/-- 'banyanlaw06.BranchParts', WHERE WHAT IT READS IS OF BULK AT MOST 1048576: true; the input reads as it did. -/
def branchPartsUptoRow : OpenClaim := { program := "ytolnmecncilpeaa", sum := "4f8c202b552f3fab7aa6f5cbea4b442725eafd04cd8141c5dc846e7259c17b65", func := "banyan/banyanlaw06.BranchParts", spec := "branchParts", apart := false, narrowed := true }
def BranchPartsUptoSaid : Prop := branchPartsUptoRow.holds Try.pinned (OpenSpec.upto branchPartsSpec)

end Rows
end Go.Proofs.Ytolnmecncilpeaa
