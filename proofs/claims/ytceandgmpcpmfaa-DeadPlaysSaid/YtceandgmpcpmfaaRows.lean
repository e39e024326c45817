/-
  No cell of these rows narrows 'for every input' (looked for: loops, veiled, ifaces, maps, wideKeys, modest, calm, conditions, laid).
  DERIVED. THE GIVEN ROWS OF THIS SEAT. 4 by the template 'for every input the law returns true; each argument reads behind the call as it read before'; 0 by the template 'total and deterministic' (their statements: YtceandgmpcpmfaaTotals.lean).
  GIVEN WITH THE SEED: the statements are not yours to turn. If you find one false, say at which input.
  Laid BY PROGRAM, IN A SANDBOX (cutbox-rows.mjs): the forced cells as the released guide's own fill.sh prints them over the translation d88602ecbd647dd5… (all of the seat's roots in one cut). By AI agents, Wed Nov 11 2026. No macro, syntax, notation, axiom, sorry.
-/
import Derived.Test.YtceandgmpcpmfaaChecked
import GoSem.Claim
import GoSem.ClaimJoined
import GoSem.ClaimMapViews
import Derived.JoinedTies
import Derived.KernelRfl
namespace Go.Proofs.Ytceandgmpcpmfaa
/- THE CELL 'sum', in the pinned program and in every row, IS THE sha256 OF THE DUMP (.gsa) THAT YtceandgmpcpmfaaProg.lean LOADS. Nothing in Lean hashes anything: it is a label: what it is worth is what the hold of that sum in a sandbox is worth. -/
noncomputable def Try.pinned : Pinned := { name := "ytceandgmpcpmfaa", sum := "d88602ecbd647dd549e560e69c0cf4516ce1c6081bddf8cda1a4958a7bfa3c4f", checked := Try.checked }
namespace Rows
def none {H : Type} : Left H := { results := [], args := [] }

/-- 'banyanlaw10.DeadNames': WHATEVER THE INPUT: true; the input reads as it did. -/
def deadNamesSpec : ChangeSpec := { name := "deadNames", fn := fun _ => fun
  | [] => { results := [.lit (.bool true)], args := [] }
  | _ => none }
def deadNamesRow : OpenClaim := { program := "ytceandgmpcpmfaa", sum := "d88602ecbd647dd549e560e69c0cf4516ce1c6081bddf8cda1a4958a7bfa3c4f", func := "banyan/banyanlaw10.DeadNames", spec := "deadNames", inPlace := ["slices.overlaps[banyan/api.Life]"], unfollowed := true, recurses := true, apart := false }
def DeadNamesSaid : Prop := deadNamesRow.holds Try.pinned (OpenSpec.ofChange deadNamesSpec)

/-- ITS FALSE NEIGHBOUR: 'it returns false'. Refute it at one input. -/
def deadNamesWrong : ChangeSpec := { name := "deadNames", fn := fun _ => fun
  | [] => { results := [.lit (.bool false)], args := [] }
  | _ => none }
def DeadNamesWrongFalsely : Prop := deadNamesRow.holds Try.pinned (OpenSpec.ofChange deadNamesWrong)

/-- 'banyanlaw10.DeadPlays': WHATEVER THE INPUT: true; the input reads as it did. -/
def deadPlaysSpec : ChangeSpec := { name := "deadPlays", fn := fun _ => fun
  | [d] => { results := [.lit (.bool true)], args := [d] }
  | _ => none }
def deadPlaysRow : OpenClaim := { program := "ytceandgmpcpmfaa", sum := "d88602ecbd647dd549e560e69c0cf4516ce1c6081bddf8cda1a4958a7bfa3c4f", func := "banyan/banyanlaw10.DeadPlays", spec := "deadPlays", inPlace := ["slices.overlaps[banyan/api.Life]"], unfollowed := true, recurses := true, apart := false }
def DeadPlaysSaid : Prop := deadPlaysRow.holds Try.pinned (OpenSpec.ofChange deadPlaysSpec)

/-- ITS FALSE NEIGHBOUR: 'it returns false'. Refute it at one input. -/
def deadPlaysWrong : ChangeSpec := { name := "deadPlays", fn := fun _ => fun
  | [d] => { results := [.lit (.bool false)], args := [d] }
  | _ => none }
def DeadPlaysWrongFalsely : Prop := deadPlaysRow.holds Try.pinned (OpenSpec.ofChange deadPlaysWrong)

/-- 'banyanlaw10.DeadOrder': WHATEVER THE INPUT: true; the input reads as it did. -/
def deadOrderSpec : ChangeSpec := { name := "deadOrder", fn := fun _ => fun
  | [d] => { results := [.lit (.bool true)], args := [d] }
  | _ => none }
def deadOrderRow : OpenClaim := { program := "ytceandgmpcpmfaa", sum := "d88602ecbd647dd549e560e69c0cf4516ce1c6081bddf8cda1a4958a7bfa3c4f", func := "banyan/banyanlaw10.DeadOrder", spec := "deadOrder", inPlace := ["slices.overlaps[banyan/api.Life]"], unfollowed := true, recurses := true, apart := false }
def DeadOrderSaid : Prop := deadOrderRow.holds Try.pinned (OpenSpec.ofChange deadOrderSpec)

/-- ITS FALSE NEIGHBOUR: 'it returns false'. Refute it at one input. -/
def deadOrderWrong : ChangeSpec := { name := "deadOrder", fn := fun _ => fun
  | [d] => { results := [.lit (.bool false)], args := [d] }
  | _ => none }
def DeadOrderWrongFalsely : Prop := deadOrderRow.holds Try.pinned (OpenSpec.ofChange deadOrderWrong)

/-- 'banyanlaw10.DeadKept': WHATEVER THE INPUT: true; the input reads as it did. -/
def deadKeptSpec : ChangeSpec := { name := "deadKept", fn := fun _ => fun
  | [d1, d2, d3, d4] => { results := [.lit (.bool true)], args := [d1, d2, d3, d4] }
  | _ => none }
def deadKeptRow : OpenClaim := { program := "ytceandgmpcpmfaa", sum := "d88602ecbd647dd549e560e69c0cf4516ce1c6081bddf8cda1a4958a7bfa3c4f", func := "banyan/banyanlaw10.DeadKept", spec := "deadKept", inPlace := ["slices.overlaps[banyan/api.Life]"], unfollowed := true, recurses := true, apart := false }
def DeadKeptSaid : Prop := deadKeptRow.holds Try.pinned (OpenSpec.ofChange deadKeptSpec)

/-- ITS FALSE NEIGHBOUR: 'it returns false'. Refute it at one input. -/
def deadKeptWrong : ChangeSpec := { name := "deadKept", fn := fun _ => fun
  | [d1, d2, d3, d4] => { results := [.lit (.bool false)], args := [d1, d2, d3, d4] }
  | _ => none }
def DeadKeptWrongFalsely : Prop := deadKeptRow.holds Try.pinned (OpenSpec.ofChange deadKeptWrong)

/- THE SECOND FORM. 'bulk': how many values and letters a reading holds, each counted each time it is reached (what is shared counts as often as it is met; a slice's spare places count too). A statement '..UptoSaid' is the law's where the arguments, and the package variables that the reading takes, are together of bulk at most 1048576: NARROWER than '..Said'. Prove '..Said' where nothing that the law and all that it calls make is longer than what came in: it says more and counts as full. Else prove '..UptoSaid'. A law counts once. -/
mutual
def uptoBulk {H : Type} : DataW H → Nat
  | .lit (.string bytes) => bytes.length + 1
  | .lit _ => 1
  | .nil => 1
  | .ptr d => uptoBulk d + 1
  | .slice elems spare => uptoBulkAll elems + uptoBulkAll spare + 1
  | .agg parts => uptoBulkAll parts + 1
  | .iface _ d => uptoBulk d + 1
  | .map entries => uptoBulkEntries entries + 1
  | .held _ => 1
def uptoBulkAll {H : Type} : List (DataW H) → Nat
  | [] => 0
  | d :: r => uptoBulk d + uptoBulkAll r
def uptoBulkEntries {H : Type} : List (Lit × DataW H) → Nat
  | [] => 0
  | x :: r => uptoBulkEntry x + uptoBulkEntries r
def uptoBulkEntry {H : Type} : Lit × DataW H → Nat
  | (.string bytes, d) => bytes.length + uptoBulk d + 1
  | (_, d) => uptoBulk d + 1
 end
def uptoSmall : (H : Type) → List (DataW H) → Bool := fun _ ds => decide (uptoBulkAll ds ≤ 1048576)
def OpenSpec.upto (s : _root_.Go.ChangeSpec) : _root_.Go.OpenSpec := { _root_.Go.OpenSpec.ofChange s with cond := some uptoSmall }

/-- 'banyanlaw10.DeadNames', WHERE WHAT IT READS IS OF BULK AT MOST 1048576: true; the input reads as it did. -/
def deadNamesUptoRow : OpenClaim := { program := "ytceandgmpcpmfaa", sum := "d88602ecbd647dd549e560e69c0cf4516ce1c6081bddf8cda1a4958a7bfa3c4f", func := "banyan/banyanlaw10.DeadNames", spec := "deadNames", inPlace := ["slices.overlaps[banyan/api.Life]"], unfollowed := true, recurses := true, apart := false, narrowed := true }
def DeadNamesUptoSaid : Prop := deadNamesUptoRow.holds Try.pinned (OpenSpec.upto deadNamesSpec)

/-- 'banyanlaw10.DeadPlays', WHERE WHAT IT READS IS OF BULK AT MOST 1048576: true; the input reads as it did. -/
def deadPlaysUptoRow : OpenClaim := { program := "ytceandgmpcpmfaa", sum := "d88602ecbd647dd549e560e69c0cf4516ce1c6081bddf8cda1a4958a7bfa3c4f", func := "banyan/banyanlaw10.DeadPlays", spec := "deadPlays", inPlace := ["slices.overlaps[banyan/api.Life]"], unfollowed := true, recurses := true, apart := false, narrowed := true }
def DeadPlaysUptoSaid : Prop := deadPlaysUptoRow.holds Try.pinned (OpenSpec.upto deadPlaysSpec)

/-- 'banyanlaw10.DeadOrder', WHERE WHAT IT READS IS OF BULK AT MOST 1048576: true; the input reads as it did. -/
def deadOrderUptoRow : OpenClaim := { program := "ytceandgmpcpmfaa", sum := "d88602ecbd647dd549e560e69c0cf4516ce1c6081bddf8cda1a4958a7bfa3c4f", func := "banyan/banyanlaw10.DeadOrder", spec := "deadOrder", inPlace := ["slices.overlaps[banyan/api.Life]"], unfollowed := true, recurses := true, apart := false, narrowed := true }
def DeadOrderUptoSaid : Prop := deadOrderUptoRow.holds Try.pinned (OpenSpec.upto deadOrderSpec)

/-- 'banyanlaw10.DeadKept', WHERE WHAT IT READS IS OF BULK AT MOST 1048576: true; the input reads as it did. -/
def deadKeptUptoRow : OpenClaim := { program := "ytceandgmpcpmfaa", sum := "d88602ecbd647dd549e560e69c0cf4516ce1c6081bddf8cda1a4958a7bfa3c4f", func := "banyan/banyanlaw10.DeadKept", spec := "deadKept", inPlace := ["slices.overlaps[banyan/api.Life]"], unfollowed := true, recurses := true, apart := false, narrowed := true }
def DeadKeptUptoSaid : Prop := deadKeptUptoRow.holds Try.pinned (OpenSpec.upto deadKeptSpec)

end Rows
end Go.Proofs.Ytceandgmpcpmfaa
