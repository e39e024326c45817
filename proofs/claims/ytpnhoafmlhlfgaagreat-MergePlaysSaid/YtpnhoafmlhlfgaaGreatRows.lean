/-
  No cell of these rows narrows 'for every input' (looked for: loops, veiled, ifaces, maps, wideKeys, modest, calm, conditions, laid).
  DERIVED. THE GIVEN ROWS OF THIS SEAT. 2 by the template 'for every input the law returns true; each argument reads behind the call as it read before'; 0 by the template 'total and deterministic' (their statements: YtpnhoafmlhlfgaaGreatTotals.lean).
  GIVEN WITH THE SEED: the statements are not yours to turn. If you find one false, say at which input.
  Laid BY PROGRAM, IN A SANDBOX (cutbox-rows.mjs): the forced cells as the released guide's own fill.sh prints them over the translation e1974c2e5c38e77d… (all of the seat's roots in one cut). By AI agents, Wed Nov 11 2026. No macro, syntax, notation, axiom, sorry.
-/
import Derived.Test.YtpnhoafmlhlfgaaGreatChecked
import GoSem.Claim
import GoSem.ClaimJoined
import GoSem.ClaimMapViews
import Derived.JoinedTies
import Derived.KernelRfl
namespace Go.Proofs.YtpnhoafmlhlfgaaGreat
/- THE CELL 'sum', in the pinned program and in every row, IS THE sha256 OF THE DUMP (.gsa) THAT YtpnhoafmlhlfgaaGreatProg.lean LOADS. Nothing in Lean hashes anything: it is a label: what it is worth is what the hold of that sum in a sandbox is worth. -/
noncomputable def Tryz.pinned : Pinned := { name := "ytpnhoafmlhlfgaagreat", sum := "e1974c2e5c38e77d70cadf56b33ab3d91a71db55fcc20304657e21e80497b584", checked := Tryz.checked }
namespace Rows
def none {H : Type} : Left H := { results := [], args := [] }

/-- 'banyanlaw13.MergePlays': WHATEVER THE INPUT: true; the input reads as it did. -/
def mergePlaysSpec : ChangeSpec := { name := "mergePlays", fn := fun _ => fun
  | [d1, d2, d3, d4] => { results := [.lit (.bool true)], args := [d1, d2, d3, d4] }
  | _ => none }
def mergePlaysRow : OpenClaim := { program := "ytpnhoafmlhlfgaagreat", sum := "e1974c2e5c38e77d70cadf56b33ab3d91a71db55fcc20304657e21e80497b584", func := "banyan/banyanlaw13.MergePlays", spec := "mergePlays", unfollowed := true, recurses := true, apart := false }
def MergePlaysSaid : Prop := mergePlaysRow.holds Tryz.pinned (OpenSpec.ofChange mergePlaysSpec)

/-- ITS FALSE NEIGHBOUR: 'it returns false'. Refute it at one input. -/
def mergePlaysWrong : ChangeSpec := { name := "mergePlays", fn := fun _ => fun
  | [d1, d2, d3, d4] => { results := [.lit (.bool false)], args := [d1, d2, d3, d4] }
  | _ => none }
def MergePlaysWrongFalsely : Prop := mergePlaysRow.holds Tryz.pinned (OpenSpec.ofChange mergePlaysWrong)

/-- 'banyanlaw13.MergeWith': WHATEVER THE INPUT: true; the input reads as it did. -/
def mergeWithSpec : ChangeSpec := { name := "mergeWith", fn := fun _ => fun
  | [d1, d2, d3, d4] => { results := [.lit (.bool true)], args := [d1, d2, d3, d4] }
  | _ => none }
def mergeWithRow : OpenClaim := { program := "ytpnhoafmlhlfgaagreat", sum := "e1974c2e5c38e77d70cadf56b33ab3d91a71db55fcc20304657e21e80497b584", func := "banyan/banyanlaw13.MergeWith", spec := "mergeWith", inPlace := ["slices.overlaps[banyan/api.Entry]"], unfollowed := true, recurses := true, apart := false }
def MergeWithSaid : Prop := mergeWithRow.holds Tryz.pinned (OpenSpec.ofChange mergeWithSpec)

/-- ITS FALSE NEIGHBOUR: 'it returns false'. Refute it at one input. -/
def mergeWithWrong : ChangeSpec := { name := "mergeWith", fn := fun _ => fun
  | [d1, d2, d3, d4] => { results := [.lit (.bool false)], args := [d1, d2, d3, d4] }
  | _ => none }
def MergeWithWrongFalsely : Prop := mergeWithRow.holds Tryz.pinned (OpenSpec.ofChange mergeWithWrong)

/- THE SECOND FORM. 'bulk': how many values and letters a reading holds, each counted each time it is reached (what is shared counts as often as it is met; a slice's spare places count too). A statement '..UptoSaid' is the law's where the arguments, and the package variables that the reading takes, are together of bulk at most 1048576: NARROWER than '..Said'. Prove '..Said' where nothing that the law and all that it calls make is longer than what came in: it says more and counts as full. Else prove '..UptoSaid'. A law counts once. -/
mutual
def uptoBulk {H : Type} : DataW H → Nat
  | .lit (.string bytes) => bytes.length + 1
  | .lit _ => 1
  | .nil => 1
  | .ptr d => uptoBulk d + 1
  | .slice elems spare => uptoBulkAll elems + uptoBulkAll spare + 1
  | .agg parts => uptoBulkAll parts + 1
  | .iface _ d => uptoBulk d + 1
  | .map entries => uptoBulkEntries entries + 1
  | .held _ => 1
def uptoBulkAll {H : Type} : List (DataW H) → Nat
  | [] => 0
  | d :: r => uptoBulk d + uptoBulkAll r
def uptoBulkEntries {H : Type} : List (Lit × DataW H) → Nat
  | [] => 0
  | x :: r => uptoBulkEntry x + uptoBulkEntries r
def uptoBulkEntry {H : Type} : Lit × DataW H → Nat
  | (.string bytes, d) => bytes.length + uptoBulk d + 1
  | (_, d) => uptoBulk d + 1
 end
def uptoSmall : (H : Type) → List (DataW H) → Bool := fun _ ds => decide (uptoBulkAll ds ≤ 1048576)
def OpenSpec.upto (s : _root_.Go.ChangeSpec) : _root_.Go.OpenSpec := { _root_.Go.OpenSpec.ofChange s with cond := some uptoSmall }

/-- 'banyanlaw13.MergePlays', WHERE WHAT IT READS IS OF BULK AT MOST 1048576: true; the input reads as it did. -/
def mergePlaysUptoRow : OpenClaim := { program := "ytpnhoafmlhlfgaagreat", sum := "e1974c2e5c38e77d70cadf56b33ab3d91a71db55fcc20304657e21e80497b584", func := "banyan/banyanlaw13.MergePlays", spec := "mergePlays", unfollowed := true, recurses := true, apart := false, narrowed := true }
def MergePlaysUptoSaid : Prop := mergePlaysUptoRow.holds Tryz.pinned (OpenSpec.upto mergePlaysSpec)

/-- 'banyanlaw13.MergeWith', WHERE WHAT IT READS IS OF BULK AT MOST 1048576: true; the input reads as it did. -/
def mergeWithUptoRow : OpenClaim := { program := "ytpnhoafmlhlfgaagreat", sum := "e1974c2e5c38e77d70cadf56b33ab3d91a71db55fcc20304657e21e80497b584", func := "banyan/banyanlaw13.MergeWith", spec := "mergeWith", inPlace := ["slices.overlaps[banyan/api.Entry]"], unfollowed := true, recurses := true, apart := false, narrowed := true }
def MergeWithUptoSaid : Prop := mergeWithUptoRow.holds Tryz.pinned (OpenSpec.upto mergeWithSpec)

end Rows
end Go.Proofs.YtpnhoafmlhlfgaaGreat
