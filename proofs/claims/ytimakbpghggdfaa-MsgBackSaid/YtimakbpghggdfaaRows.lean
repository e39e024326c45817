/-
  No cell of these rows narrows 'for every input' (looked for: loops, veiled, ifaces, maps, wideKeys, modest, calm, conditions, laid).
  DERIVED. THE GIVEN ROWS OF THIS SEAT. 3 by the template 'for every input the law returns true; each argument reads behind the call as it read before'; 0 by the template 'total and deterministic' (their statements: YtimakbpghggdfaaTotals.lean).
  GIVEN WITH THE SEED: the statements are not yours to turn. If you find one false, say at which input.
  Laid BY PROGRAM, IN A SANDBOX (cutbox-rows.mjs): the forced cells as the released guide's own fill.sh prints them over the translation 8614f655ae593de1… (all of the seat's roots in one cut). By AI agents, Wed Nov 11 2026. No macro, syntax, notation, axiom, sorry.
-/
import Derived.Test.YtimakbpghggdfaaChecked
import GoSem.Claim
import GoSem.ClaimJoined
import GoSem.ClaimMapViews
import Derived.JoinedTies
import Derived.KernelRfl
namespace Go.Proofs.Ytimakbpghggdfaa
/- THE CELL 'sum', in the pinned program and in every row, IS THE sha256 OF THE DUMP (.gsa) THAT YtimakbpghggdfaaProg.lean LOADS. Nothing in Lean hashes anything: it is a label: what it is worth is what the hold of that sum in a sandbox is worth. -/
noncomputable def Try.pinned : Pinned := { name := "ytimakbpghggdfaa", sum := "8614f655ae593de13f3bb51c787e7f7c53f6adecfc6c2b20ead49c490b8856ca", checked := Try.checked }
namespace Rows
def none {H : Type} : Left H := { results := [], args := [] }

/-- 'banyanlaw07.MsgNames': WHATEVER THE INPUT: true; the input reads as it did. -/
def msgNamesSpec : ChangeSpec := { name := "msgNames", fn := fun _ => fun
  | [] => { results := [.lit (.bool true)], args := [] }
  | _ => none }
def msgNamesRow : OpenClaim := { program := "ytimakbpghggdfaa", sum := "8614f655ae593de13f3bb51c787e7f7c53f6adecfc6c2b20ead49c490b8856ca", func := "banyan/banyanlaw07.MsgNames", spec := "msgNames", unfollowed := true, recurses := true, apart := false }
def MsgNamesSaid : Prop := msgNamesRow.holds Try.pinned (OpenSpec.ofChange msgNamesSpec)

/-- ITS FALSE NEIGHBOUR: 'it returns false'. Refute it at one input. -/
def msgNamesWrong : ChangeSpec := { name := "msgNames", fn := fun _ => fun
  | [] => { results := [.lit (.bool false)], args := [] }
  | _ => none }
def MsgNamesWrongFalsely : Prop := msgNamesRow.holds Try.pinned (OpenSpec.ofChange msgNamesWrong)

/-- 'banyanlaw07.MsgForm': WHATEVER THE INPUT: true; the input reads as it did. -/
def msgFormSpec : ChangeSpec := { name := "msgForm", fn := fun _ => fun
  | [d1, d2] => { results := [.lit (.bool true)], args := [d1, d2] }
  | _ => none }
def msgFormRow : OpenClaim := { program := "ytimakbpghggdfaa", sum := "8614f655ae593de13f3bb51c787e7f7c53f6adecfc6c2b20ead49c490b8856ca", func := "banyan/banyanlaw07.MsgForm", spec := "msgForm", unfollowed := true, recurses := true, apart := false }
def MsgFormSaid : Prop := msgFormRow.holds Try.pinned (OpenSpec.ofChange msgFormSpec)

/-- ITS FALSE NEIGHBOUR: 'it returns false'. Refute it at one input. -/
def msgFormWrong : ChangeSpec := { name := "msgForm", fn := fun _ => fun
  | [d1, d2] => { results := [.lit (.bool false)], args := [d1, d2] }
  | _ => none }
def MsgFormWrongFalsely : Prop := msgFormRow.holds Try.pinned (OpenSpec.ofChange msgFormWrong)

/-- 'banyanlaw07.MsgBack': WHATEVER THE INPUT: true; the input reads as it did. -/
def msgBackSpec : ChangeSpec := { name := "msgBack", fn := fun _ => fun
  | [d1, d2, d3, d4, d5] => { results := [.lit (.bool true)], args := [d1, d2, d3, d4, d5] }
  | _ => none }
def msgBackRow : OpenClaim := { program := "ytimakbpghggdfaa", sum := "8614f655ae593de13f3bb51c787e7f7c53f6adecfc6c2b20ead49c490b8856ca", func := "banyan/banyanlaw07.MsgBack", spec := "msgBack", unfollowed := true, recurses := true, apart := false }
def MsgBackSaid : Prop := msgBackRow.holds Try.pinned (OpenSpec.ofChange msgBackSpec)

/-- ITS FALSE NEIGHBOUR: 'it returns false'. Refute it at one input. -/
def msgBackWrong : ChangeSpec := { name := "msgBack", fn := fun _ => fun
  | [d1, d2, d3, d4, d5] => { results := [.lit (.bool false)], args := [d1, d2, d3, d4, d5] }
  | _ => none }
def MsgBackWrongFalsely : Prop := msgBackRow.holds Try.pinned (OpenSpec.ofChange msgBackWrong)

/- THE SECOND FORM. 'bulk': how many values and letters a reading holds, each counted each time it is reached (what is shared counts as often as it is met; a slice's spare places count too). A statement '..UptoSaid' is the law's where the arguments, and the package variables that the reading takes, are together of bulk at most 1048576: NARROWER than '..Said'. Prove '..Said' where nothing that the law and all that it calls make is longer than what came in: it says more and counts as full. Else prove '..UptoSaid'. A law counts once. -/
mutual
def uptoBulk {H : Type} : DataW H → Nat
  | .lit (.string bytes) => bytes.length + 1
  | .lit _ => 1
  | .nil => 1
  | .ptr d => uptoBulk d + 1
  | .slice elems spare => uptoBulkAll elems + uptoBulkAll spare + 1
  | .agg parts => uptoBulkAll parts + 1
  | .iface _ d => uptoBulk d + 1
  | .map entries => uptoBulkEntries entries + 1
  | .held _ => 1
def uptoBulkAll {H : Type} : List (DataW H) → Nat
  | [] => 0
  | d :: r => uptoBulk d + uptoBulkAll r
def uptoBulkEntries {H : Type} : List (Lit × DataW H) → Nat
  | [] => 0
  | x :: r => uptoBulkEntry x + uptoBulkEntries r
def uptoBulkEntry {H : Type} : Lit × DataW H → Nat
  | (.string bytes, d) => bytes.length + uptoBulk d + 1
  | (_, d) => uptoBulk d + 1
 end
def uptoSmall : (H : Type) → List (DataW H) → Bool := fun _ ds => decide (uptoBulkAll ds ≤ 1048576)
def OpenSpec.upto (s : _root_.Go.ChangeSpec) : _root_.Go.OpenSpec := { _root_.Go.OpenSpec.ofChange s with cond := some uptoSmall }

/-- 'banyanlaw07.MsgNames', WHERE WHAT IT READS IS OF BULK AT MOST 1048576: true; the input reads as it did. -/
def msgNamesUptoRow : OpenClaim := { program := "ytimakbpghggdfaa", sum := "8614f655ae593de13f3bb51c787e7f7c53f6adecfc6c2b20ead49c490b8856ca", func := "banyan/banyanlaw07.MsgNames", spec := "msgNames", unfollowed := true, recurses := true, apart := false, narrowed := true }
def MsgNamesUptoSaid : Prop := msgNamesUptoRow.holds Try.pinned (OpenSpec.upto msgNamesSpec)

/-- 'banyanlaw07.MsgForm', WHERE WHAT IT READS IS OF BULK AT MOST 1048576: true; the input reads as it did. -/
def msgFormUptoRow : OpenClaim := { program := "ytimakbpghggdfaa", sum := "8614f655ae593de13f3bb51c787e7f7c53f6adecfc6c2b20ead49c490b8856ca", func := "banyan/banyanlaw07.MsgForm", spec := "msgForm", unfollowed := true, recurses := true, apart := false, narrowed := true }
def MsgFormUptoSaid : Prop := msgFormUptoRow.holds Try.pinned (OpenSpec.upto msgFormSpec)

/-- 'banyanlaw07.MsgBack', WHERE WHAT IT READS IS OF BULK AT MOST 1048576: true; the input reads as it did. -/
def msgBackUptoRow : OpenClaim := { program := "ytimakbpghggdfaa", sum := "8614f655ae593de13f3bb51c787e7f7c53f6adecfc6c2b20ead49c490b8856ca", func := "banyan/banyanlaw07.MsgBack", spec := "msgBack", unfollowed := true, recurses := true, apart := false, narrowed := true }
def MsgBackUptoSaid : Prop := msgBackUptoRow.holds Try.pinned (OpenSpec.upto msgBackSpec)

end Rows
end Go.Proofs.Ytimakbpghggdfaa
