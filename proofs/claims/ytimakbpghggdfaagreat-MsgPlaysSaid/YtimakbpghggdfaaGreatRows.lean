/-
  No cell of these rows narrows 'for every input' (looked for: loops, veiled, ifaces, maps, wideKeys, modest, calm, conditions, laid).
  DERIVED. THE GIVEN ROWS OF THIS SEAT. 4 by the template 'for every input the law returns true; each argument reads behind the call as it read before'; 0 by the template 'total and deterministic' (their statements: YtimakbpghggdfaaGreatTotals.lean).
  GIVEN WITH THE SEED: the statements are not yours to turn. If you find one false, say at which input.
  Laid BY PROGRAM, IN A SANDBOX (cutbox-rows.mjs): the forced cells as the released guide's own fill.sh prints them over the translation 76694feee394b75b… (all of the seat's roots in one cut). By AI agents, Wed Nov 11 2026. No macro, syntax, notation, axiom, sorry.
-/
import Derived.Test.YtimakbpghggdfaaGreatChecked
import GoSem.Claim
import GoSem.ClaimJoined
import GoSem.ClaimMapViews
import Derived.JoinedTies
import Derived.KernelRfl
namespace Go.Proofs.YtimakbpghggdfaaGreat
/- THE CELL 'sum', in the pinned program and in every row, IS THE sha256 OF THE DUMP (.gsa) THAT YtimakbpghggdfaaGreatProg.lean LOADS. Nothing in Lean hashes anything: it is a label: what it is worth is what the hold of that sum in a sandbox is worth. -/
noncomputable def Tryz.pinned : Pinned := { name := "ytimakbpghggdfaagreat", sum := "76694feee394b75ba4456cb905b041ef54fe7c5245b45b88909c4cc3df3b3a6d", checked := Tryz.checked }
namespace Rows
def none {H : Type} : Left H := { results := [], args := [] }

/-- 'banyanlaw07.MsgOneByOne': WHATEVER THE INPUT: true; the input reads as it did. -/
def msgOneByOneSpec : ChangeSpec := { name := "msgOneByOne", fn := fun _ => fun
  | [d1, d2, d3] => { results := [.lit (.bool true)], args := [d1, d2, d3] }
  | _ => none }
def msgOneByOneRow : OpenClaim := { program := "ytimakbpghggdfaagreat", sum := "76694feee394b75ba4456cb905b041ef54fe7c5245b45b88909c4cc3df3b3a6d", func := "banyan/banyanlaw07.MsgOneByOne", spec := "msgOneByOne", inPlace := ["slices.overlaps[banyan/api.Entry]"], unfollowed := true, recurses := true, apart := false }
def MsgOneByOneSaid : Prop := msgOneByOneRow.holds Tryz.pinned (OpenSpec.ofChange msgOneByOneSpec)

/-- ITS FALSE NEIGHBOUR: 'it returns false'. Refute it at one input. -/
def msgOneByOneWrong : ChangeSpec := { name := "msgOneByOne", fn := fun _ => fun
  | [d1, d2, d3] => { results := [.lit (.bool false)], args := [d1, d2, d3] }
  | _ => none }
def MsgOneByOneWrongFalsely : Prop := msgOneByOneRow.holds Tryz.pinned (OpenSpec.ofChange msgOneByOneWrong)

/-- 'banyanlaw07.MsgMeans': WHATEVER THE INPUT: true; the input reads as it did. -/
def msgMeansSpec : ChangeSpec := { name := "msgMeans", fn := fun _ => fun
  | [d1, d2, d3, d4] => { results := [.lit (.bool true)], args := [d1, d2, d3, d4] }
  | _ => none }
def msgMeansRow : OpenClaim := { program := "ytimakbpghggdfaagreat", sum := "76694feee394b75ba4456cb905b041ef54fe7c5245b45b88909c4cc3df3b3a6d", func := "banyan/banyanlaw07.MsgMeans", spec := "msgMeans", inPlace := ["slices.overlaps[banyan/api.Entry]"], unfollowed := true, recurses := true, apart := false }
def MsgMeansSaid : Prop := msgMeansRow.holds Tryz.pinned (OpenSpec.ofChange msgMeansSpec)

/-- ITS FALSE NEIGHBOUR: 'it returns false'. Refute it at one input. -/
def msgMeansWrong : ChangeSpec := { name := "msgMeans", fn := fun _ => fun
  | [d1, d2, d3, d4] => { results := [.lit (.bool false)], args := [d1, d2, d3, d4] }
  | _ => none }
def MsgMeansWrongFalsely : Prop := msgMeansRow.holds Tryz.pinned (OpenSpec.ofChange msgMeansWrong)

/-- 'banyanlaw07.MsgParts': WHATEVER THE INPUT: true; the input reads as it did. -/
def msgPartsSpec : ChangeSpec := { name := "msgParts", fn := fun _ => fun
  | [d1, d2, d3, d4, d5] => { results := [.lit (.bool true)], args := [d1, d2, d3, d4, d5] }
  | _ => none }
def msgPartsRow : OpenClaim := { program := "ytimakbpghggdfaagreat", sum := "76694feee394b75ba4456cb905b041ef54fe7c5245b45b88909c4cc3df3b3a6d", func := "banyan/banyanlaw07.MsgParts", spec := "msgParts", inPlace := ["slices.overlaps[banyan/api.Entry]"], unfollowed := true, recurses := true, apart := false }
def MsgPartsSaid : Prop := msgPartsRow.holds Tryz.pinned (OpenSpec.ofChange msgPartsSpec)

/-- ITS FALSE NEIGHBOUR: 'it returns false'. Refute it at one input. -/
def msgPartsWrong : ChangeSpec := { name := "msgParts", fn := fun _ => fun
  | [d1, d2, d3, d4, d5] => { results := [.lit (.bool false)], args := [d1, d2, d3, d4, d5] }
  | _ => none }
def MsgPartsWrongFalsely : Prop := msgPartsRow.holds Tryz.pinned (OpenSpec.ofChange msgPartsWrong)

/-- 'banyanlaw07.MsgPlays': WHATEVER THE INPUT: true; the input reads as it did. -/
def msgPlaysSpec : ChangeSpec := { name := "msgPlays", fn := fun _ => fun
  | [d] => { results := [.lit (.bool true)], args := [d] }
  | _ => none }
def msgPlaysRow : OpenClaim := { program := "ytimakbpghggdfaagreat", sum := "76694feee394b75ba4456cb905b041ef54fe7c5245b45b88909c4cc3df3b3a6d", func := "banyan/banyanlaw07.MsgPlays", spec := "msgPlays", inPlace := ["slices.overlaps[banyan/api.Entry]"], unfollowed := true, recurses := true, apart := false }
def MsgPlaysSaid : Prop := msgPlaysRow.holds Tryz.pinned (OpenSpec.ofChange msgPlaysSpec)

/-- ITS FALSE NEIGHBOUR: 'it returns false'. Refute it at one input. -/
def msgPlaysWrong : ChangeSpec := { name := "msgPlays", fn := fun _ => fun
  | [d] => { results := [.lit (.bool false)], args := [d] }
  | _ => none }
def MsgPlaysWrongFalsely : Prop := msgPlaysRow.holds Tryz.pinned (OpenSpec.ofChange msgPlaysWrong)

/- THE SECOND FORM. 'bulk': how many values and letters a reading holds, each counted each time it is reached (what is shared counts as often as it is met; a slice's spare places count too). A statement '..UptoSaid' is the law's where the arguments, and the package variables that the reading takes, are together of bulk at most 1048576: NARROWER than '..Said'. Prove '..Said' where nothing that the law and all that it calls make is longer than what came in: it says more and counts as full. Else prove '..UptoSaid'. A law counts once. -/
mutual
def uptoBulk {H : Type} : DataW H → Nat
  | .lit (.string bytes) => bytes.length + 1
  | .lit _ => 1
  | .nil => 1
  | .ptr d => uptoBulk d + 1
  | .slice elems spare => uptoBulkAll elems + uptoBulkAll spare + 1
  | .agg parts => uptoBulkAll parts + 1
  | .iface _ d => uptoBulk d + 1
  | .map entries => uptoBulkEntries entries + 1
  | .held _ => 1
def uptoBulkAll {H : Type} : List (DataW H) → Nat
  | [] => 0
  | d :: r => uptoBulk d + uptoBulkAll r
def uptoBulkEntries {H : Type} : List (Lit × DataW H) → Nat
  | [] => 0
  | x :: r => uptoBulkEntry x + uptoBulkEntries r
def uptoBulkEntry {H : Type} : Lit × DataW H → Nat
  | (.string bytes, d) => bytes.length + uptoBulk d + 1
  | (_, d) => uptoBulk d + 1
 end
def uptoSmall : (H : Type) → List (DataW H) → Bool := fun _ ds => decide (uptoBulkAll ds ≤ 1048576)
def OpenSpec.upto (s : _root_.Go.ChangeSpec) : _root_.Go.OpenSpec := { _root_.Go.OpenSpec.ofChange s with cond := some uptoSmall }

/-- 'banyanlaw07.MsgOneByOne', WHERE WHAT IT READS IS OF BULK AT MOST 1048576: true; the input reads as it did. -/
def msgOneByOneUptoRow : OpenClaim := { program := "ytimakbpghggdfaagreat", sum := "76694feee394b75ba4456cb905b041ef54fe7c5245b45b88909c4cc3df3b3a6d", func := "banyan/banyanlaw07.MsgOneByOne", spec := "msgOneByOne", inPlace := ["slices.overlaps[banyan/api.Entry]"], unfollowed := true, recurses := true, apart := false, narrowed := true }
def MsgOneByOneUptoSaid : Prop := msgOneByOneUptoRow.holds Tryz.pinned (OpenSpec.upto msgOneByOneSpec)

/-- 'banyanlaw07.MsgMeans', WHERE WHAT IT READS IS OF BULK AT MOST 1048576: true; the input reads as it did. -/
def msgMeansUptoRow : OpenClaim := { program := "ytimakbpghggdfaagreat", sum := "76694feee394b75ba4456cb905b041ef54fe7c5245b45b88909c4cc3df3b3a6d", func := "banyan/banyanlaw07.MsgMeans", spec := "msgMeans", inPlace := ["slices.overlaps[banyan/api.Entry]"], unfollowed := true, recurses := true, apart := false, narrowed := true }
def MsgMeansUptoSaid : Prop := msgMeansUptoRow.holds Tryz.pinned (OpenSpec.upto msgMeansSpec)

/-- 'banyanlaw07.MsgParts', WHERE WHAT IT READS IS OF BULK AT MOST 1048576: true; the input reads as it did. -/
def msgPartsUptoRow : OpenClaim := { program := "ytimakbpghggdfaagreat", sum := "76694feee394b75ba4456cb905b041ef54fe7c5245b45b88909c4cc3df3b3a6d", func := "banyan/banyanlaw07.MsgParts", spec := "msgParts", inPlace := ["slices.overlaps[banyan/api.Entry]"], unfollowed := true, recurses := true, apart := false, narrowed := true }
def MsgPartsUptoSaid : Prop := msgPartsUptoRow.holds Tryz.pinned (OpenSpec.upto msgPartsSpec)

/-- 'banyanlaw07.MsgPlays', WHERE WHAT IT READS IS OF BULK AT MOST 1048576: true; the input reads as it did. -/
def msgPlaysUptoRow : OpenClaim := { program := "ytimakbpghggdfaagreat", sum := "76694feee394b75ba4456cb905b041ef54fe7c5245b45b88909c4cc3df3b3a6d", func := "banyan/banyanlaw07.MsgPlays", spec := "msgPlays", inPlace := ["slices.overlaps[banyan/api.Entry]"], unfollowed := true, recurses := true, apart := false, narrowed := true }
def MsgPlaysUptoSaid : Prop := msgPlaysUptoRow.holds Tryz.pinned (OpenSpec.upto msgPlaysSpec)

end Rows
end Go.Proofs.YtimakbpghggdfaaGreat
