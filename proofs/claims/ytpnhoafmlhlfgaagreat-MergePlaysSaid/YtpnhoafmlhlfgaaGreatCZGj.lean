/- Part of a proof: several parts of a walk, one behind the other. -/
import Derived.Test.YtpnhoafmlhlfgaaGreatCZE
import Derived.Test.YtpnhoafmlhlfgaaGreatCKB
import Derived.Deep.Upon
namespace Go.Sx
open Go Go.Proofs
set_option maxRecDepth 10000
variable {w0 : World} {H : List Ck}
end Go.Sx
namespace Go.Sx
open Go Go.Proofs
set_option maxRecDepth 10000
variable {w0 : World} {H : List Ck}
instance : OvT Tryz.prog 86 22 := ⟨4, fun args w => run_callFunc_extern Tryz.func86 (by kernel_rfl) (by kernel_rfl) (by kernel_rfl) (by kernel_rfl) args w⟩
abbrev kv0 : KV := ⟨none, 0, [], none, 0, []⟩
def RiE (l : List KV) : Prop := l.Pairwise fun a b => cmp a.k b.k < 0
theorem RiE.lt {l : List KV} (h : RiE l) {i j : Nat} {a b : KV} (hij : i < j) (ha : l[i]? = some a) (hb : l[j]? = some b) : cmp a.k b.k < 0 := by
  obtain ⟨h1, e1⟩ := List.getElem?_eq_some_iff.1 ha
  obtain ⟨h2, e2⟩ := List.getElem?_eq_some_iff.1 hb
  rw [← e1, ← e2]
  exact List.pairwise_iff_getElem.1 h i j h1 h2 hij
/-- Where a key is among entries that rise. -/
structure At1 (xs : List KV) (key : Bs) (i : Nat) (is : Bool) : Prop where
  le : i ≤ xs.length
  lo : ∀ k y, k < i → xs[k]? = some y → cmp y.k key < 0
  hi : ∀ k y, i ≤ k → xs[k]? = some y → 0 ≤ cmp y.k key
  is : is = true ↔ ∃ y, xs[i]? = some y ∧ y.k = key
section
variable {M : Md} {P : Program} {n : Nat} {ds : Dx} {ops : Array Oper} {Q : Exit → Act → World → Prop} {rest : Tr} {l : List (Nat × Value)} {b : Bool} {ty : TypeId} {pos : String} {af : Array Edge} {g : Option (Nat × Bool)}
variable {α : Type} [Cel α]
end
end Go.Sx

