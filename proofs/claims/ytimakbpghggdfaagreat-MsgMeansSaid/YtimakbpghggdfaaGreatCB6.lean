/- Part of a proof: branch: children are read from bytes, by the document. -/
import Derived.Test.YtimakbpghggdfaaGreatCB5
namespace Go.Sx
open Go Go.Proofs
set_option maxRecDepth 10000
variable {w0 : World} {H : List Ck}
theorem by8_drop (xs : Bs) (p k : Nat) : by8 (xs.drop p) k = (xs.getD (p + k) 0).toNat := by
  simp [by8, List.getD_eq_getElem?_getD, List.getElem?_drop]
structure RdJ where
  i : Nat
  pa : Option Addr
  pc : Nat
structure RkJ where
  j : Nat
  p : Nat
  ka : Option Addr
  kc : Nat
  ks : List SB
end Go.Sx
