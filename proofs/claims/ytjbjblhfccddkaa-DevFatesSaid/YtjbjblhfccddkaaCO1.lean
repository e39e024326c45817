/- Part of a proof: order.Common and order.Compare, walked. -/
import Derived.Test.YtjbjblhfccddkaaCKB
namespace Go.Sx
open Go Go.Proofs
set_option maxRecDepth 10000
/-- A range, as a struct's cells. -/
structure Rg where
  la : Option Addr
  lc : Nat
  lo : Bs
  ha : Option Addr
  hc : Nat
  hi : Bs
  all : Bool
def Rg.cells (r : Rg) : List Value := [.slice r.la r.lo.length r.lc, .slice r.ha r.hi.length r.hc, .bool r.all]
section
variable {w0 : World} {H : List Ck}
@[reducible] def ob (a : Option Addr) (c : Nat) (xs : Bs) : Ck := ol 5 a c xs
abbrev I64 (x : Int) : Prop := -9223372036854775808 ≤ x ∧ x ≤ 9223372036854775807
variable {a a' : Option Addr} {c c' : Nat} {xs ys : Bs}
end
end Go.Sx
