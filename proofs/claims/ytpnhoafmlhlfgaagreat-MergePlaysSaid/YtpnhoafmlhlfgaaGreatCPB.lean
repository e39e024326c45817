/- Part of a proof: entries that are lent, with marks behind them; their owner writes over them. -/
import Derived.Test.YtpnhoafmlhlfgaaGreatCSWOj
import Derived.Test.YtpnhoafmlhlfgaaGreatCKB
namespace Go.Sx
open Go Go.Proofs
set_option maxRecDepth 10000
variable {w0 : World} {H : List Ck}
theorem lm_by {xs : Bs} {a : Option Addr} {c : Nat} : RBy w0 (ob a c (lm xs) :: H) a c xs := by
  have := (RBy.hd (w0 := w0) (E := 5) (a := a) (c := c) (xs := lm xs) (H := H)).take (k := xs.length) (by simp)
  rwa [lm, List.take_left] at this
end Go.Sx

