/- Part of a proof: two stretches of entries that rise are merged, by Go's own library: as a whole. -/
import Derived.Test.YtpnhoafmlhlfgaaGreatCZDj
namespace Go.Sx
open Go Go.Proofs
set_option maxRecDepth 10000
variable {w0 : World} {H : List Ck}
end Go.Sx

