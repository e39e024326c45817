/- Part of a proof: Apply, walked. -/
import Derived.Test.YtpnhoafmlhlfgaaGreatCOBj
import Derived.Test.YtpnhoafmlhlfgaaGreatCGIj
import Derived.Test.YtpnhoafmlhlfgaaGreatCMBj
namespace Go.Sx
open Go Go.Proofs
set_option maxRecDepth 10000
variable {w0 : World} {H : List Ck}
instance : NiT Tryz.prog 111 := ⟨by kernel_rfl⟩
instance : NiT Tryz.prog 114 := ⟨by kernel_rfl⟩
end Go.Sx

