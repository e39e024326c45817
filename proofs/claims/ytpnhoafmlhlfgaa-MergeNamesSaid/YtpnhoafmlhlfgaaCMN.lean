/- Part of a proof: MergeNames, walked. -/
import Derived.Test.YtpnhoafmlhlfgaaCML
import Derived.Test.YtpnhoafmlhlfgaaCKB
namespace Go.Sx
open Go Go.Proofs
set_option maxRecDepth 10000
variable {w0 : World} {H : List Ck}
theorem gnames_s : FnS Try.prog w0 H 3 #[] (fun v K => v = .bool true ∧ K = H) := by
  refine fns_enter (args := []) Try.func3 rfl rfl rfl ?_
  refine sx ?_
  refine s_call rfl gawake_s ?_
  rintro _ _ ⟨rfl, rfl⟩
  refine ⟨chk_seq, ?_⟩
  refine sx ?_
  exact s_ret1 rfl rfl ⟨rfl, rfl⟩
end Go.Sx
