/- Part of a proof: merge.Check is made, and tells. -/
import Derived.Test.YtpnhoafmlhlfgaaGreatCMC
import Derived.Test.YtpnhoafmlhlfgaaGreatCMM
namespace Go.Sx
open Go Go.Proofs
set_option maxRecDepth 10000
variable {w0 : World} {H : List Ck}
theorem check_s {v : Value} (hv : v.oneCell' = true) {p : Option Addr} :
    FnS Tryz.prog w0 H 9 #[v, .pointer p] (fun v' H' => ∃ b2 b3, v' = .func (.func 36) #[] #[.pointer (some ⟨b3, 0, none⟩), .pointer (some ⟨b2, 0, none⟩)] ∧ H' = .hb b2 40 [v] :: .hb b3 53 [.pointer p] :: H) := by
  refine fns_enter Tryz.func9 rfl rfl rfl ?_
  refine sx ?_
  refine s_box1 rfl hv fun b2 => ?_
  refine sx ?_
  refine s_box1 rfl rfl fun b3 => ?_
  refine sx ?_
  exact s_ret1 rfl rfl ⟨b2, b3, rfl, rfl⟩
/-- So many rise, and the next one does not. -/
structure Rn (L : List (Bs × Bs)) (n : Nat) : Prop where
  le : n ≤ L.length
  up : ∀ j p q, j + 1 < n → L[j]? = some p → L[j + 1]? = some q → cmp p.1 q.1 < 0
  no : n < L.length → 0 < n ∧ ∀ p q, L[n - 1]? = some p → L[n]? = some q → ¬ cmp p.1 q.1 < 0
end Go.Sx

