/- Part of a proof: several parts of a walk, one behind the other. -/
import Derived.Test.YtpnhoafmlhlfgaaGreatCZBj
namespace Go.Sx
open Go Go.Proofs
set_option maxRecDepth 10000
variable {w0 : World} {H : List Ck}
end Go.Sx
namespace Go.Sx
open Go Go.Proofs
set_option maxRecDepth 10000
variable {w0 : World} {H : List Ck}
/-- What is asked ahead of a merge. -/
structure MgA (w0 : World) (H : List Ck) (p m q : Nat) (x A B z : List KV) : Prop where
  hp : p = x.length
  hm : m = x.length + A.length
  hq : q = x.length + A.length + B.length
  a0 : 0 < A.length
  b0 : 0 < B.length
  aA : Asc A
  aB : Asc B
  hr : ∀ e ∈ A ++ B, RBy w0 H e.ka e.kc e.k
  hl : x.length + A.length + B.length + z.length ≤ 1099511627776
theorem MgA.at {p m q : Nat} {x A B z : List KV} (h : MgA w0 H p m q x A B z) {xs : List KV} (hxs : xs = x ++ (A ++ (B ++ z))) :
    xs.length = p + A.length + B.length + z.length ∧ (∀ i, i < A.length → xs[p + i]? = A[i]?) ∧ (∀ i, i < B.length → xs[m + i]? = B[i]?) := by
  have h1 := h.hp
  have h2 := h.hm
  subst hxs
  refine ⟨by simp only [List.length_append]; omega, fun i hi => ?_, fun i hi => ?_⟩
  · rw [List.getElem?_append_right (by omega), List.getElem?_append_left (by omega)]
    congr 1; omega
  · rw [List.getElem?_append_right (by omega), List.getElem?_append_right (by omega), List.getElem?_append_left (by omega)]
    congr 1; omega
end Go.Sx

