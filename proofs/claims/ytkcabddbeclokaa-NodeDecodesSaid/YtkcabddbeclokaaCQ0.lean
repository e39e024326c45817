/- Part of a proof: keys and ranges by the document: Compare, Less, Copy, Empty, Has, Form, Meet. -/
import Derived.Test.YtkcabddbeclokaaCO2
namespace Go.Sx
open Go Go.Proofs
set_option maxRecDepth 10000
variable {w0 : World} {H : List Ck}
theorem qcmp_s {a a' : Option Addr} {c c' : Nat} {xs ys : Bs} (ha : RBy w0 H a c xs) (hb : RBy w0 H a' c' ys) : FnV Try.prog w0 H 133 #[.slice a xs.length c, .slice a' ys.length c'] (.int .i64 (cmp xs ys)) := by
  refine fns_enter Try.func133 rfl rfl rfl ?_
  refine s_kn (Kn.by ha) fun l1 => s_kn (Kn.by hb) fun l2 => ?_
  simp only [maxLen] at l1 l2
  have hc := cmp_common xs ys
  refine sx ?_
  refine s_loop (fun k : Nat => [(0, .slice a xs.length c), (1, .slice a' ys.length c'), (5, .int .i64 ((min xs.length ys.length : Nat) : Int)), (6, .int .i64 k)]) (fun _ => H) (fun k => k ≤ xs.length ∧ k ≤ ys.length ∧ ∀ i, i < k → xs.getD i 0 = ys.getD i 0) (fun k => xs.length - k) 0 ⟨Nat.zero_le _, Nat.zero_le _, fun i hi => absurd hi (Nat.not_lt_zero _)⟩ ?_
  rintro k ⟨h1, h2, h3⟩
  refine sx ?_
  refine s_if rfl (fun t1 => ?_) (fun t1 => ?_)
  · refine sx ?_; refine s_dr (.one true 0 (.one true 1 (.one true 2 (.one true 3 (.one true 4 (.one true 5 (.one true 6 (.one true 7 (.one true 8 .nil))))))))) mixed (by kernel_rfl) ?_; refine sx ?_
    refine s_if rfl (fun t2 => ?_) (fun t2 => ?_)
    · have hne : xs.getD k 0 ≠ ys.getD k 0 := fun e => by rw [e] at t2; exact absurd t2 (by simp)
      have hk := common_eq xs ys k (by omega) (by omega) h3 (.inr (.inr hne))
      refine sx ?_
      refine s_ret1 rfl rfl ⟨?_, rfl⟩
      rw [hc, hk, if_neg (by omega), if_neg (by omega), if_neg]
      rintro (h | h)
      · omega
      · exact absurd (UInt8.lt_asymm h) (by simpa [UInt8.lt_iff_toNat_lt] using t2)
    refine sx ?_; refine s_dr (.one true 0 (.one true 1 (.one true 2 (.one true 3 (.one true 4 (.one true 5 (.one true 6 (.one true 7 (.one true 8 .nil))))))))) mixed (by kernel_rfl) ?_; refine sx ?_
    refine s_if rfl (fun t3 => ?_) (fun t3 => ?_)
    · have hne : xs.getD k 0 ≠ ys.getD k 0 := fun e => by rw [e] at t3; exact absurd t3 (by simp)
      have hk := common_eq xs ys k (by omega) (by omega) h3 (.inr (.inr hne))
      refine sx ?_
      refine s_ret1 rfl rfl ⟨?_, rfl⟩
      rw [hc, hk, if_neg (by omega), if_neg (by omega), if_pos (.inr (by simpa [UInt8.lt_iff_toNat_lt] using t3))]
    · have he : xs.getD k 0 = ys.getD k 0 := by
        apply UInt8.toNat_inj.1
        simp only [UInt8.lt_iff_toNat_lt] at t2 t3
        omega
      refine sx ?_
      refine s_again (k + 1) ⟨by omega, by omega, fun i hi => ?_⟩ (by omega)
      rcases Nat.lt_or_eq_of_le (Nat.lt_succ_iff.1 hi) with h | rfl
      · exact h3 i h
      · exact he
  have hk := common_eq xs ys k (by omega) (by omega) h3 (by omega)
  refine sx ?_
  refine s_if rfl (fun t2 => ?_) (fun t2 => ?_)
  · refine sx ?_
    refine s_ret1 rfl rfl ⟨?_, rfl⟩
    rw [hc, hk, if_neg (by omega), if_pos (by omega)]
  refine sx ?_
  refine s_if rfl (fun t3 => ?_) (fun t3 => ?_)
  · refine sx ?_
    refine s_ret1 rfl rfl ⟨?_, rfl⟩
    rw [hc, hk, if_neg (by omega), if_neg (by omega), if_pos (.inl (by omega))]
  · refine sx ?_
    refine s_ret1 rfl rfl ⟨?_, rfl⟩
    rw [hc, hk, if_pos (by omega)]
theorem qless_s {a a' : Option Addr} {c c' : Nat} {xs ys : Bs} (ha : RBy w0 H a c xs) (hb : RBy w0 H a' c' ys) : FnV Try.prog w0 H 132 #[.slice a xs.length c, .slice a' ys.length c'] (.bool (decide (cmp xs ys < 0))) := by
  refine fns_enter Try.func132 rfl rfl rfl ?_
  refine sx ?_
  refine s_callV rfl (qcmp_s ha hb) ?_
  refine sx ?_
  exact s_ret1 rfl rfl ⟨rfl, rfl⟩
theorem qcopy_s {a : Option Addr} {c : Nat} {xs : Bs} (ha : RBy w0 H a c xs) (hx : xs.length ≤ 140737488355328) : FnS Try.prog w0 H 115 #[.slice a xs.length c] (fun v H' => ∃ a' , v = .slice a' xs.length xs.length ∧ H' = ob a' xs.length xs :: H) := by
  refine fns_enter Try.func115 rfl rfl rfl ?_
  refine sx ?_
  refine s_make rfl rfl (by omega) fun b => ?_
  refine sx ?_
  refine s_copy rfl rfl ?_ (ys := xs) (hk0 := by simp)
  have e : xs.take (List.replicate xs.length (0 : UInt8)).length ++ (List.replicate xs.length (0 : UInt8)).drop xs.length = xs := by simp
  rw [e]
  refine sx ?_
  exact s_ret1 rfl rfl ⟨_, rfl, rfl⟩
end Go.Sx
