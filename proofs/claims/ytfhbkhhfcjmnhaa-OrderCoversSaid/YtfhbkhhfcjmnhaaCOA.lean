/- Part of a proof: keys and ranges: Next, Between, Has, Inside, Minus, by the program and by the document, walked. -/
import Derived.Test.YtfhbkhhfcjmnhaaCQA
import Derived.Test.YtfhbkhhfcjmnhaaCQC
import Derived.Test.YtfhbkhhfcjmnhaaCH1
namespace Go.Sx
open Go Go.Proofs
set_option maxRecDepth 10000
variable {w0 : World} {H : List Ck}
theorem onext_s {a : Option Addr} {c : Nat} {xs : Bs} (ha : RBy w0 H a c xs) (hx : xs.length ≤ 140737488355327) : FnS Try.prog w0 H 29 #[.slice a xs.length c] (fun v H' => ∃ a' c', v = .slice a' (xs ++ [0]).length c' ∧ H' = ob a' c' (xs ++ [0]) :: H) := by
  refine fns_enter Try.func29 rfl rfl rfl ?_
  refine sx ?_
  refine s_rw (t := 6) (v' := .int .i64 ((xs.length + 1 : Nat) : Int)) rfl (ci (by omega)) ?_
  refine s_make rfl rfl (by omega) fun b => ?_
  refine sx ?_
  refine s_copy rfl rfl ?_ (ys := xs) (hk0 := by simp)
  have e : xs.take (List.replicate (xs.length + 1) (0 : UInt8)).length ++ (List.replicate (xs.length + 1) (0 : UInt8)).drop xs.length = xs ++ [0] := by
    rw [List.length_replicate, List.take_of_length_le (by omega), List.drop_replicate, show xs.length + 1 - xs.length = 1 by omega]
    rfl
  rw [e]
  refine sx ?_
  exact s_ret1 rfl rfl ⟨some b, xs.length + 1, by simp, rfl⟩
theorem qnext_s {a : Option Addr} {c : Nat} {xs : Bs} (ha : RBy w0 H a c xs) (hx : xs.length ≤ 140737488355327) : FnS Try.prog w0 H 48 #[.slice a xs.length c] (fun v H' => ∃ a' c', v = .slice a' (xs ++ [0]).length c' ∧ H' = ob a' c' (xs ++ [0]) :: H) := by
  refine fns_enter Try.func48 rfl rfl rfl ?_
  refine sx ?_
  refine s_rw (t := 6) (v' := .int .i64 ((xs.length + 1 : Nat) : Int)) rfl (ci (by omega)) ?_
  refine s_make rfl rfl (by omega) fun b => ?_
  refine sx ?_
  refine s_copy rfl rfl ?_ (ys := xs) (hk0 := by simp)
  have e : xs.take (List.replicate (xs.length + 1) (0 : UInt8)).length ++ (List.replicate (xs.length + 1) (0 : UInt8)).drop xs.length = xs ++ [0] := by
    rw [List.length_replicate, List.take_of_length_le (by omega), List.drop_replicate, show xs.length + 1 - xs.length = 1 by omega]
    rfl
  rw [e]
  refine sx ?_
  exact s_ret1 rfl rfl ⟨some b, xs.length + 1, by simp, rfl⟩
/-- What is told of two keys: what is between them. -/
def betK (a b : Bs) : Bs := if cmp a b < 0 then btw a b else []
def betE (a b : Bs) : Int := if cmp a b < 0 then 0 else 41
theorem qcommon_s {a a' : Option Addr} {c c' : Nat} {xs ys : Bs} (ha : RBy w0 H a c xs) (hb : RBy w0 H a' c' ys) : FnV Try.prog w0 H 52 #[.slice a xs.length c, .slice a' ys.length c'] (.int .i64 (common xs ys)) := by
  refine fns_enter Try.func52 rfl rfl rfl ?_
  refine s_kn (Kn.by ha) fun l1 => s_kn (Kn.by hb) fun l2 => ?_
  simp only [maxLen] at l1 l2
  refine sx ?_
  refine s_loop (fun k : Nat => [(0, .slice a xs.length c), (1, .slice a' ys.length c'), (5, .int .i64 k)]) (fun _ => H) (fun k => k ≤ xs.length ∧ k ≤ ys.length ∧ ∀ i, i < k → xs.getD i 0 = ys.getD i 0) (fun k => xs.length - k) 0 ⟨Nat.zero_le _, Nat.zero_le _, fun i h => absurd h (Nat.not_lt_zero _)⟩ ?_
  rintro k ⟨h1, h2, h3⟩
  by_cases hk : k < xs.length ∧ k < ys.length
  · refine s_kn (RSl.some ha.sl' (by omega)) ?_
    rintro ⟨ad, rfl⟩
    refine s_kn (RSl.some hb.sl' (by omega)) ?_
    rintro ⟨ad', rfl⟩
    refine sx ?_; refine s_dr (.one true 0 (.one true 1 (.one true 2 (.one true 3 (.one true 4 (.one true 5 (.one true 6 (.one true 7 (.one true 8 (.one true 9 (.one true 10 (.one true 11 (.one true 12 (.one true 13 (.one true 14 (.one true 15 (.one true 16 (.one true 17 (.one true 18 (.one true 19 (.one true 20 .nil))))))))))))))))))))) mixed (by kernel_rfl) ?_; refine sx ?_
    refine s_lif rfl (fun t1 => ?_) (fun t1 => absurd (by omega) t1)
    refine sx ?_
    refine s_lif rfl (fun t2 => ?_) (fun t2 => absurd (by omega) t2)
    refine sx ?_
    refine s_if rfl (fun t3 => ?_) (fun t3 => ?_)
    · refine sx ?_
      refine s_again (k + 1) ⟨by omega, by omega, fun i hi => ?_⟩ (by omega)
      rcases Nat.lt_or_eq_of_le (Nat.lt_succ_iff.1 hi) with h | rfl
      · exact h3 i h
      · exact t3
    · refine sx ?_
      exact s_ret1 rfl rfl ⟨by rw [common_eq xs ys k h1 h2 h3 (.inr (.inr t3))], rfl⟩
  · have hend : k = xs.length ∨ k = ys.length := by omega
    have hc : common xs ys = k := common_eq xs ys k h1 h2 h3 (hend.imp id .inl)
    refine sx ?_; refine s_dr (.one true 0 (.one true 1 (.one true 2 (.one true 3 (.one true 4 (.one true 5 (.one true 6 (.one true 7 (.one true 8 (.one true 9 (.one true 10 (.one true 11 (.one true 12 (.one true 13 (.one true 14 (.one true 15 (.one true 16 (.one true 17 (.one true 18 (.one true 19 (.one true 20 .nil))))))))))))))))))))) mixed (by kernel_rfl) ?_; refine sx ?_
    refine s_lif rfl (fun t1 => ?_) (fun t1 => ?_)
    · refine sx ?_
      refine s_lif rfl (fun t2 => absurd ⟨by omega, by omega⟩ hk) (fun t2 => ?_)
      refine sx ?_
      exact s_ret1 rfl rfl ⟨by rw [hc], rfl⟩
    · refine sx ?_
      exact s_ret1 rfl rfl ⟨by rw [hc], rfl⟩
theorem obetween_s {a a' : Option Addr} {c c' : Nat} {xs ys : Bs} (ha : RBy w0 H a c xs) (hb : RBy w0 H a' c' ys) (hx : ys.length ≤ 140737488355328) :
    FnS Try.prog w0 H 30 #[.slice a xs.length c, .slice a' ys.length c'] (fun v H' => ∃ a1 c1, v = .tuple #[.slice a1 (betK xs ys).length c1, .int .i64 (betE xs ys)] ∧ H' = ob a1 c1 (betK xs ys) :: H) := by
  refine fns_enter Try.func30 rfl rfl rfl ?_
  refine sx ?_
  refine s_callV rfl (compare_s ha hb) ?_
  refine sx ?_
  refine s_if rfl (fun t1 => ?_) (fun t1 => ?_)
  · refine sx ?_
    refine s_ret2 rfl rfl rfl ⟨none, 0, ?_, rfl⟩ ?_
    · rw [betK, betE, if_neg (by omega), if_neg (by omega)]; rfl
    · rw [betK, if_neg (by omega)]; exact Ent.nilS
  have hlt : cmp xs ys < 0 := by omega
  have hbl := btw_len hlt
  have hcl := common_le xs ys
  refine s_kn (Kn.by hb) fun l2 => ?_
  simp only [maxLen] at l2
  have htl : (btw xs ys).length = common xs ys + 1 := by rw [btw, List.length_take]; omega
  have ht : RBy w0 H a' c' (btw xs ys) := hb.take (by omega)
  refine sx ?_
  refine s_callV rfl (common_s ha hb) ?_
  refine sx ?_
  refine s_rw (t := 14) (v' := .int .i64 (((btw xs ys).length : Nat) : Int)) rfl (ci (by omega)) ?_
  refine sx ?_
  refine s_call rfl (ocopied_s ht (by omega)) ?_
  rintro _ _ ⟨a1, rfl, rfl⟩
  refine ⟨chk_seq, ?_⟩
  refine sx ?_
  have e : betK xs ys = btw xs ys := by rw [betK, if_pos hlt]
  refine s_ret2 rfl rfl rfl ⟨a1, (btw xs ys).length, ?_, rfl⟩ ?_
  · rw [e, betE, if_pos hlt]
  · rw [e]; exact Ent.refl
theorem qbetween_s {a a' : Option Addr} {c c' : Nat} {xs ys : Bs} (ha : RBy w0 H a c xs) (hb : RBy w0 H a' c' ys) (hx : ys.length ≤ 140737488355328) :
    FnS Try.prog w0 H 49 #[.slice a xs.length c, .slice a' ys.length c'] (fun v H' => ∃ a1 c1, v = .tuple #[.slice a1 (betK xs ys).length c1, .int .i64 (betE xs ys)] ∧ H' = ob a1 c1 (betK xs ys) :: H) := by
  refine fns_enter Try.func49 rfl rfl rfl ?_
  refine sx ?_
  refine s_callV rfl (qcmp_s ha hb) ?_
  refine sx ?_
  refine s_if rfl (fun t1 => ?_) (fun t1 => ?_)
  · refine sx ?_
    refine s_ret2 rfl rfl rfl ⟨none, 0, ?_, rfl⟩ ?_
    · rw [betK, betE, if_neg (by omega), if_neg (by omega)]; rfl
    · rw [betK, if_neg (by omega)]; exact Ent.nilS
  have hlt : cmp xs ys < 0 := by omega
  have hbl := btw_len hlt
  have hcl := common_le xs ys
  refine s_kn (Kn.by hb) fun l2 => ?_
  simp only [maxLen] at l2
  have htl : (btw xs ys).length = common xs ys + 1 := by rw [btw, List.length_take]; omega
  have ht : RBy w0 H a' c' (btw xs ys) := hb.take (by omega)
  refine sx ?_
  refine s_callV rfl (qcommon_s ha hb) ?_
  refine sx ?_
  refine s_rw (t := 16) (v' := .int .i64 (((btw xs ys).length : Nat) : Int)) rfl (ci (by omega)) ?_
  refine sx ?_
  refine s_call rfl (qcopy_s ht (by omega)) ?_
  rintro _ _ ⟨a1, rfl, rfl⟩
  refine ⟨chk_seq, ?_⟩
  refine sx ?_
  have e : betK xs ys = btw xs ys := by rw [betK, if_pos hlt]
  refine s_ret2 rfl rfl rfl ⟨a1, (btw xs ys).length, ?_, rfl⟩ ?_
  · rw [e, betE, if_pos hlt]
  · rw [e]; exact Ent.refl
end Go.Sx
