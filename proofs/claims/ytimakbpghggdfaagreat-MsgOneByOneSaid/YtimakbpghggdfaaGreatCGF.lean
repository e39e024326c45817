/- Part of a proof: slices.Reverse of messages, walked. -/
import Derived.Test.YtimakbpghggdfaaGreatCGE
import Derived.Test.YtimakbpghggdfaaGreatCGC
namespace Go.Sx
open Go Go.Proofs
set_option maxRecDepth 10000
variable {w0 : World} {H : List Ck}
theorem rev_end {xs ms : List Mg} {i : Nat} (hl : xs.length = ms.length) (hi : ms.length ≤ 2 * i + 1)
    (h : ∀ k, k < ms.length → xs[k]? = if k < i ∨ ms.length ≤ k + i then ms[ms.length - 1 - k]? else ms[k]?) : xs = ms.reverse := by
  apply List.ext_getElem?
  intro k
  by_cases hk : k < ms.length
  · rw [h k hk, List.getElem?_reverse hk]
    split
    · rfl
    · rename_i g
      have : ms.length - 1 - k = k := by omega
      rw [this]
  · rw [List.getElem?_eq_none (by omega), List.getElem?_eq_none (by rw [List.length_reverse]; omega)]
set_option maxHeartbeats 1000000 in
theorem reverse_s {a : Option Addr} {c : Nat} {ms : List Mg} (hn : ms.length ≤ 1099511627776) :
    FnS Tryz.prog w0 (ol 35 a c ms :: H) 53 #[.slice a ms.length c] (fun v H' => v = .tuple #[] ∧ H' = ol 35 a c ms.reverse :: H) := by
  refine fns_enter Tryz.func53 rfl rfl rfl ?_
  refine sx ?_
  refine s_loop (fun m : Nat × List Mg => [(0, .slice a ms.length c), (2, .int .i64 m.1), (3, .int .i64 ((ms.length : Int) - 1 - (m.1 : Int)))]) (fun m => ol 35 a c m.2 :: H)
    (fun m => m.2.length = ms.length ∧ m.1 ≤ ms.length ∧ ∀ k, k < ms.length → m.2[k]? = if k < m.1 ∨ ms.length ≤ k + m.1 then ms[ms.length - 1 - k]? else ms[k]?) (fun m => ms.length - m.1) (0, ms) ⟨rfl, Nat.zero_le _, fun k hk => by simp only; rw [if_neg (by omega)]⟩ ?_
  rintro ⟨i, xs⟩ ⟨hl, hil, hx⟩
  simp only at hl hil hx ⊢
  refine sx ?_
  refine s_if rfl (fun t1 => ?_) (fun t1 => ?_)
  · have t1 : (i : Int) < (ms.length : Int) - 1 - (i : Int) := t1
    refine s_kn (φ := ∃ ad, a = some ad) (fun w hw => own_gA (c := c) (Sat.ownOf (c' := ol 35 a c xs) .hd hw) (by omega)) ?_
    rintro ⟨ad, rfl⟩
    obtain ⟨x, hxi⟩ := get_lt xs i (by omega)
    obtain ⟨j, hj⟩ : ∃ j, j = ms.length - 1 - i := ⟨_, rfl⟩
    obtain ⟨y, hyj⟩ := get_lt xs j (by omega)
    refine s_rwC (t := 3) (v' := .int .i64 (j : Int)) rfl (ci (by omega)) ?_
    rw [show (Value.slice (some ad) ms.length c) = Value.slice (some ad) xs.length c by rw [hl]]
    apply s_joinU
    intro key
    have stp : StopAt 2 := trivial
    have hh : ∀ ys : List Mg, RSl w0 (ol 35 (some ad) c ys :: H) (some ad) c ys := fun ys => RSl.hd
    refine sx ?_; refine s_drH (([] : List Ck)) (.one true 0 (.one true 1 (.one true 2 (.one true 3 (.one true 4 (.one true 5 (.one true 6 (.one true 8 (.one true 9 (.one true 10 (.alt (.one false 7 (.one false 11 (.one true 12 (.one false 13 (.one true 14 (.one false 15 .nil)))))) (.one false 11 (.one false 7 (.one true 12 (.one false 13 (.one true 14 (.one false 15 .nil))))))))))))))))) mixed (by kernel_rfl) ?_; refine sx ?_
    refine s_alt ?_ ?_
    · refine s_yA rfl rfl (by exact yy) ?_ (chk_held Ent.nil)
      refine s_yA rfl rfl (by exact yy) ?_ (chk_held Ent.nil)
      refine sx1 ?_
      refine s_setA (i := i) y rfl rfl (by exact at_) rfl (by omega) ?_ (hk := chk_held Ent.nil)
      refine sx1 ?_
      refine s_setA (i := j) x rfl rfl (by exact at_) rfl (by rw [List.length_set]; omega) ?_ (hk := chk_held Ent.nil)
      refine sxs ?_
      refine s_sub (l' := [(0, .slice (some ad) xs.length c), (2, .int .i64 i), (3, .int .i64 j)]) ?_ (by repeat (first | exact trivial | refine And.intro (by first | exact rfl | exact congrArg some (ci (by omega))) ?_))
      exact key.out
    · refine s_yA rfl rfl (by exact yy) ?_ (chk_held Ent.nil)
      refine s_yA rfl rfl (by exact yy) ?_ (chk_held Ent.nil)
      refine sx1 ?_
      refine s_setA (i := i) y rfl rfl (by exact at_) rfl (by omega) ?_ (hk := chk_held Ent.nil)
      refine sx1 ?_
      refine s_setA (i := j) x rfl rfl (by exact at_) rfl (by rw [List.length_set]; omega) ?_ (hk := chk_held Ent.nil)
      refine sxs ?_
      refine s_sub (l' := [(0, .slice (some ad) xs.length c), (2, .int .i64 i), (3, .int .i64 j)]) ?_ (by repeat (first | exact trivial | refine And.intro (by first | exact rfl | exact congrArg some (ci (by omega))) ?_))
      exact key.out
    rw [show (Value.slice (some ad) xs.length c) = Value.slice (some ad) ms.length c by rw [hl]]
    refine sx ?_
    refine s_rwQ (t := 3) (v' := .int .i64 ((ms.length : Int) - 1 - ((i + 1 : Nat) : Int))) rfl (ci (by omega)) ?_
    refine s_again ⟨i + 1, (xs.set i y).set j x⟩ ⟨by simp only [List.length_set]; exact hl, by simp only; omega, fun k hk => ?_⟩ (by simp only; omega) (he := by exact entq)
    simp only
    have hi2 := hx i (by omega)
    have hj2 := hx j (by omega)
    rw [if_neg (by omega)] at hi2 hj2
    rw [hxi] at hi2
    rw [hyj] at hj2
    by_cases e1 : k = j
    · subst e1
      rw [List.getElem?_set_self (by rw [List.length_set]; omega), if_pos (by omega), show ms.length - 1 - k = i by omega]
      exact hi2
    · rw [List.getElem?_set_ne (Ne.symm e1)]
      by_cases e2 : k = i
      · subst e2
        rw [List.getElem?_set_self (by omega), if_pos (by omega), ← hj]
        exact hj2
      · rw [List.getElem?_set_ne (Ne.symm e2), hx k hk]
        by_cases g : k < i ∨ ms.length ≤ k + i
        · rw [if_pos g, if_pos (by omega)]
        · rw [if_neg g, if_neg (by omega)]
  · have t1 : ¬ (i : Int) < (ms.length : Int) - 1 - (i : Int) := t1
    have e : xs = ms.reverse := rev_end (i := i) hl (by omega) hx
    subst e
    refine sx ?_
    exact s_end0 rfl ⟨rfl, rfl⟩
end Go.Sx
