/- The law MsgNames, walked; how much messages have; are two lists of them one? -/
import Derived.Test.YtimakbpghggdfaaGreatCGLj
namespace Go.Sx
open Go Go.Proofs
set_option maxRecDepth 10000
variable {w0 : World} {H : List Ck}
theorem lweight_s {m : Mg} (h1 : m.lo.length ≤ 140737488355328) (h2 : m.hi.length ≤ 140737488355328) (h3 : m.v.length ≤ 140737488355328) : FnV Tryz.prog w0 H 34 #[.agg m.cells.toArray] (.int .i64 (lenM m.d : Nat)) := by
  refine fns_enter Tryz.func34 rfl rfl rfl ?_
  have e : lenM m.d = 13 + m.lo.length + m.hi.length + m.v.length := rfl
  refine sx ?_
  refine s_boxA rfl fun b1 => ?_
  refine sx ?_
  exact s_ret1 rfl rfl ⟨ci (by omega), rfl⟩
theorem lweights_s {a : Option Addr} {c : Nat} {ms : List Mg} (hx : RMs w0 H a c ms) (hz : ∀ m ∈ ms, m.lo.length ≤ 140737488355328 ∧ m.hi.length ≤ 140737488355328 ∧ m.v.length ≤ 140737488355328) :
    FnS Tryz.prog w0 H 9 #[.slice a ms.length c] (fun v H' => ∃ x : Int, v = .int .i64 x ∧ (0 ≤ x ∧ x ≤ 1125899906842624) ∧ (x ≤ 2147483647 → x = (sumM (ms.map Mg.d) : Nat)) ∧ H' = H) := by
  refine fns_enter Tryz.func9 rfl rfl rfl ?_
  have hsl := hx.sl
  refine s_kn (Kn.sl hsl) fun l1 => ?_
  simp only [maxLen] at l1
  refine sx ?_
  refine s_loop (fun i : Nat × Int => [(0, .slice a ms.length c), (3, .int .i64 i.2), (4, .int .i64 i.1)]) (fun _ => H) (fun i => i.1 ≤ ms.length ∧ (0 ≤ i.2 ∧ i.2 ≤ 1125899906842624) ∧ (i.2 ≤ 2147483647 → i.2 = (sumM ((ms.map Mg.d).take i.1) : Nat))) (fun i => ms.length - i.1) (0, 0) ⟨Nat.zero_le _, by simp only; omega, fun _ => by simp [sumM]⟩ ?_
  rintro ⟨i, x⟩ ⟨h1, h2, h3⟩
  simp only at h1 h2 h3 ⊢
  refine sx ?_
  refine s_lif rfl (fun t1 => ?_) (fun t1 => ?_)
  · obtain ⟨m, hm⟩ := get_lt ms i (by omega)
    obtain ⟨z1, z2, z3⟩ := hz m (List.mem_of_getElem? hm)
    have hst := sumM_get (get_map (f := Mg.d) hm)
    have e : lenM m.d = 13 + m.lo.length + m.hi.length + m.v.length := rfl
    refine sx ?_
    refine s_if rfl (fun t2 => ?_) (fun t2 => ?_)
    · refine sx ?_
      refine s_callV rfl (lweight_s (m := m) z1 z2 z3) ?_
      refine sx ?_
      refine s_again (i + 1, x + (lenM m.d : Nat)) ⟨by simp only; omega, by simp only; omega, fun _ => ?_⟩ (by simp only; omega)
      have := h3 t2
      simp only
      omega
    · refine sx ?_
      exact s_ret1 rfl rfl ⟨x, rfl, h2, fun h => absurd h t2, rfl⟩
  · obtain rfl : i = ms.length := by omega
    rw [List.take_of_length_le (by simp)] at h3
    refine sx ?_
    exact s_ret1 rfl rfl ⟨x, rfl, h2, h3, rfl⟩
theorem lsameM1_s {x y : Mg} (hx : RMg w0 H x) (hy : RMg w0 H y) : FnV Tryz.prog w0 H 54 #[.agg x.cells.toArray, .agg y.cells.toArray] (.bool (decide (x.d = y.d))) := by
  refine fns_enter Tryz.func54 rfl rfl rfl ?_
  have b1 := hx.lo
  have b2 := hx.hi
  have b3 := hx.v
  have b4 := hy.lo
  have b5 := hy.hi
  have b6 := hy.v
  refine sx ?_
  refine s_boxA rfl fun b2 => ?_
  refine sx ?_
  refine s_boxA rfl fun b3 => ?_
  refine sx ?_
  refine s_lif rfl (fun t3 => ?_) (fun t3 => ?_)
  · refine sx ?_
    refine s_lif rfl (fun t4 => ?_) (fun t4 => ?_)
    · refine sx ?_
      refine s_lif rfl (fun t5 => ?_) (fun t5 => ?_)
      · refine sx ?_
        refine s_lif rfl (fun t6 => ?_) (fun t6 => ?_)
        · refine sx ?_
          refine s_ret1 rfl rfl ⟨?_, rfl⟩
          by_cases t7 : x.v = y.v
          · rw [decide_eq_true t7, decide_eq_true]
            show MD.mk _ _ _ _ _ = MD.mk _ _ _ _ _
            rw [t3, t4, t5, t6, t7]
          · rw [decide_eq_false t7, decide_eq_false fun e => t7 (congrArg MD.v e)]
        · refine sx ?_
          refine s_ret1 rfl rfl ⟨?_, rfl⟩
          rw [decide_eq_false fun e => t6 (congrArg MD.hi e)]
      · refine sx ?_
        refine s_ret1 rfl rfl ⟨?_, rfl⟩
        rw [decide_eq_false fun e => t5 (congrArg MD.lo e)]
    · refine sx ?_
      refine s_ret1 rfl rfl ⟨?_, rfl⟩
      rw [decide_eq_false fun e => t4 (congrArg MD.kd e)]
  · refine sx ?_
    refine s_ret1 rfl rfl ⟨?_, rfl⟩
    rw [decide_eq_false fun e => t3 (congrArg MD.st e)]
theorem lsameMs_s {a a' : Option Addr} {c c' : Nat} {xs ys : List Mg} (hx : RMs w0 H a c xs) (hy : RMs w0 H a' c' ys) : FnV Tryz.prog w0 H 19 #[.slice a xs.length c, .slice a' ys.length c'] (.bool (decide (xs.map Mg.d = ys.map Mg.d))) := by
  refine fns_enter Tryz.func19 rfl rfl rfl ?_
  have hxs := hx.sl
  have hys := hy.sl
  refine s_kn (Kn.sl hxs) fun l1 => s_kn (Kn.sl hys) fun l2 => ?_
  simp only [maxLen] at l1 l2
  refine sx ?_
  refine s_ifn rfl (fun t1 => ?_) (fun t1 => ?_)
  · refine sx ?_
    refine s_ret1 rfl rfl ⟨?_, rfl⟩
    rw [decide_eq_false (fun e => t1 (by have := congrArg List.length e; simp only [List.length_map] at this; rw [this]))]
  have hl : xs.length = ys.length := by omega
  refine sx ?_
  refine s_loop (fun i : Nat => [(0, .slice a xs.length c), (1, .slice a' ys.length c'), (5, .int .i64 i)]) (fun _ => H) (fun i => i ≤ xs.length ∧ (xs.map Mg.d).take i = (ys.map Mg.d).take i) (fun i => xs.length - i) 0 ⟨Nat.zero_le _, rfl⟩ ?_
  rintro i ⟨hi, he⟩
  refine sx ?_
  refine s_if rfl (fun t2 => ?_) (fun t2 => ?_)
  · obtain ⟨x, hxi⟩ := get_lt xs i (by omega)
    obtain ⟨y, hyi⟩ := get_lt ys i (by omega)
    have hx0 := hx.el x (List.mem_of_getElem? hxi)
    have hy0 := hy.el y (List.mem_of_getElem? hyi)
    have hbad : x.d ≠ y.d → xs.map Mg.d ≠ ys.map Mg.d := fun h e => by
      have h1 := get_map (f := Mg.d) hxi
      rw [e, get_map (f := Mg.d) hyi] at h1
      exact h (Option.some.inj h1).symm
    refine sx ?_; refine s_dr (.one true 0 (.one true 1 (.one true 2 (.one true 3 (.one true 4 (.one true 5 (.one true 6 (.one true 7 (.one false 8 (.one true 9 .nil)))))))))) mixed (by kernel_rfl) ?_; refine sx ?_
    refine s_callV rfl (lsameM1_s (x := x) (y := y) hx0 hy0) ?_
    refine sx ?_
    refine s_ifn rfl (fun t3 => ?_) (fun t3 => ?_)
    · refine sx ?_
      refine s_ret1 rfl rfl ⟨?_, rfl⟩
      rw [decide_eq_false (hbad t3)]
    · refine sx ?_
      refine s_again (i + 1) ⟨by omega, ?_⟩ (by omega)
      rw [snocT (get_map (f := Mg.d) hxi), snocT (get_map (f := Mg.d) hyi), he, t3]
  · obtain rfl : i = xs.length := by omega
    rw [List.take_of_length_le (by simp), List.take_of_length_le (by simp; omega)] at he
    refine sx ?_
    exact s_ret1 rfl rfl ⟨by rw [decide_eq_true he], rfl⟩
end Go.Sx
