/- Part of a proof: branch: sizes, forms, Bytes, Child, copies, by the program and by the document. -/
import Derived.Test.YtkcabddbeclokaaGreatCB0j
namespace Go.Sx
open Go Go.Proofs
set_option maxRecDepth 10000
variable {w0 : World} {H : List Ck}
theorem bsized_s {size : Int} : FnV Tryz.prog w0 H 64 #[.int .i64 size] (.bool (sizedB size)) := by
  refine fns_enter Tryz.func64 rfl rfl rfl ?_
  refine sx ?_
  refine s_lif rfl (fun t1 => ?_) (fun t1 => ?_)
  · refine sx ?_
    exact s_ret1 rfl rfl ⟨by simp [sizedB, t1], rfl⟩
  refine sx ?_
  refine s_lif rfl (fun t2 => ?_) (fun t2 => ?_)
  · refine sx ?_
    exact s_ret1 rfl rfl ⟨by simp [sizedB, t2], rfl⟩
  refine sx ?_
  refine s_lif rfl (fun t3 => ?_) (fun t3 => ?_)
  · refine sx ?_
    exact s_ret1 rfl rfl ⟨by simp [sizedB, t3], rfl⟩
  refine sx ?_
  exact s_ret1 rfl rfl ⟨by simp [sizedB, t1, t2, t3], rfl⟩
theorem rsized_s {size : Int} : FnV Tryz.prog w0 H 73 #[.int .i64 size] (.bool (sizedB size)) := by
  refine fns_enter Tryz.func73 rfl rfl rfl ?_
  refine sx ?_
  refine s_lif rfl (fun t1 => ?_) (fun t1 => ?_)
  · refine sx ?_
    exact s_ret1 rfl rfl ⟨by simp [sizedB, t1], rfl⟩
  refine sx ?_
  refine s_lif rfl (fun t2 => ?_) (fun t2 => ?_)
  · refine sx ?_
    exact s_ret1 rfl rfl ⟨by simp [sizedB, t2], rfl⟩
  refine sx ?_
  refine s_lif rfl (fun t3 => ?_) (fun t3 => ?_)
  · refine sx ?_
    exact s_ret1 rfl rfl ⟨by simp [sizedB, t3], rfl⟩
  refine sx ?_
  exact s_ret1 rfl rfl ⟨by simp [sizedB, t1, t2, t3], rfl⟩
theorem bfits_s {k : Kd} (hk : RKd w0 H k) : FnV Tryz.prog w0 H 65 #[.agg k.cells.toArray] (.bool (decide (k.ks.length + 1 = k.ps.length))) := by
  refine fns_enter Tryz.func65 rfl rfl rfl ?_
  refine s_kn (Kn.kp hk) fun l1 => s_kn (Kn.kk hk) fun l2 => ?_
  simp only [maxLen] at l1 l2
  refine sx ?_
  refine s_boxA rfl fun b => ?_
  refine sx ?_
  refine s_lif rfl (fun t1 => ?_) (fun t1 => ?_)
  · refine sx ?_
    refine s_ret1 rfl rfl ⟨?_, rfl⟩
    congr 1
    exact decide_eq_decide.2 (by omega)
  · refine sx ?_
    refine s_ret1 rfl rfl ⟨?_, rfl⟩
    congr 1
    exact (decide_eq_false (by omega)).symm
theorem rfit_s {k : Kd} (hk : RKd w0 H k) : FnV Tryz.prog w0 H 74 #[.agg k.cells.toArray] (.bool (decide (k.ks.length + 1 = k.ps.length))) := by
  refine fns_enter Tryz.func74 rfl rfl rfl ?_
  refine s_kn (Kn.kp hk) fun l1 => s_kn (Kn.kk hk) fun l2 => ?_
  simp only [maxLen] at l1 l2
  refine sx ?_
  refine s_boxA rfl fun b => ?_
  refine sx ?_
  refine s_lif rfl (fun t1 => ?_) (fun t1 => ?_)
  · refine sx ?_
    refine s_ret1 rfl rfl ⟨?_, rfl⟩
    congr 1
    exact decide_eq_decide.2 (by omega)
  · refine sx ?_
    refine s_ret1 rfl rfl ⟨?_, rfl⟩
    congr 1
    exact (decide_eq_false (by omega)).symm
theorem bbytes_s {k : Kd} (hk : RKd w0 H k) (hb : bytesK k.d ≤ 4611686018427387904) : FnV Tryz.prog w0 H 43 #[.agg k.cells.toArray] (.int .i64 (bytesK k.d : Nat)) := by
  refine fns_enter Tryz.func43 rfl rfl rfl ?_
  refine s_kn (Kn.kp hk) fun l1 => s_kn (Kn.kk hk) fun l2 => ?_
  simp only [maxLen] at l1 l2
  simp only [bytesK] at hb ⊢
  have hks := hk.ks
  refine sx ?_
  refine s_boxA rfl fun b => ?_
  refine sx ?_
  refine s_loop (fun i : Nat => [(3, .int .i64 ((2 + 4 * k.ps.length + keysB (k.keys.take i) : Nat) : Int)), (12, .slice k.ka k.ks.length k.kc), (13, .int .i64 k.ks.length), (14, .int .i64 i)]) (fun _ => .hb b 25 k.cells :: H) (fun i => i ≤ k.ks.length) (fun i => k.ks.length - i) 0 (Nat.zero_le _) ?_ (h0 := by
    refine ⟨congrArg some (ci ?_), rfl, rfl, rfl, trivial⟩
    simp [keysB])
  intro i hi
  refine sx ?_
  refine s_if rfl (fun t1 => ?_) (fun t1 => ?_)
  · obtain ⟨p, hp⟩ := get_lt k.ks i (by omega)
    have hg := keysB_get (Kd.kget hp)
    have h1 := keysB_take k.keys (i + 1)
    refine sx ?_
    exact s_again (i + 1) (by omega) (by omega)
  · obtain rfl : i = k.ks.length := by omega
    refine sx ?_
    refine s_ret1 rfl rfl ⟨?_, rfl⟩
    rw [List.take_of_length_le (by simp)]
theorem rbytes_s {k : Kd} (hk : RKd w0 H k) (hb : bytesK k.d ≤ 4611686018427387904) : FnV Tryz.prog w0 H 54 #[.agg k.cells.toArray] (.int .i64 (bytesK k.d : Nat)) := by
  refine fns_enter Tryz.func54 rfl rfl rfl ?_
  refine s_kn (Kn.kp hk) fun l1 => s_kn (Kn.kk hk) fun l2 => ?_
  simp only [maxLen] at l1 l2
  simp only [bytesK] at hb ⊢
  have hks := hk.ks
  refine sx ?_
  refine s_boxA rfl fun b => ?_
  refine sx ?_
  refine s_loop (fun i : Nat => [(1, .pointer (some ⟨b, 0, none⟩)), (3, .int .i64 ((2 + 4 * k.ps.length + keysB (k.keys.take i) : Nat) : Int)), (4, .int .i64 i)]) (fun _ => .hb b 25 k.cells :: H) (fun i => i ≤ k.ks.length) (fun i => k.ks.length - i) 0 (Nat.zero_le _) ?_ (h0 := by
    refine ⟨rfl, congrArg some (ci ?_), rfl, trivial⟩
    simp [keysB])
  intro i hi
  refine sx ?_
  refine s_if rfl (fun t1 => ?_) (fun t1 => ?_)
  · obtain ⟨p, hp⟩ := get_lt k.ks i (by omega)
    have hg := keysB_get (Kd.kget hp)
    have h1 := keysB_take k.keys (i + 1)
    refine sx ?_
    exact s_again (i + 1) (by omega) (by omega)
  · obtain rfl : i = k.ks.length := by omega
    refine sx ?_
    refine s_ret1 rfl rfl ⟨?_, rfl⟩
    rw [List.take_of_length_le (by simp)]
theorem chl_ge {ks : List Bs} {key : Bs} {i : Nat} (h : ∀ j x, j < i → ks[j]? = some x → ¬ 0 < cmp x key) (hi : i ≤ ks.length) : i ≤ chl ks key := by
  unfold chl
  rcases Nat.lt_or_ge (ks.findIdx fun x => decide (0 < cmp x key)) i with h1 | h1
  · exfalso
    have h2 : (ks.findIdx fun x => decide (0 < cmp x key)) < ks.length := by omega
    have := List.findIdx_getElem (w := h2)
    exact h _ _ h1 (List.getElem?_eq_getElem h2) (of_decide_eq_true this)
  · exact h1
theorem chl_eq {ks : List Bs} {key : Bs} {i : Nat} {x : Bs} (h : ∀ j x, j < i → ks[j]? = some x → ¬ 0 < cmp x key) (hx : ks[i]? = some x) (hc : 0 < cmp x key) : chl ks key = i := by
  have h1 := chl_ge h (Nat.le_of_lt (get_lt' hx))
  refine Nat.le_antisymm ?_ h1
  unfold chl
  have hi := get_lt' hx
  have : ks[i] = x := by rw [List.getElem?_eq_getElem hi] at hx; exact Option.some.inj hx
  refine Nat.le_of_not_lt fun hlt => ?_
  have h2 := List.not_of_lt_findIdx hlt
  simp only [this, decide_eq_false_iff_not] at h2
  exact h2 hc
theorem bchild_s {k : Kd} {a : Option Addr} {c : Nat} {key : Bs} (hk : RKd w0 H k) (ha : RBy w0 H a c key) : FnV Tryz.prog w0 H 63 #[.agg k.cells.toArray, .slice a key.length c] (.int .i64 (chl k.keys key : Nat)) := by
  refine fns_enter Tryz.func63 rfl rfl rfl ?_
  refine s_kn (Kn.kk hk) fun l2 => ?_
  simp only [maxLen] at l2
  have hks := hk.ks
  refine sx ?_
  refine s_boxA rfl fun b => ?_
  refine sx ?_
  refine s_loop (fun i : Nat => [(1, .slice a key.length c), (2, .pointer (some ⟨b, 0, none⟩)), (8, .slice k.ka k.ks.length k.kc), (9, .int .i64 k.ks.length), (10, .int .i64 i)]) (fun _ => .hb b 25 k.cells :: H) (fun i => i ≤ k.ks.length ∧ ∀ j x, j < i → k.keys[j]? = some x → ¬ 0 < cmp x key) (fun i => k.ks.length - i) 0 ⟨Nat.zero_le _, fun j x h => absurd h (Nat.not_lt_zero _)⟩ ?_
  rintro i ⟨hi, hl⟩
  refine sx ?_
  refine s_if rfl (fun t1 => ?_) (fun t1 => ?_)
  · obtain ⟨p, hp⟩ := get_lt k.ks i (by omega)
    have hpb := hk.el p (List.mem_of_getElem? hp)
    refine sx ?_
    refine s_callV rfl (compare_s (xs := p.xs) (by exact rby) (by exact rby)) ?_
    refine sx ?_
    refine s_if rfl (fun t2 => ?_) (fun t2 => ?_)
    · refine sx ?_
      refine s_ret1 rfl rfl ⟨?_, rfl⟩
      rw [chl_eq hl (Kd.kget hp) t2]
    · refine sx ?_
      refine s_again (i + 1) ⟨by omega, fun j x hj hx => ?_⟩ (by omega)
      rcases Nat.lt_or_eq_of_le (Nat.lt_succ_iff.1 hj) with h | rfl
      · exact hl j x h hx
      · rw [Kd.kget hp] at hx; cases hx; exact t2
  · obtain rfl : i = k.ks.length := by omega
    have h1 := chl_ge hl (by simp)
    have h2 : chl k.keys key ≤ k.keys.length := List.findIdx_le_length
    rw [List.length_map] at h2
    refine sx ?_
    refine s_ret1 rfl rfl ⟨?_, rfl⟩
    rw [Nat.le_antisymm h2 h1]
theorem rchild_s {k : Kd} {a : Option Addr} {c : Nat} {key : Bs} (hk : RKd w0 H k) (ha : RBy w0 H a c key) : FnV Tryz.prog w0 H 92 #[.agg k.cells.toArray, .slice a key.length c] (.int .i64 (chl k.keys key : Nat)) := by
  refine fns_enter Tryz.func92 rfl rfl rfl ?_
  refine s_kn (Kn.kk hk) fun l2 => ?_
  simp only [maxLen] at l2
  have hks := hk.ks
  refine sx ?_
  refine s_boxA rfl fun b => ?_
  refine sx ?_
  refine s_loop (fun i : Nat => [(1, .slice a key.length c), (2, .pointer (some ⟨b, 0, none⟩)), (5, .int .i64 i)]) (fun _ => .hb b 25 k.cells :: H) (fun i => i ≤ k.ks.length ∧ ∀ j x, j < i → k.keys[j]? = some x → ¬ 0 < cmp x key) (fun i => k.ks.length - i) 0 ⟨Nat.zero_le _, fun j x h => absurd h (Nat.not_lt_zero _)⟩ ?_
  rintro i ⟨hi, hl⟩
  refine sx ?_
  refine s_if rfl (fun t1 => ?_) (fun t1 => ?_)
  · obtain ⟨p, hp⟩ := get_lt k.ks i (by omega)
    have hpb := hk.el p (List.mem_of_getElem? hp)
    refine sx ?_; refine s_dr (.one true 0 (.one true 1 (.one true 2 (.one true 3 (.one true 4 (.one true 5 (.one true 6 (.one true 7 (.one true 8 .nil))))))))) mixed (by kernel_rfl) ?_; refine sx ?_
    refine s_if rfl (fun t2 => ?_) (fun t2 => ?_)
    · refine sx ?_
      refine s_ret1 rfl rfl ⟨?_, rfl⟩
      rw [chl_eq hl (Kd.kget hp) t2]
    · refine sx ?_
      refine s_again (i + 1) ⟨by omega, fun j x hj hx => ?_⟩ (by omega)
      rcases Nat.lt_or_eq_of_le (Nat.lt_succ_iff.1 hj) with h | rfl
      · exact hl j x h hx
      · rw [Kd.kget hp] at hx; cases hx; exact t2
  · obtain rfl : i = k.ks.length := by omega
    have h1 := chl_ge hl (by simp)
    have h2 : chl k.keys key ≤ k.keys.length := List.findIdx_le_length
    rw [List.length_map] at h2
    refine sx ?_
    refine s_ret1 rfl rfl ⟨?_, rfl⟩
    rw [Nat.le_antisymm h2 h1]
theorem own_s {a : Option Addr} {c : Nat} {xs : Bs} (ha : RBy w0 H a c xs) (hx : xs.length ≤ 140737488355328) : FnS Tryz.prog w0 H 96 #[.slice a xs.length c] (fun v H' => ∃ a' , v = .slice a' xs.length xs.length ∧ H' = ob a' xs.length xs :: H) := by
  refine fns_enter Tryz.func96 rfl rfl rfl ?_
  refine sx ?_
  refine s_make rfl rfl (by omega) fun b => ?_
  refine sx ?_
  refine s_copy rfl rfl ?_ (ys := xs) (hk0 := by simp)
  have e : xs.take (List.replicate xs.length (0 : UInt8)).length ++ (List.replicate xs.length (0 : UInt8)).drop xs.length = xs := by simp
  rw [e]
  refine sx ?_
  refine s_yS rfl rfl rfl (y_slU rfl rfl rfl (by omega)) ?_
  refine sx ?_
  exact s_ret1 rfl rfl ⟨_, rfl, rfl⟩
end Go.Sx
