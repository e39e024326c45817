/- Part of a proof: are two nodes one? The chapter's example. The law NodeNames. -/
import Derived.Test.YtkcabddbeclokaaGreatCV9j
namespace Go.Sx
open Go Go.Proofs
set_option maxRecDepth 10000
variable {w0 : World} {H : List Ck}
theorem nsameK_s {k q : Kd} (hk : RKd w0 H k) (hq : RKd w0 H q) : FnV Tryz.prog w0 H 36 #[.agg k.cells.toArray, .agg q.cells.toArray] (.bool (decide (k.d = q.d))) := by
  refine fns_enter Tryz.func36 rfl rfl rfl ?_
  refine s_kn (Kn.kp hk) fun l1 => s_kn (Kn.kk hk) fun l2 => s_kn (Kn.kp hq) fun l3 => s_kn (Kn.kk hq) fun l4 => ?_
  simp only [maxLen] at l1 l2 l3 l4
  have hps := hk.ps
  have hks := hk.ks
  have hps' := hq.ps
  have hks' := hq.ks
  refine sx ?_
  refine s_boxA rfl fun b2 => ?_
  refine sx ?_
  refine s_boxA rfl fun b3 => ?_
  refine sx ?_
  refine s_lifn rfl (fun t1 => ?_) (fun t1 => ?_)
  · refine sx ?_
    refine s_ret1 rfl rfl ⟨?_, rfl⟩
    rw [decide_eq_false]
    intro h
    have := congrArg (fun d => d.1.length) h
    simp only at this
    omega
  refine sx ?_
  refine s_ifn rfl (fun t2 => ?_) (fun t2 => ?_)
  · refine sx ?_
    refine s_ret1 rfl rfl ⟨?_, rfl⟩
    rw [decide_eq_false]
    intro h
    have := congrArg (fun d => d.2.length) h
    simp only [List.length_map] at this
    omega
  refine sx ?_
  refine s_loop (fun i : Nat => [(2, .pointer (some ⟨b2, 0, none⟩)), (3, .pointer (some ⟨b3, 0, none⟩)), (5, .int .i64 i)]) (fun _ => .hb b3 25 q.cells :: .hb b2 25 k.cells :: H) (fun i => i ≤ k.ps.length ∧ k.ps.take i = q.ps.take i) (fun i => k.ps.length - i) 0 ⟨Nat.zero_le _, rfl⟩ ?_
  rintro i ⟨hi, he⟩
  refine sx ?_
  refine s_if rfl (fun t3 => ?_) (fun t3 => ?_)
  · obtain ⟨x, hx⟩ := get_lt k.ps i (by omega)
    obtain ⟨y, hy⟩ := get_lt q.ps i (by omega)
    refine sx ?_; refine s_dr (.one true 0 (.one true 1 (.one true 2 (.one true 3 (.one true 4 (.one true 5 (.one true 6 (.one true 7 (.one true 8 (.one true 9 (.one true 10 .nil))))))))))) mixed (by kernel_rfl) ?_; refine sx ?_
    refine s_ifn rfl (fun t4 => ?_) (fun t4 => ?_)
    · refine sx ?_
      refine s_ret1 rfl rfl ⟨?_, rfl⟩
      rw [decide_eq_false]
      intro h
      have : k.ps = q.ps := congrArg Prod.fst h
      rw [this, hy] at hx
      exact t4 (Option.some.inj hx).symm
    · refine sx ?_
      refine s_again (i + 1) ⟨by omega, ?_⟩ (by omega)
      rw [snocT hx, snocT hy, he, t4]
  obtain rfl : i = k.ps.length := by omega
  have hpe : k.ps = q.ps := by
    rw [List.take_of_length_le (Nat.le_refl _), List.take_of_length_le (by omega)] at he
    exact he
  refine sx ?_
  refine s_loop (fun i : Nat => [(2, .pointer (some ⟨b2, 0, none⟩)), (3, .pointer (some ⟨b3, 0, none⟩)), (6, .int .i64 i)]) (fun _ => .hb b3 25 q.cells :: .hb b2 25 k.cells :: H) (fun i => i ≤ k.ks.length ∧ k.keys.take i = q.keys.take i) (fun i => k.ks.length - i) 0 ⟨Nat.zero_le _, rfl⟩ ?_
  rintro i ⟨hi, he⟩
  refine sx ?_
  refine s_if rfl (fun t3 => ?_) (fun t3 => ?_)
  · obtain ⟨x, hx⟩ := get_lt k.ks i (by omega)
    obtain ⟨y, hy⟩ := get_lt q.ks i (by omega)
    have hxb := hk.el x (List.mem_of_getElem? hx)
    have hyb := hq.el y (List.mem_of_getElem? hy)
    refine sx ?_; refine s_dr (.one true 0 (.one true 1 (.one true 2 (.one true 3 (.one true 4 (.one true 5 (.one true 6 (.one true 7 (.one true 8 (.one true 9 (.one true 10 (.one true 11 (.one true 12 .nil))))))))))))) mixed (by kernel_rfl) ?_; refine sx ?_
    refine s_ifn rfl (fun t4 => ?_) (fun t4 => ?_)
    · refine sx ?_
      refine s_ret1 rfl rfl ⟨?_, rfl⟩
      rw [decide_eq_false]
      intro h
      have h2 : k.keys = q.keys := congrArg Prod.snd h
      have h3 := Kd.kget hx
      rw [h2, Kd.kget hy] at h3
      exact t4 (Option.some.inj h3).symm
    · refine sx ?_
      refine s_again (i + 1) ⟨by omega, ?_⟩ (by omega)
      rw [snocT (Kd.kget hx), snocT (Kd.kget hy), he, t4]
  obtain rfl : i = k.ks.length := by omega
  refine sx ?_
  refine s_ret1 rfl rfl ⟨?_, rfl⟩
  rw [List.take_of_length_le (by simp), List.take_of_length_le (by simp; omega)] at he
  rw [decide_eq_true]
  exact Prod.ext hpe he
theorem nsameM_s {a a' : Option Addr} {c c' : Nat} {xs ys : List Mg} (hx : RMs w0 H a c xs) (hy : RMs w0 H a' c' ys) : FnV Tryz.prog w0 H 37 #[.slice a xs.length c, .slice a' ys.length c'] (.bool (decide (xs.map Mg.d = ys.map Mg.d))) := by
  refine fns_enter Tryz.func37 rfl rfl rfl ?_
  have hxs := hx.sl
  have hys := hy.sl
  refine s_kn (Kn.sl hxs) fun l1 => s_kn (Kn.sl hys) fun l2 => ?_
  simp only [maxLen] at l1 l2
  refine sx ?_
  refine s_ifn rfl (fun t1 => ?_) (fun t1 => ?_)
  · refine sx ?_
    refine s_ret1 rfl rfl ⟨?_, rfl⟩
    rw [decide_eq_false (fun e => t1 (by have := congrArg List.length e; simp only [List.length_map] at this; rw [this]))]
  have hl : xs.length = ys.length := by omega
  refine sx ?_
  refine s_loop (fun i : Nat => [(0, .slice a xs.length c), (1, .slice a' ys.length c'), (5, .int .i64 i)]) (fun _ => H) (fun i => i ≤ xs.length ∧ (xs.map Mg.d).take i = (ys.map Mg.d).take i) (fun i => xs.length - i) 0 ⟨Nat.zero_le _, rfl⟩ ?_
  rintro i ⟨hi, he⟩
  refine sx ?_
  refine s_if rfl (fun t2 => ?_) (fun t2 => ?_)
  · obtain ⟨x, hxi⟩ := get_lt xs i (by omega)
    obtain ⟨y, hyi⟩ := get_lt ys i (by omega)
    have hx0 := hx.el x (List.mem_of_getElem? hxi)
    have hy0 := hy.el y (List.mem_of_getElem? hyi)
    have b1 := hx0.lo
    have b2 := hx0.hi
    have b3 := hx0.v
    have b4 := hy0.lo
    have b5 := hy0.hi
    have b6 := hy0.v
    have hbad : x.d ≠ y.d → xs.map Mg.d ≠ ys.map Mg.d := fun h e => by
      have h1 := get_map (f := Mg.d) hxi
      rw [e, get_map (f := Mg.d) hyi] at h1
      exact h (Option.some.inj h1).symm
    refine sx ?_; refine s_dr (.one true 0 (.one true 1 (.one true 2 (.one true 3 (.one true 4 (.one true 5 (.one true 6 (.one true 7 (.one true 8 (.one true 9 (.one true 10 (.one true 11 (.one true 12 (.one true 13 (.one true 14 (.one true 15 (.one true 16 (.one true 17 (.one true 18 (.one true 19 (.one true 20 (.one true 21 (.one true 22 (.one true 23 (.one true 24 (.one true 25 (.one true 26 (.one true 27 (.one true 28 (.one true 29 (.one true 30 (.one true 31 (.one true 32 (.one true 33 (.one true 34 (.one true 35 (.one true 36 (.one true 37 (.one true 38 (.one true 39 (.one true 40 (.one true 41 (.one true 42 (.one true 43 (.one true 44 (.one true 45 (.one true 46 (.one true 47 (.one true 48 (.one true 49 (.one true 50 (.one true 51 (.one true 52 (.one true 53 (.one true 54 (.one true 55 (.one true 56 (.one true 57 (.one true 58 (.one true 59 (.one true 60 (.one true 61 (.one true 62 (.one true 63 (.one true 64 (.one true 65 (.one true 66 (.one true 67 (.one true 68 .nil))))))))))))))))))))))))))))))))))))))))))))))))))))))))))))))))))))) mixed (by kernel_rfl) ?_; refine sx ?_
    refine s_lifn rfl (fun t3 => ?_) (fun t3 => ?_)
    · refine sx ?_
      refine s_ret1 rfl rfl ⟨?_, rfl⟩
      rw [decide_eq_false (hbad fun e => t3 (congrArg MD.st e))]
    refine sx ?_
    refine s_lifn rfl (fun t4 => ?_) (fun t4 => ?_)
    · refine sx ?_
      refine s_ret1 rfl rfl ⟨?_, rfl⟩
      rw [decide_eq_false (hbad fun e => t4 (congrArg MD.kd e))]
    refine sx ?_
    refine s_lifn rfl (fun t5 => ?_) (fun t5 => ?_)
    · refine sx ?_
      refine s_ret1 rfl rfl ⟨?_, rfl⟩
      rw [decide_eq_false (hbad fun e => t5 (congrArg MD.lo e))]
    refine sx ?_
    refine s_lifn rfl (fun t6 => ?_) (fun t6 => ?_)
    · refine sx ?_
      refine s_ret1 rfl rfl ⟨?_, rfl⟩
      rw [decide_eq_false (hbad fun e => t6 (congrArg MD.hi e))]
    refine sx ?_
    refine s_ifn rfl (fun t7 => ?_) (fun t7 => ?_)
    · refine sx ?_
      refine s_ret1 rfl rfl ⟨?_, rfl⟩
      rw [decide_eq_false (hbad fun e => t7 (congrArg MD.v e))]
    · refine sx ?_
      refine s_again (i + 1) ⟨by omega, ?_⟩ (by omega)
      have e : x.d = y.d := by
        show MD.mk _ _ _ _ _ = MD.mk _ _ _ _ _
        rw [t3, t4, t5, t6, t7]
      rw [snocT (get_map (f := Mg.d) hxi), snocT (get_map (f := Mg.d) hyi), he, e]
  · obtain rfl : i = xs.length := by omega
    rw [List.take_of_length_le (by simp), List.take_of_length_le (by simp; omega)] at he
    refine sx ?_
    exact s_ret1 rfl rfl ⟨by rw [decide_eq_true he], rfl⟩
theorem nsame_s {n q : Nd} (hn : RNd w0 H n) (hq : RNd w0 H q) : FnV Tryz.prog w0 H 14 #[.agg n.cells.toArray, .agg q.cells.toArray] (.bool (decide (n.k.d = q.k.d ∧ n.md = q.md))) := by
  refine fns_enter Tryz.func14 rfl rfl rfl ?_
  have h1 := hn.k
  have h2 := hq.k
  have h3 := hn.ms
  have h4 := hq.ms
  refine sx ?_
  refine s_boxA rfl fun b2 => ?_
  refine sx ?_
  refine s_boxA rfl fun b3 => ?_
  refine sx ?_
  refine s_callV rfl (nsameK_s (k := n.k) (q := q.k) (by exact rkd) (by exact rkd)) ?_
  refine sx ?_
  refine s_callV rfl (nsameM_s (xs := n.ms) (ys := q.ms) (by exact rms) (by exact rms)) ?_
  by_cases e1 : n.k.d = q.k.d
  · rw [decide_eq_true e1]
    refine sx ?_
    refine s_ret1 rfl rfl ⟨?_, rfl⟩
    simp only [e1, true_and]
  · rw [decide_eq_false e1]
    refine sx ?_
    refine s_ret1 rfl rfl ⟨?_, rfl⟩
    rw [decide_eq_false (fun h => e1 h.1)]
end Go.Sx
