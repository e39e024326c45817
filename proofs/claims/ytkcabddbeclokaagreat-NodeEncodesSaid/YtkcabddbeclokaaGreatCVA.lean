/- Which nodes may be, by the program. -/
import Derived.Test.YtkcabddbeclokaaGreatCV9j
namespace Go.Sx
open Go Go.Proofs
set_option maxRecDepth 10000
variable {w0 : World} {H : List Ck}
theorem RMs.one {m : Mg} {E k : Nat} (h : RMg w0 H m) : RMs w0 (ol E (some ⟨k, 0, none⟩) 1 [m] :: H) (some ⟨k, 0, none⟩) 1 [m] := ⟨RSl.hd, fun x hx => by rw [List.mem_singleton.1 hx]; exact h.tl⟩
theorem RMs.two {m k : Mg} {E b : Nat} (h : RMg w0 H m) (h' : RMg w0 H k) : RMs w0 (ol E (some ⟨b, 0, none⟩) 2 [m, k] :: H) (some ⟨b, 0, none⟩) 2 [m, k] := ⟨RSl.hd, fun x hx => by
  simp only [List.mem_cons, List.not_mem_nil, or_false] at hx
  rcases hx with rfl | rfl
  · exact h.tl
  · exact h'.tl⟩
theorem behind_s {n : Nd} {size : Int} {m k : Mg} (hn : RNd w0 H n) (hm : RMg w0 H m) (hk : RMg w0 H k) : FnV Tryz.prog w0 H 68 #[.agg n.cells.toArray, .int .i64 size, .agg m.cells.toArray, .agg k.cells.toArray] (.bool (behN size n.k.keys m.d k.d)) := by
  refine fns_enter Tryz.func68 rfl rfl rfl ?_
  refine sx ?_
  refine s_boxA rfl fun b4 => ?_
  refine sx ?_
  refine s_boxA rfl fun b6 => ?_
  refine sx ?_
  refine s_boxA rfl fun b7 => ?_
  refine sx ?_; refine s_dr (.one true 0 (.one true 1 (.one true 3 (.one true 4 (.one false 2 (.one false 5 (.one true 6 (.one true 7 .nil)))))))) mixed (by kernel_rfl) ?_; refine sx ?_
  refine s_callV rfl (whose_s (n := n) (m := m) (by exact rnd) (by exact rmg)) ?_
  refine sx ?_
  refine s_callV rfl (whose_s (n := n) (m := k) (by exact rnd) (by exact rmg)) ?_
  refine sx ?_
  unfold behN
  refine s_lif rfl (fun t1 => ?_) (fun t1 => ?_)
  · refine sx ?_
    refine s_ret1 rfl rfl ⟨?_, rfl⟩
    rw [decide_eq_true (show chl n.k.keys m.d.lo < chl n.k.keys k.d.lo by simp only; omega)]
    rfl
  rw [decide_eq_false (show ¬ chl n.k.keys m.d.lo < chl n.k.keys k.d.lo by simp only; omega), Bool.false_or]
  refine sx ?_
  refine s_lif rfl (fun t2 => ?_) (fun t2 => ?_)
  · rw [decide_eq_true (show chl n.k.keys m.d.lo = chl n.k.keys k.d.lo by simp only; omega), Bool.true_and]
    refine sx ?_
    refine s_bsl [m, k] rfl rfl fun b28 => ?_
    refine sx ?_
    refine s_callV rfl (mcheck_s (ms := [m, k]) (RMs.two (by exact rmg) (by exact rmg))) ?_
    refine sx ?_
    exact s_ret1 rfl rfl ⟨rfl, rfl⟩
  · rw [decide_eq_false (show ¬ chl n.k.keys m.d.lo = chl n.k.keys k.d.lo by simp only; omega), Bool.false_and]
    refine sx ?_
    exact s_ret1 rfl rfl ⟨rfl, rfl⟩
set_option maxHeartbeats 1000000 in
theorem pmay_s {n : Nd} {size : Int} (hn : RNd w0 H n) : FnV Tryz.prog w0 H 44 #[.agg n.cells.toArray, .int .i64 size] (.int .i64 (mayN size n.k.keys n.md)) := by
  refine fns_enter Tryz.func44 rfl rfl rfl ?_
  have hsl := hn.ms.sl
  refine s_kn (Kn.sl hsl) fun l1 => ?_
  simp only [maxLen] at l1
  refine sx ?_
  refine s_boxA rfl fun b2 => ?_
  refine sx ?_
  unfold mayN
  refine s_loop (fun i : Nat => [(1, .int .i64 size), (2, .pointer (some ⟨b2, 0, none⟩)), (9, .slice n.ma n.ms.length n.mc), (10, .int .i64 n.ms.length), (11, .int .i64 i)]) (fun _ => .hb b2 76 n.cells :: H) (fun i => i ≤ n.ms.length ∧ mayG size n.k.keys none n.md = mayG size n.k.keys (prevM n.md i) (n.md.drop i)) (fun i => n.ms.length - i) 0 ⟨Nat.zero_le _, by simp [prevM]⟩ ?_
  rintro i ⟨hi, he⟩
  refine sx ?_
  refine s_if rfl (fun t1 => ?_) (fun t1 => ?_)
  · obtain ⟨m, hm⟩ := get_lt n.ms i (by omega)
    have hmd := get_map (f := Mg.d) hm
    have hrm := hn.ms.el m (List.mem_of_getElem? hm)
    have hst := mayG_step (size := size) (ks := n.k.keys) hmd
    rw [he, hst]
    refine sx ?_
    refine s_alloc fun b6 => ?_
    refine sx ?_
    refine s_bsl [m] rfl rfl fun b18 => ?_
    refine sx ?_
    refine s_callV rfl (mcheck_s (ms := [m]) (RMs.one (by exact rmg))) ?_
    refine sx ?_
    unfold oneN
    refine s_ifn rfl (fun t2 => ?_) (fun t2 => ?_)
    · have t2' : chkM size [m.d] ≠ 0 := t2
      rw [if_pos t2', if_pos t2']
      refine sx ?_
      exact s_ret1 rfl rfl ⟨rfl, rfl⟩
    have t2' : ¬ chkM size [m.d] ≠ 0 := fun h => h t2
    simp only [if_neg t2']
    refine sx ?_
    refine s_callV rfl (within_s (n := n) (m := m) (by exact rnd) (by exact rmg)) ?_
    cases hw : withN n.k.keys m.d
    · simp only [if_true]
      refine sx ?_
      exact s_ret1 rfl rfl ⟨rfl, rfl⟩
    simp only [Bool.true_eq_false, if_false]
    by_cases h0 : i = 0
    · subst h0
      have hp : prevM n.md 0 = none := rfl
      simp only [hp, ne_eq, not_true_eq_false, if_false]
      refine sx ?_
      refine sx ?_; refine s_dr (.one true 0 (.one true 1 (.one true 2 (.one true 3 (.one true 4 (.one true 5 (.one true 6 (.one true 7 (.one true 8 (.one true 9 (.one true 10 (.one true 11 (.one false 12 (.one true 13 (.one true 14 .nil))))))))))))))) mixed (by kernel_rfl) ?_; refine sx ?_
      exact s_again 1 ⟨by omega, rfl⟩ (by omega)
    · obtain ⟨p, hp⟩ := get_lt n.ms (i - 1) (by omega)
      have hpd := get_map (f := Mg.d) hp
      have hrp := hn.ms.el p (List.mem_of_getElem? hp)
      have hpr : prevM n.md i = some p.d := by rw [prevM, if_neg h0]; exact hpd
      simp only [hpr]
      refine sx ?_
      refine sx ?_; refine s_dr (.one true 0 (.one true 1 (.one true 2 (.one true 3 (.one true 4 (.one true 5 (.one true 6 (.one true 7 (.one true 8 (.one true 9 (.one true 10 (.one true 11 (.one false 12 (.one true 13 (.one true 14 .nil))))))))))))))) mixed (by kernel_rfl) ?_; refine sx ?_
      refine s_lif rfl (fun t3 => ?_) (fun t3 => by exfalso; omega)
      refine sx ?_
      refine s_callV rfl (behind_s (n := n) (m := p) (k := m) (by exact rnd) (by exact rmg) (by exact rmg)) ?_
      cases hb : behN size n.k.keys p.d m.d
      · simp only [if_true]
        refine sx ?_
        exact s_ret1 rfl rfl ⟨rfl, rfl⟩
      · simp only [Bool.true_eq_false, if_false, ne_eq, not_true_eq_false]
        refine sx ?_
        exact s_again (i + 1) ⟨by omega, rfl⟩ (by omega)
  · obtain rfl : i = n.ms.length := by omega
    rw [List.drop_of_length_le (by simp)] at he
    rw [he]
    refine sx ?_
    exact s_ret1 rfl rfl ⟨rfl, rfl⟩
theorem pbytes_s {n : Nd} (hn : RNd w0 H n) (hb : bytesK n.k.d + sumM n.md ≤ 2305843009213693952) : FnV Tryz.prog w0 H 45 #[.agg n.cells.toArray] (.int .i64 ((bytesK n.k.d + bytesM n.md : Nat) : Int)) := by
  refine fns_enter Tryz.func45 rfl rfl rfl ?_
  have hk := hn.k
  have hm := hn.ms.sl
  refine sx ?_
  refine s_boxA rfl fun b1 => ?_
  have e : bytesM (List.map Mg.d n.ms) = 4 + sumM (List.map Mg.d n.ms) := rfl
  have e2 : bytesK n.k.d + sumM (List.map Mg.d n.ms) ≤ 2305843009213693952 := hb
  refine sx ?_; refine s_dr (.one true 0 (.one true 1 (.one true 3 (.one true 4 (.one false 2 (.one false 5 (.one true 6 (.one true 7 .nil)))))))) mixed (by kernel_rfl) ?_; refine sx ?_
  refine s_callV rfl (bbytes_s (k := n.k) (by exact rkd) (by omega)) ?_
  refine sx ?_
  refine s_callV rfl (mbytes_s (ms := n.ms) (by exact rsl) (by omega)) ?_
  refine sx ?_
  exact s_ret1 rfl rfl ⟨ci (Int.natCast_add _ _).symm, rfl⟩
theorem whole_s {n : Nd} : FnV Tryz.prog w0 H 39 #[.agg n.cells.toArray] (.agg n.cells.toArray) := by
  refine fns_enter Tryz.func39 rfl rfl rfl ?_
  refine sx ?_
  refine s_boxA rfl fun b1 => ?_
  refine sx ?_
  refine s_alloc fun b2 => ?_
  refine sx ?_
  exact s_retc rfl rfl (by exact at_) rfl ⟨rfl, rfl⟩
set_option maxHeartbeats 1000000 in
theorem ncheck_s {n : Nd} {size : Int} (hn : RNd w0 H n) (hI : ∀ p ∈ n.k.ps, I64 p) (hb : sumM n.md ≤ 1099511627776) : FnV Tryz.prog w0 H 17 #[.int .i64 size, .agg n.cells.toArray] (.int .i64 (chkN size n.k.d n.md)) := by
  refine fns_enter Tryz.func17 rfl rfl rfl ?_
  have hk := hn.k
  refine sx ?_
  refine s_boxA rfl fun b3 => ?_
  refine sx ?_
  refine s_callV rfl (bcheck_s (k := n.k) (size := size) (by exact rkd) hI) ?_
  refine sx ?_
  unfold chkN
  refine s_ifn rfl (fun t1 => ?_) (fun t1 => ?_)
  · rw [if_pos t1]
    refine sx ?_
    exact s_ret1 rfl rfl ⟨rfl, rfl⟩
  rw [if_neg (fun h => h t1)]
  obtain ⟨g1, g2, g3, g4, g5⟩ := chkK_0 t1
  have hsz := sizedB_bd g1
  refine sx ?_
  refine s_callV rfl (whole_s (n := n)) ?_
  refine sx ?_
  refine s_alloc fun b6 => ?_
  refine sx ?_
  refine s_callV rfl (bbytes_s (k := n.k) (by exact rkd) (by omega)) ?_
  refine sx ?_
  refine s_if rfl (fun t2 => ?_) (fun t2 => ?_)
  · rw [if_pos t2]
    refine sx ?_
    exact s_ret1 rfl rfl ⟨rfl, rfl⟩
  rw [if_neg t2]
  refine sx ?_
  refine s_callV rfl (pmay_s (n := n) (by exact rnd)) ?_
  refine sx ?_
  refine s_ifn rfl (fun t3 => ?_) (fun t3 => ?_)
  · rw [if_pos t3]
    refine sx ?_
    exact s_ret1 rfl rfl ⟨rfl, rfl⟩
  rw [if_neg (fun h => h t3)]
  refine sx ?_
  refine s_callV rfl (pbytes_s (n := n) (by exact rnd) (by omega)) ?_
  refine sx ?_
  refine s_if rfl (fun t4 => ?_) (fun t4 => ?_)
  · rw [if_pos t4]
    refine sx ?_
    exact s_ret1 rfl rfl ⟨rfl, rfl⟩
  rw [if_neg t4]
  refine sx ?_
  exact s_ret1 rfl rfl ⟨rfl, rfl⟩
end Go.Sx
