/- Are messages good? How many bytes have they? By the program and by the document. -/
import Derived.Test.YtimakbpghggdfaaGreatCQ0j
namespace Go.Sx
open Go Go.Proofs
set_option maxRecDepth 10000
variable {w0 : World} {H : List Ck}
set_option maxHeartbeats 1000000 in
theorem mcheck_s {size : Int} {a : Option Addr} {c : Nat} {ms : List Mg} (hx : RMs w0 H a c ms) : FnV Tryz.prog w0 H 33 #[.int .i64 size, .slice a ms.length c] (.int .i64 (chkM size (ms.map Mg.d))) := by
  have hsl := hx.sl
  refine fns_enter Tryz.func33 rfl rfl rfl ?_
  refine s_kn (Kn.sl hsl) fun l1 => ?_
  simp only [maxLen] at l1
  refine sx ?_
  refine s_callV rfl msized_s ?_
  unfold chkM
  cases hs : sizedB size
  · refine sx ?_
    exact s_ret1 rfl rfl ⟨rfl, rfl⟩
  rw [if_pos rfl]
  refine sx ?_
  refine s_loop (fun i : Nat × Int => [(0, .int .i64 size), (5, .int .u64 i.2), (11, .slice a ms.length c), (12, .int .i64 ms.length), (13, .int .i64 i.1)]) (fun _ => H) (fun i => i.1 ≤ ms.length ∧ chkG size 0 (ms.map Mg.d) = chkG size i.2 ((ms.map Mg.d).drop i.1)) (fun i => ms.length - i.1) (0, 0) ⟨Nat.zero_le _, by simp⟩ ?_
  rintro ⟨i, last⟩ ⟨hi, he⟩
  simp only at hi he ⊢
  refine sx ?_
  refine s_if rfl (fun t1 => ?_) (fun t1 => ?_)
  · obtain ⟨m, hm⟩ := get_lt ms i (by omega)
    have hst := chkG_step (size := size) (last := last) (get_map (f := Mg.d) hm)
    rw [he, hst]
    refine sx ?_
    refine s_alloc fun b7 => ?_
    refine sx ?_
    refine s_callV rfl (mmay_s (m := m) hs (by repeat (first | exact hx.el m (List.mem_of_getElem? hm) | apply RMg.tl))) ?_
    cases hmay : mayM size m.d
    · rw [if_pos rfl]
      refine sx ?_
      exact s_ret1 rfl rfl ⟨rfl, rfl⟩
    rw [if_neg (by decide)]
    refine sx ?_
    refine s_lif rfl (fun t2 => ?_) (fun t2 => ?_)
    · rw [if_pos (.inl t2)]
      refine sx ?_
      exact s_ret1 rfl rfl ⟨rfl, rfl⟩
    · refine sx ?_
      refine s_if rfl (fun t3 => ?_) (fun t3 => ?_)
      · rw [if_pos (.inr t3)]
        refine sx ?_
        exact s_ret1 rfl rfl ⟨rfl, rfl⟩
      · rw [if_neg (fun h => h.elim t2 t3)]
        refine sx ?_
        exact s_again (i + 1, m.st) ⟨by simp only; omega, rfl⟩ (by simp only; omega)
  · obtain rfl : i = ms.length := by omega
    rw [List.drop_of_length_le (by simp)] at he
    rw [he]
    refine sx ?_
    exact s_ret1 rfl rfl ⟨rfl, rfl⟩
theorem mbytes_s {a : Option Addr} {c : Nat} {ms : List Mg} (hx : RSl w0 H a c ms) (hb : sumM (ms.map Mg.d) ≤ 4611686018427387904) : FnV Tryz.prog w0 H 20 #[.slice a ms.length c] (.int .i64 (bytesM (ms.map Mg.d) : Nat)) := by
  refine fns_enter Tryz.func20 rfl rfl rfl ?_
  refine s_kn (Kn.sl hx) fun l1 => ?_
  simp only [maxLen] at l1
  refine sx ?_
  refine s_loop (fun i : Nat => [(3, .int .i64 (bytesM ((ms.map Mg.d).take i) : Nat)), (6, .slice a ms.length c), (7, .int .i64 ms.length), (8, .int .i64 i)]) (fun _ => H) (fun i => i ≤ ms.length) (fun i => ms.length - i) 0 (Nat.zero_le _) ?_
  intro i hi
  refine sx ?_
  refine s_if rfl (fun t1 => ?_) (fun t1 => ?_)
  · obtain ⟨m, hm⟩ := get_lt ms i (by omega)
    have h1 := sumM_get (get_map (f := Mg.d) hm)
    have h2 := sumM_take (ms.map Mg.d) (i + 1)
    have e1 : bytesM ((ms.map Mg.d).take i) = 4 + sumM ((ms.map Mg.d).take i) := rfl
    have e2 : bytesM ((ms.map Mg.d).take (i + 1)) = 4 + sumM ((ms.map Mg.d).take (i + 1)) := rfl
    have e3 : lenM m.d = 13 + m.lo.length + m.hi.length + m.v.length := rfl
    refine sx ?_
    refine s_alloc fun b7 => ?_
    refine sx ?_
    exact s_again (i + 1) (by omega) (by omega)
  · obtain rfl : i = ms.length := by omega
    have e : (ms.map Mg.d).take ms.length = ms.map Mg.d := List.take_of_length_le (by simp)
    rw [e]
    refine sx ?_
    exact s_ret1 rfl rfl ⟨rfl, rfl⟩
theorem rkey_s {a : Option Addr} {c : Nat} {xs : Bs} {n : Int} (hx : RBy w0 H a c xs) : FnV Tryz.prog w0 H 150 #[.slice a xs.length c, .int .i64 n] (.bool (decide (1 ≤ xs.length) && decide ((xs.length : Int) ≤ n))) := by
  refine fns_enter Tryz.func150 rfl rfl rfl ?_
  refine sx ?_
  refine s_lif rfl (fun t1 => ?_) (fun t1 => ?_)
  · refine sx ?_
    refine s_ret1 rfl rfl ⟨?_, rfl⟩
    rw [decide_eq_true (show 1 ≤ xs.length by omega), Bool.true_and]
  · refine sx ?_
    refine s_ret1 rfl rfl ⟨?_, rfl⟩
    rw [decide_eq_false (show ¬ 1 ≤ xs.length by omega), Bool.false_and]
theorem rnone_s {a : Option Addr} {c : Nat} {xs : Bs} : FnV Tryz.prog w0 H 151 #[.slice a xs.length c] (.bool (decide (xs.length = 0))) := by
  refine fns_enter Tryz.func151 rfl rfl rfl ?_
  refine sx ?_
  refine s_ret1 rfl rfl ⟨?_, rfl⟩
  rw [decide_eq_decide.2 (show ((xs.length : Nat) : Int) = 0 ↔ xs.length = 0 by omega)]
set_option maxHeartbeats 1000000 in
theorem rmay_s {size : Int} {m : Mg} (hs : sizedB size = true) (hm : RMg w0 H m) : FnV Tryz.prog w0 H 118 #[.int .i64 size, .agg m.cells.toArray] (.bool (mayM size m.d)) := by
  have hlo := hm.lo
  have hhi := hm.hi
  have hv := hm.v
  have hsz := sizedB_bd hs
  refine fns_enter Tryz.func118 rfl rfl rfl ?_
  refine sx ?_
  refine s_boxA rfl fun b3 => ?_
  refine sx ?_
  refine s_callV rfl (rkey_s (xs := m.lo) (by exact rby)) ?_
  have e0 : (decide (1 ≤ m.lo.length) && decide ((m.lo.length : Int) ≤ size / 16)) = keyB size m.lo := rfl
  rw [e0]
  unfold mayM
  simp only
  cases keyB size m.lo
  · refine sx ?_
    refine s_ret1 rfl rfl ⟨?_, rfl⟩
    simp
  refine sx ?_
  refine s_if rfl (fun t1 => ?_) (fun t1 => ?_)
  · rw [if_pos t1]
    refine sx ?_
    refine s_callV rfl (rnone_s (xs := m.hi)) ?_
    cases decide (m.hi.length = 0)
    · refine sx ?_
      exact s_ret1 rfl rfl ⟨rfl, rfl⟩
    refine sx ?_
    exact s_ret1 rfl rfl ⟨rfl, rfl⟩
  rw [if_neg t1]
  refine sx ?_
  refine s_if rfl (fun t2 => ?_) (fun t2 => ?_)
  · rw [if_pos t2]
    refine sx ?_
    refine s_callV rfl (rnone_s (xs := m.hi)) ?_
    cases decide (m.hi.length = 0)
    · refine sx ?_
      exact s_ret1 rfl rfl ⟨rfl, rfl⟩
    refine sx ?_
    refine s_callV rfl (rnone_s (xs := m.v)) ?_
    refine sx ?_
    exact s_ret1 rfl rfl ⟨rfl, rfl⟩
  rw [if_neg t2]
  refine sx ?_
  refine s_if rfl (fun t3 => ?_) (fun t3 => ?_)
  · rw [if_pos t3]
    refine sx ?_
    refine s_callV rfl (rkey_s (xs := m.hi) (by exact rby)) ?_
    have e1 : (decide (1 ≤ m.hi.length) && decide ((m.hi.length : Int) ≤ size / 16)) = keyB size m.hi := rfl
    rw [e1]
    refine sx ?_
    refine s_callV rfl (qless0_s (xs := m.lo) (ys := m.hi) (by exact rby) (by exact rby)) ?_
    cases keyB size m.hi
    · refine sx ?_
      exact s_ret1 rfl rfl ⟨rfl, rfl⟩
    cases decide (cmp m.lo m.hi < 0)
    · refine sx ?_
      exact s_ret1 rfl rfl ⟨rfl, rfl⟩
    refine sx ?_
    refine s_callV rfl (rnone_s (xs := m.v)) ?_
    refine sx ?_
    exact s_ret1 rfl rfl ⟨rfl, rfl⟩
  rw [if_neg t3]
  refine sx ?_
  exact s_ret1 rfl rfl ⟨rfl, rfl⟩
set_option maxHeartbeats 1000000 in
theorem rmcheck_s {size : Int} {a : Option Addr} {c : Nat} {ms : List Mg} (hx : RMs w0 H a c ms) : FnV Tryz.prog w0 H 88 #[.int .i64 size, .slice a ms.length c] (.int .i64 (chkM size (ms.map Mg.d))) := by
  have hsl := hx.sl
  refine fns_enter Tryz.func88 rfl rfl rfl ?_
  refine s_kn (Kn.sl hsl) fun l1 => ?_
  simp only [maxLen] at l1
  have stp : StopAt 1 := trivial
  refine sxs ?_
  clear stp
  refine s_cut (ι := Bool) (fun t => [(0, .int .i64 size), (1, .slice a ms.length c), (21, .bool t)]) (fun _ => H) (fun t => t = !sizedB size) ?_ ?_
  · refine sx ?_
    refine s_lifn rfl (fun t1 => ?_) (fun t1 => ?_)
    · refine sx ?_
      refine s_lifn rfl (fun t2 => ?_) (fun t2 => ?_)
      · refine sx ?_
        refine s_lifn rfl (fun t3 => ?_) (fun t3 => ?_)
        · refine sx ?_
          refine s_mid (!decide (size = 4096)) ?_
          simp [sizedB, t1, t2, t3]
        · refine sx ?_
          refine s_mid false ?_
          simp [sizedB, t3]
      · refine sx ?_
        refine s_mid false ?_
        simp [sizedB, t2]
    · refine sx ?_
      refine s_mid false ?_
      simp [sizedB, t1]
  rintro _ rfl
  unfold chkM
  cases hs : sizedB size
  · refine sx ?_
    exact s_ret1 rfl rfl ⟨rfl, rfl⟩
  rw [if_pos rfl]
  refine sx ?_
  refine s_loop (fun i : Nat × Int => [(0, .int .i64 size), (1, .slice a ms.length c), (5, .int .u64 i.2), (6, .int .i64 i.1)]) (fun _ => H) (fun i => i.1 ≤ ms.length ∧ chkG size 0 (ms.map Mg.d) = chkG size i.2 ((ms.map Mg.d).drop i.1)) (fun i => ms.length - i.1) (0, 0) ⟨Nat.zero_le _, by simp⟩ ?_
  rintro ⟨i, last⟩ ⟨hi, he⟩
  simp only at hi he ⊢
  refine sx ?_
  refine s_if rfl (fun t1 => ?_) (fun t1 => ?_)
  · obtain ⟨m, hm⟩ := get_lt ms i (by omega)
    have hst := chkG_step (size := size) (last := last) (get_map (f := Mg.d) hm)
    rw [he, hst]
    refine sx ?_
    refine s_callV rfl (rmay_s (m := m) hs (by repeat (first | exact hx.el m (List.mem_of_getElem? hm) | apply RMg.tl))) ?_
    cases hmay : mayM size m.d
    · rw [if_pos rfl]
      refine sx ?_
      exact s_ret1 rfl rfl ⟨rfl, rfl⟩
    rw [if_neg (by decide)]
    refine sx ?_
    refine s_lif rfl (fun t2 => ?_) (fun t2 => ?_)
    · rw [if_pos (.inl t2)]
      refine sx ?_
      exact s_ret1 rfl rfl ⟨rfl, rfl⟩
    · refine sx ?_
      refine s_if rfl (fun t3 => ?_) (fun t3 => ?_)
      · rw [if_pos (.inr t3)]
        refine sx ?_
        exact s_ret1 rfl rfl ⟨rfl, rfl⟩
      · rw [if_neg (fun h => h.elim t2 t3)]
        refine sx ?_
        exact s_again (i + 1, m.st) ⟨by simp only; omega, rfl⟩ (by simp only; omega)
  · obtain rfl : i = ms.length := by omega
    rw [List.drop_of_length_le (by simp)] at he
    rw [he]
    refine sx ?_
    exact s_ret1 rfl rfl ⟨rfl, rfl⟩
theorem rmbytes_s {a : Option Addr} {c : Nat} {ms : List Mg} (hx : RSl w0 H a c ms) (hb : sumM (ms.map Mg.d) ≤ 4611686018427387904) : FnV Tryz.prog w0 H 89 #[.slice a ms.length c] (.int .i64 (bytesM (ms.map Mg.d) : Nat)) := by
  refine fns_enter Tryz.func89 rfl rfl rfl ?_
  refine s_kn (Kn.sl hx) fun l1 => ?_
  simp only [maxLen] at l1
  refine sx ?_
  refine s_loop (fun i : Nat => [(0, .slice a ms.length c), (3, .int .i64 (bytesM ((ms.map Mg.d).take i) : Nat)), (4, .int .i64 i)]) (fun _ => H) (fun i => i ≤ ms.length) (fun i => ms.length - i) 0 (Nat.zero_le _) ?_
  intro i hi
  refine sx ?_
  refine s_if rfl (fun t1 => ?_) (fun t1 => ?_)
  · obtain ⟨m, hm⟩ := get_lt ms i (by omega)
    have h1 := sumM_get (get_map (f := Mg.d) hm)
    have h2 := sumM_take (ms.map Mg.d) (i + 1)
    have e1 : bytesM ((ms.map Mg.d).take i) = 4 + sumM ((ms.map Mg.d).take i) := rfl
    have e2 : bytesM ((ms.map Mg.d).take (i + 1)) = 4 + sumM ((ms.map Mg.d).take (i + 1)) := rfl
    have e3 : lenM m.d = 13 + m.lo.length + m.hi.length + m.v.length := rfl
    refine sx ?_; refine s_dr (.one true 0 (.one true 1 (.one true 2 (.one true 3 (.one true 4 (.one true 5 (.one true 6 (.one true 7 (.one true 8 (.one true 9 (.one true 10 (.one true 11 (.one true 12 (.one true 13 (.one true 14 (.one true 15 (.one true 16 (.one true 17 (.one true 18 (.one true 19 (.one true 20 (.one true 21 (.one true 22 (.one true 23 .nil)))))))))))))))))))))))) mixed (by kernel_rfl) ?_; refine sx ?_
    exact s_again (i + 1) (by omega) (by omega)
  · obtain rfl : i = ms.length := by omega
    have e : (ms.map Mg.d).take ms.length = ms.map Mg.d := List.take_of_length_le (by simp)
    rw [e]
    refine sx ?_
    exact s_ret1 rfl rfl ⟨rfl, rfl⟩
end Go.Sx
