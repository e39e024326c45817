/- Part of a proof: the law DeadOrder, walked. -/
import Derived.Test.YtceandgmpcpmfaaCDB
namespace Go.Sx
open Go Go.Proofs
set_option maxRecDepth 10000
variable {w0 : World} {H : List Ck}
theorem rch {b : Nat} {vs : List Value} (h : RcH w0 H b vs := by (repeat (first | exact RcH.hd | apply RcH.tl)); first | done | fail) : RcH w0 H b vs := h
theorem dcountR_s {d n c : Nat} {a : Option Addr} (hd : RcH w0 H d [.slice a n c]) : FnV Try.prog w0 H 12 #[.pointer (some ⟨d, 0, none⟩)] (.int .i64 n) := by
  refine fns_enter Try.func12 rfl rfl rfl ?_
  refine sx ?_
  refine s_yS rfl rfl rfl (y_ld rfl (Rc.hbS hd rfl)) ?_
  refine sx ?_
  exact s_ret1 rfl rfl ⟨rfl, rfl⟩
theorem count_snoc {xs : List Lf} {k : Nat} {y x : Lf} (h : xs[k]? = some y) : (xs.take (k + 1)).countP (fun z => decide (z = x)) = (xs.take k).countP (fun z => decide (z = x)) + if y = x then 1 else 0 := by
  rw [snocT h, List.countP_append]
  by_cases e : y = x <;> simp [e]
set_option maxHeartbeats 4000000 in
theorem order_law {a : Option Addr} {c : Nat} {l : List Lf} (hx : RSl w0 H a c l) (hl : l.length ≤ 5864062014805) : FnV Try.prog w0 H 5 #[.slice a l.length c] (.bool true) := by
  have hok : Srt (fillL l).1 ∧ (fillL l).1.Perm (fillL l).2 := fillL_ok l
  have hln := fill_len l
  have hln1 := fill_len1 l
  have hrev := fill_rev l
  have hcnt : ∀ x ∈ (fillL l).2, (fillL l).1.countP (fun y => decide (y = x)) = 1 := fun x hx => fill_count hx
  refine fns_enter Try.func5 rfl rfl rfl ?_
  refine sx ?_
  refine s_callV rfl awake_s ?_
  refine sx ?_
  refine s_call rfl (filled_s hx hl) ?_
  rintro _ _ ⟨d, a1, c1, a2, c2, rfl, rfl⟩
  generalize (fillL l).1 = xs at *
  generalize (fillL l).2 = ins at *
  refine ⟨chk_seq, ?_⟩
  refine sx ?_
  refine s_call rfl (dlives_s (xs := xs) (by omega)) ?_
  rintro _ _ ⟨a6, c6, rfl, rfl⟩
  refine ⟨chk_seq, ?_⟩
  refine sx ?_
  refine s_loop (fun m : Nat × Option Addr × Nat => [(4, .pointer (some ⟨d, 0, none⟩)), (5, .slice a2 ins.length c2), (6, .slice a6 xs.length c6), (7, .slice m.2.1 (ins.reverse.take m.1).length m.2.2), (8, .int .i64 ((ins.length : Int) - 1 - m.1))])
    (fun m => ol 34 m.2.1 m.2.2 (ins.reverse.take m.1) :: ol 34 a6 c6 xs :: .hb d 63 [.slice a1 xs.length c1] :: ol 34 a1 c1 xs :: ol 34 a2 c2 ins :: H) (fun m => m.1 ≤ ins.length) (fun m => ins.length - m.1) (0, none, 0) (Nat.zero_le _) ?_ (he := Ent.nilS)
  rintro ⟨k, a7, c7⟩ hk
  simp only at hk ⊢
  have htl : (ins.reverse.take k).length = k := by rw [List.length_take, List.length_reverse]; omega
  refine sx ?_
  refine s_if rfl (fun t1 => ?_) (fun t1 => ?_)
  · obtain ⟨x, hxk⟩ := get_lt ins (ins.length - 1 - k) (by omega)
    have hrs := rev_snoc (by omega) hxk
    refine s_rwC (t := 8) (v' := .int .i64 ((ins.length - 1 - k : Nat) : Int)) rfl (ci (by omega)) ?_
    refine sx ?_
    refine s_bsl [x] rfl rfl fun b43 => ?_
    refine sx ?_
    refine s_app (xs := ins.reverse.take k) ?_
    intro a8 c8
    refine sx ?_
    rw [← hrs]
    exact s_again (k + 1, a8, c8) (by simp only; omega) (by simp only; omega)
  obtain rfl : k = ins.length := by omega
  have e7 : ins.reverse.take ins.length = ins.reverse := List.take_of_length_le (by rw [List.length_reverse]; exact Nat.le_refl _)
  rw [e7]
  refine sx ?_
  refine s_call rfl (filled_s (l := ins.reverse) (by exact rsl) (by rw [List.length_reverse]; omega)) ?_
  rintro _ _ ⟨e, a9, c9, a10, c10, rfl, rfl⟩
  rw [hrev]
  refine ⟨chk_seq, ?_⟩
  simp only [List.length_reverse]
  refine sx ?_
  refine s_lifn rfl (fun t2 => absurd (by omega) t2) (fun t2 => ?_)
  refine sx ?_
  refine s_callV rfl (dcountR_s (n := xs.length) (by exact rch)) ?_
  refine sx ?_
  refine s_ifn rfl (fun t3 => absurd t2 t3) (fun t3 => ?_)
  refine sx ?_
  have hpw := List.pairwise_iff_getElem.1 hok.1.1
  refine s_loop (fun i : Nat => [(5, .slice a2 ins.length c2), (6, .slice a6 xs.length c6), (9, .pointer (some ⟨e, 0, none⟩)), (11, .int .i64 i)]) (fun _ => ol 34 a9 c9 xs :: ol 34 a6 c6 xs :: .hb e 63 [.slice a9 xs.length c9] :: ol 34 a2 c2 ins :: H) (fun i => 1 ≤ i) (fun i => xs.length - i) 1 (Nat.le_refl _) ?_
  rintro i hi
  refine sx ?_
  refine s_if rfl (fun t4 => ?_) (fun t4 => ?_)
  · obtain ⟨u, hu⟩ := get_lt xs (i - 1) (by omega)
    obtain ⟨v, hv⟩ := get_lt xs i (by omega)
    have huv : Ahead u v := by
      obtain ⟨g1, g2⟩ := List.getElem?_eq_some_iff.1 hu
      obtain ⟨g3, g4⟩ := List.getElem?_eq_some_iff.1 hv
      have := hpw (i - 1) i g1 g3 (by omega)
      rwa [g2, g4] at this
    unfold Ahead at huv
    refine sx ?_
    refine s_alloc fun b12 => ?_
    refine sx ?_
    refine s_alloc fun b13 => ?_
    refine sx ?_
    refine s_lif rfl (fun t5 => by exfalso; omega) (fun t5 => ?_)
    refine sx ?_
    refine s_lif rfl (fun t6 => ?_) (fun t6 => ?_)
    · refine sx ?_
      refine s_if rfl (fun t7 => by exfalso; omega) (fun t7 => ?_)
      refine sx ?_
      exact s_again (i + 1) (by omega) (by omega)
    · refine sx ?_
      exact s_again (i + 1) (by omega) (by omega)
  refine sx ?_
  refine s_loop (fun i : Nat => [(5, .slice a2 ins.length c2), (6, .slice a6 xs.length c6), (9, .pointer (some ⟨e, 0, none⟩)), (14, .int .i64 i)]) (fun _ => ol 34 a9 c9 xs :: ol 34 a6 c6 xs :: .hb e 63 [.slice a9 xs.length c9] :: ol 34 a2 c2 ins :: H) (fun _ => True) (fun i => ins.length - i) 0 trivial ?_
  rintro j -
  refine sx ?_
  refine s_if rfl (fun t8 => ?_) (fun t8 => ?_)
  · obtain ⟨x, hxj⟩ := get_lt ins j (by omega)
    have hc1 := hcnt x (List.mem_of_getElem? hxj)
    refine sx ?_
    refine s_loop (fun k : Nat => [(5, .slice a2 ins.length c2), (6, .slice a6 xs.length c6), (9, .pointer (some ⟨e, 0, none⟩)), (14, .int .i64 j), (15, .int .i64 ((xs.take k).countP (fun z => decide (z = x)) : Nat)), (16, .int .i64 k)]) (fun _ => ol 34 a9 c9 xs :: ol 34 a6 c6 xs :: .hb e 63 [.slice a9 xs.length c9] :: ol 34 a2 c2 ins :: H) (fun k => k ≤ xs.length) (fun k => xs.length - k) 0 (Nat.zero_le _) ?_
    rintro k hk2
    have hcl : (xs.take k).countP (fun z => decide (z = x)) ≤ k := by
      refine Nat.le_trans List.countP_le_length ?_
      rw [List.length_take]
      omega
    refine sx ?_
    refine s_if rfl (fun t9 => ?_) (fun t9 => ?_)
    · obtain ⟨y, hy⟩ := get_lt xs k (by omega)
      have hcs := count_snoc (x := x) hy
      refine sx ?_; refine s_dr (.one true 0 (.one true 1 (.one true 2 (.one true 3 (.one true 4 (.one true 5 (.one true 6 (.one true 7 (.one true 8 .nil))))))))) mixed (by kernel_rfl) ?_; refine sx ?_
      refine (s_gH (s_yH rfl rfl rfl (y_eqA y x rfl rfl rfl rfl) ?_))
      refine sx ?_
      refine s_if rfl (fun t10 => ?_) (fun t10 => ?_)
      · rw [if_pos t10] at hcs
        refine sx ?_
        exact s_again (k + 1) (by omega) (by omega)
      · rw [if_neg t10] at hcs
        refine sx ?_
        exact s_again (k + 1) (by omega) (by omega)
    · obtain rfl : k = xs.length := by omega
      rw [List.take_length, hc1]
      refine sx ?_
      exact s_again (j + 1) trivial (by omega)
  refine sx ?_
  refine s_entL (.hb e 63 [.slice a9 xs.length c9] :: ol 34 a9 c9 xs :: ol 34 a6 c6 xs :: H) (by exact ent) ?_
  refine s_call rfl (dlives_s (xs := xs) (by omega)) ?_
  rintro _ _ ⟨a13, c13, rfl, rfl⟩
  refine ⟨chk_seq, ?_⟩
  refine sx ?_
  refine s_callV rfl (sameL_s (xs := xs) (ys := xs) (by exact rsl) (by exact rsl)) ?_
  refine sx ?_
  exact s_ret1 rfl rfl ⟨by rw [decide_eq_true rfl], rfl⟩
end Go.Sx
