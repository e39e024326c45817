/- The halves that the law makes; the law NodeHalves, walked. -/
import Derived.Test.YtkcabddbeclokaaCVO
namespace Go.Sx
open Go Go.Proofs
set_option maxRecDepth 10000
variable {w0 : World} {H : List Ck}
def msF (ks : List Bs) (i k : Nat) (l : List MD) : List MD := l.filter fun m => decide (i ≤ chl ks m.lo) && decide (chl ks m.lo < k)
/-- The messages of such a part. -/
abbrev Nd.mF (n : Nd) (i k : Nat) (l : List Mg) : List Mg := l.filter fun m => decide (i ≤ chl n.k.keys m.lo) && decide (chl n.k.keys m.lo < k)
theorem mF_d (n : Nd) (i k : Nat) (l : List Mg) : (n.mF i k l).map Mg.d = msF n.k.keys i k (l.map Mg.d) := by
  rw [msF, List.filter_map]
  rfl
abbrev hfN (n : Nd) (i k : Nat) (pa ka ma : Option Addr) (pc kc mc : Nat) : Nd := ⟨⟨pa, pc, (n.k.ps.take k).drop i, ka, kc, (n.k.ks.take (k - 1)).drop i⟩, ma, mc, n.mF i k n.ms⟩
theorem RNd.hf {n : Nd} {i k : Nat} {pa ka ma : Option Addr} {pc kc mc : Nat} (h : RNd w0 H n) : RNd w0 (ol 3 pa pc ((n.k.ps.take k).drop i) :: ol 25 ka kc ((n.k.ks.take (k - 1)).drop i) :: ol 78 ma mc (n.mF i k n.ms) :: H) (hfN n i k pa ka ma pc kc mc) :=
  ⟨⟨RSl.hd, RSl.hd.tl, fun p hp => (h.k.el p (List.mem_of_mem_take (List.mem_of_mem_drop hp))).tl.tl.tl⟩, ⟨RSl.hd.tl.tl, fun m hm => (h.ms.el m (List.mem_filter.1 hm).1).tl.tl.tl⟩⟩
set_option maxHeartbeats 1000000 in
theorem nhalf_s {n : Nd} {i k : Nat} (hn : RNd w0 H n) (hs : n.Small) (hi : i < k) (hk : k ≤ n.k.ps.length) (hf : n.k.ks.length + 1 = n.k.ps.length) : FnS Try.prog w0 H 27 #[.agg n.cells.toArray, .int .i64 (i : Int), .int .i64 (k : Int)] (fun v H' => ∃ pa ka ma pc kc mc, v = .agg (hfN n i k pa ka ma pc kc mc).cells.toArray ∧ H' = ol 3 pa pc ((n.k.ps.take k).drop i) :: ol 25 ka kc ((n.k.ks.take (k - 1)).drop i) :: ol 78 ma mc (n.mF i k n.ms) :: H) := by
  refine fns_enter Try.func27 rfl rfl rfl ?_
  have hkk := hn.k
  have hps := hkk.ps
  have hks := hkk.ks
  have hms := hn.ms.sl
  have hsp := hs.p
  have hnl := sumM_len n.md
  have hsm := hs.m
  rw [show n.md.length = n.ms.length from List.length_map _] at hnl
  refine s_kn (Kn.sl hps) fun l1 => s_kn (Kn.sl hks) fun l2 => s_kn (Kn.sl hms) fun l3 => ?_
  simp only [maxLen] at l1 l2 l3
  refine sx ?_
  refine s_boxA rfl fun b3 => ?_
  refine sx ?_
  refine s_alloc fun b6 => ?_
  refine sx ?_
  refine s_bsl ([] : List Int) rfl rfl fun b11 => ?_
  refine sx ?_
  refine s_rw (t := 13) (v' := .pointer (some ((⟨b3, 0, none⟩ : Addr).add 0))) rfl rfl ?_
  refine sx ?_
  have e1 : ((n.k.ps.take k).drop i).length = k - i := by rw [List.length_drop, List.length_take]; omega
  refine s_app (xs := ([] : List Int)) (ys := (n.k.ps.take k).drop i) ?_ (hm := by rw [e1]) (hsrc := ((hps.take (k := k) hk).drop (j := i) (by rw [List.length_take]; omega)).tl.tl.tl) (hby := by rw [e1]; simp only [List.length_nil]; omega)
  intro pa pc
  rw [List.nil_append]
  refine sx ?_
  refine s_rw (t := 20) (v' := .agg [Value.slice pa ((n.k.ps.take k).drop i).length pc, .slice none ([] : List SB).length 0, .slice none ([] : List Mg).length 0].toArray) rfl rfl ?_
  refine s_alloc fun b7 => ?_
  refine sx ?_
  refine s_loop (fun q : Nat × Option Addr × Nat × List SB => [(1, .int .i64 (i : Int)), (2, .int .i64 (k : Int)), (3, .pointer (some ⟨b3, 0, none⟩)), (6, .pointer (some ⟨b6, 0, none⟩)), (7, .pointer (some ⟨b7, 0, none⟩)), (8, .int .i64 q.1)]) (fun q => .hb b7 39 [.slice pa ((n.k.ps.take k).drop i).length pc, .slice q.2.1 q.2.2.2.length q.2.2.1, .slice none ([] : List Mg).length 0] :: ol 3 pa pc ((n.k.ps.take k).drop i) :: ol 25 q.2.1 q.2.2.1 q.2.2.2 :: .hb b6 39 [.slice none 0 0, .slice none 0 0, .slice none 0 0] :: .hb b3 39 n.cells :: H) (fun q => i ≤ q.1 ∧ q.1 ≤ k - 1 ∧ q.2.2.2 = (n.k.ks.take q.1).drop i) (fun q => k - q.1) (i, none, 0, []) ⟨Nat.le_refl _, by simp only; omega, by simp only; rw [List.drop_eq_nil_of_le (by rw [List.length_take]; omega)]⟩ ?_ (he := Ent.head (Ent.head (Ent.nilS.trans (Ent.head Ent.refl))))
  rintro ⟨j, ka, kc, qs⟩ ⟨g1, g2, g3⟩
  simp only at g1 g2 g3 ⊢
  refine sx ?_
  refine s_if rfl (fun t1 => ?_) (fun t1 => ?_)
  · obtain ⟨p, hp⟩ := get_lt n.k.ks j (by omega)
    have hsn : (n.k.ks.take (j + 1)).drop i = qs ++ [p] := by
      rw [snocT hp, List.drop_append_of_le_length (by rw [List.length_take]; omega), g3]
    have hql : qs.length ≤ n.k.ks.length := by rw [g3, List.length_drop, List.length_take]; omega
    refine sx ?_
    refine sx ?_; refine s_drH (.hb b3 39 n.cells :: H) (.one true 0 (.one true 1 (.one true 3 (.one true 4 (.one true 5 (.one true 6 (.one true 7 (.one true 8 (.alt (.one false 2 (.one false 9 (.one false 10 (.one true 11 (.one true 12 (.one false 13 .nil)))))) (.one false 9 (.one false 2 (.one false 10 (.one true 11 (.one true 12 (.one false 13 .nil))))))))))))))) mixed (by kernel_rfl) ?_; refine sx ?_
    refine s_rw (t := 29) (v' := .pointer (some ((⟨b7, 0, none⟩ : Addr).add 1))) rfl rfl ?_
    refine sx ?_
    refine s_rw (t := 32) (v' := .pointer (some ((⟨b3, 0, none⟩ : Addr).add 1))) rfl rfl ?_
    refine sx ?_
    refine s_alt ?_ ?_
    · refine s_yA rfl rfl (by exact yy) ?_ (chk_held (by exact ent))
      refine s_bsl [p] rfl rfl fun b37 => ?_
      refine s_app (xs := qs) (ys := [p]) ?_ (hby := by simp only [List.length_cons, List.length_nil]; omega)
      intro a4 c4
      refine sx ?_
      exact s_again (j + 1, a4, c4, qs ++ [p]) ⟨by simp only; omega, by simp only; omega, hsn.symm⟩ (by simp only; omega)
    · refine s_bsl [p] rfl rfl fun b37 => ?_
      refine s_yA rfl rfl (by exact yy) ?_ (chk_held (by exact ent))
      refine s_app (xs := qs) (ys := [p]) ?_ (hby := by simp only [List.length_cons, List.length_nil]; omega)
      intro a4 c4
      refine sx ?_
      exact s_again (j + 1, a4, c4, qs ++ [p]) ⟨by simp only; omega, by simp only; omega, hsn.symm⟩ (by simp only; omega)
  obtain rfl : j = k - 1 := by omega
  subst g3
  refine sx ?_
  refine s_loop (fun q : Nat × Option Addr × Nat => [(1, .int .i64 (i : Int)), (2, .int .i64 (k : Int)), (3, .pointer (some ⟨b3, 0, none⟩)), (6, .pointer (some ⟨b6, 0, none⟩)), (7, .pointer (some ⟨b7, 0, none⟩)), (9, .int .i64 q.1)]) (fun q => .hb b7 39 [.slice pa ((n.k.ps.take k).drop i).length pc, .slice ka ((n.k.ks.take (k - 1)).drop i).length kc, .slice q.2.1 (n.mF i k (n.ms.take q.1)).length q.2.2] :: ol 3 pa pc ((n.k.ps.take k).drop i) :: ol 25 ka kc ((n.k.ks.take (k - 1)).drop i) :: ol 78 q.2.1 q.2.2 (n.mF i k (n.ms.take q.1)) :: .hb b6 39 [.slice none 0 0, .slice none 0 0, .slice none 0 0] :: .hb b3 39 n.cells :: H) (fun q => q.1 ≤ n.ms.length) (fun q => n.ms.length - q.1) (0, none, 0) (Nat.zero_le _) ?_ (he := Ent.head (Ent.head (Ent.head (Ent.nilS.trans (Ent.head Ent.refl)))))
  rintro ⟨j, ma, mc⟩ hj
  simp only at hj ⊢
  refine sx ?_
  refine s_if rfl (fun t1 => ?_) (fun t1 => ?_)
  · obtain ⟨m, hm⟩ := get_lt n.ms j (by omega)
    have hrm := hn.ms.el m (List.mem_of_getElem? hm)
    have hlo := hrm.lo
    have hml : (n.mF i k (n.ms.take j)).length ≤ n.ms.length := by
      exact Nat.le_trans (List.length_filter_le _ _) (by rw [List.length_take]; omega)
    have hst : n.mF i k (n.ms.take (j + 1)) = n.mF i k (n.ms.take j) ++ (if i ≤ chl n.k.keys m.lo ∧ chl n.k.keys m.lo < k then [m] else []) := by
      rw [snocT hm, Nd.mF, List.filter_append]
      congr 1
      by_cases h : i ≤ chl n.k.keys m.lo ∧ chl n.k.keys m.lo < k
      · rw [if_pos h]; simp [h.1, h.2]
      · rw [if_neg h]; simp; omega
    generalize n.mF i k (n.ms.take j) = qs at hml hst ⊢
    refine sx ?_; refine s_dr (.one true 0 (.one true 1 (.one true 2 (.one true 3 (.one true 4 (.one true 5 (.one true 6 (.one true 7 (.one false 8 (.one true 9 .nil)))))))))) mixed (by kernel_rfl) ?_; refine sx ?_
    refine s_callV rfl (bchild_s (k := n.k) (key := m.lo) (by exact rkd) (by exact rby)) ?_
    refine sx ?_
    refine s_lif rfl (fun t2 => ?_) (fun t2 => ?_)
    · refine sx ?_
      refine s_if rfl (fun t3 => ?_) (fun t3 => ?_)
      · rw [if_pos ⟨by omega, by omega⟩] at hst
        refine sx ?_
        refine sx ?_; refine s_drH (.hb b3 39 n.cells :: H) (.one true 0 (.one true 2 (.one true 3 (.one true 4 (.one true 5 (.one true 6 (.alt (.one false 1 (.one false 7 (.one false 8 (.one true 9 (.one false 10 .nil))))) (.one false 7 (.one false 1 (.one false 8 (.one true 9 (.one false 10 .nil)))))))))))) mixed (by kernel_rfl) ?_; refine sx ?_
        refine s_alt ?_ ?_
        · refine s_yA rfl rfl (by exact yy) ?_ (chk_held (by exact ent))
          refine s_bsl [m] rfl rfl fun b72 => ?_
          refine s_app (xs := qs) (ys := [m]) ?_ (hby := by simp only [List.length_cons, List.length_nil]; omega)
          intro a4 c4
          rw [← hst]
          refine sx ?_
          exact s_again (j + 1, a4, c4) (by simp only; omega) (by simp only; omega)
        · refine s_bsl [m] rfl rfl fun b72 => ?_
          refine s_yA rfl rfl (by exact yy) ?_ (chk_held (by exact ent))
          refine s_app (xs := qs) (ys := [m]) ?_ (hby := by simp only [List.length_cons, List.length_nil]; omega)
          intro a4 c4
          rw [← hst]
          refine sx ?_
          exact s_again (j + 1, a4, c4) (by simp only; omega) (by simp only; omega)
      · rw [if_neg (by omega), List.append_nil] at hst
        rw [← hst]
        refine sx ?_
        exact s_again (j + 1, ma, mc) (by simp only; omega) (by simp only; omega)
    · rw [if_neg (by omega), List.append_nil] at hst
      rw [← hst]
      refine sx ?_
      exact s_again (j + 1, ma, mc) (by simp only; omega) (by simp only; omega)
  · obtain rfl : j = n.ms.length := by omega
    rw [List.take_length]
    refine sx ?_
    exact s_retc rfl rfl (by exact at_) rfl ⟨pa, ka, ma, pc, kc, mc, rfl, rfl⟩
end Go.Sx
