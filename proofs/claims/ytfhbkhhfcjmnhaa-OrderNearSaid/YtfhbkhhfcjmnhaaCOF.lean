/- Part of a proof: OrderNear, walked. -/
import Derived.Test.YtfhbkhhfcjmnhaaCOE
namespace Go.Sx
open Go Go.Proofs
set_option maxRecDepth 10000
variable {w0 : World} {H : List Ck}
set_option maxHeartbeats 1000000 in
theorem near_s {xs ys zs : Bs} {a a' a2 : Option Addr} {c c' c2 : Nat} (ha : RBy w0 H a c xs) (hb : RBy w0 H a' c' ys) (hc : RBy w0 H a2 c2 zs) (h1 : xs.length ≤ 140737488351232) (h2 : ys.length ≤ 140737488351232) : FnV Try.prog w0 H 8 #[.slice a xs.length c, .slice a' ys.length c', .slice a2 zs.length c2] (.bool true) := by
  refine fns_enter Try.func8 rfl rfl rfl ?_
  refine s_kn (Kn.by ha) fun l1 => s_kn (Kn.by hb) fun l2 => ?_
  simp only [maxLen] at l1 l2
  refine sx ?_
  refine s_callV rfl awake_s ?_
  refine sx ?_
  refine s_call rfl (onext_s ha (by omega)) ?_
  rintro _ _ ⟨an, cn, rfl, rfl⟩
  refine ⟨chk_seq, ?_⟩
  refine sx ?_
  refine s_callV rfl (compare_s (xs := xs) (ys := xs ++ [0]) (by exact rby) (by exact rby)) ?_
  rw [cmp_next]
  refine sx ?_
  refine s_callV rfl (compare_s (xs := xs) (ys := zs) (by exact rby) (by exact rby)) ?_
  refine sx ?_
  refine s_lif rfl (fun z0 => ?_) (fun z0 => ?_)
  focus
    have nn := near_next xs zs (by omega)
    refine sx ?_
    refine s_callV rfl (compare_s (xs := zs) (ys := xs ++ [0]) (by exact rby) (by exact rby)) ?_
    refine sx ?_
    refine s_rw (t := 10) (v' := .bool false) rfl (by rw [decide_eq_false]; omega) ?_
  all_goals
    refine sx ?_
    refine s_call rfl (obetween_s (xs := xs) (ys := ys) (by exact rby) (by exact rby) (by omega)) ?_
    rintro _ _ ⟨ak, ck, rfl, rfl⟩
    refine ⟨chk_seq, ?_⟩
    by_cases hlt : cmp xs ys < 0
    · have e1 : betK xs ys = btw xs ys := by rw [betK, if_pos hlt]
      have e2 : betE xs ys = 0 := by rw [betE, if_pos hlt]
      have hbl := btw_len hlt
      have hcl := common_le xs ys
      have htl : (btw xs ys).length = common xs ys + 1 := by rw [btw, List.length_take]; omega
      have ht : RBy w0 H a' c' (btw xs ys) := hb.take (by omega)
      have ba := btw_above hlt
      have bl : cmp (btw xs ys) ys ≤ 0 := take_le _ _
      rw [e1, e2]
      refine sx ?_
      refine s_callV rfl (compare_s (xs := xs) (ys := ys) (by exact rby) (by exact rby)) ?_
      refine sx ?_
      refine s_cF rfl (by simp [hlt]) ?_
      refine sx ?_
      refine sx ?_; refine s_dr (.one true 0 (.one true 1 (.one true 2 (.one true 3 (.one true 4 (.one true 5 (.one true 6 (.one true 7 (.one true 8 (.one true 9 (.one true 10 (.one true 11 (.one true 12 (.one true 13 (.one true 14 (.one true 15 (.one true 16 (.one true 17 (.one true 18 (.one true 19 (.one false 20 (.one true 21 (.one true 22 (.one true 23 (.one true 24 (.one true 25 (.one false 26 (.one true 27 (.one true 28 .nil))))))))))))))))))))))))))))) mixed (by kernel_rfl) ?_; refine sx ?_
      refine s_gF rfl (by rw [decide_eq_false]; omega) ?_
      refine sx ?_
      refine s_gF rfl (by rw [decide_eq_false]; omega) ?_
      refine sx ?_
      refine s_callV rfl (compare_s (xs := xs) (ys := btw xs ys) (by exact rby) RBy.hd) ?_
      refine sx ?_
      refine s_gF rfl (by rw [decide_eq_false]; omega) ?_
      refine sx ?_
      refine s_callV rfl (compare_s (xs := btw xs ys) (ys := ys) RBy.hd (by exact rby)) ?_
      refine sx ?_
      refine s_cF rfl (by rw [decide_eq_false]; omega) ?_
      clear ht
      have hkt : RBy w0 (ob ak ck (btw xs ys) :: ob an cn (xs ++ [0]) :: H) ak ck (ys.take (common xs ys)) := by
        have := (RBy.hd (w0 := w0) (E := 5) (a := ak) (c := ck) (xs := btw xs ys) (H := ob an cn (xs ++ [0]) :: H)).take (k := common xs ys) (by omega)
        rwa [btw, List.take_take, Nat.min_eq_left (by omega)] at this
      refine s_kn (Kn.by (RBy.hd (w0 := w0) (E := 5) (a := ak) (c := ck) (xs := btw xs ys) (H := ob an cn (xs ++ [0]) :: H))) fun lk => ?_
      simp only [maxLen] at lk
      have bd := btw_ahead xs ys
      have hkl : (ys.take (common xs ys)).length = common xs ys := by rw [List.length_take]; omega
      refine sx ?_
      refine s_lif rfl (fun s0 => ?_) (fun s0 => ?_)
      focus
        refine sx ?_
        refine s_callV rfl (compare_s (xs := xs) (ys := zs) (by exact rby) (by exact rby)) ?_
        refine sx ?_
        refine s_lif rfl (fun s1 => ?_) (fun s1 => ?_)
        focus
          refine sx ?_
          refine s_callV rfl (compare_s (xs := zs) (ys := ys) (by exact rby) (by exact rby)) ?_
          refine sx ?_
          refine s_gT rfl (by
            rw [decide_eq_false]
            · rfl
            · intro s2
              have := btw_short hlt s1 s2
              omega) ?_
      all_goals
        refine sx ?_
        refine s_rw (t := 117) (v' := .int .i64 (((ys.take (common xs ys)).length : Nat) : Int)) rfl (ci (by omega)) ?_
        refine sx ?_
        refine s_callV rfl (compare_s (xs := ys.take (common xs ys)) (ys := xs) hkt (by exact rby)) ?_
        refine sx ?_
        refine s_ret1 rfl rfl ⟨congrArg Value.bool ?_, rfl⟩
        rw [decide_eq_true bd]
    · have e1 : betK xs ys = [] := by rw [betK, if_neg hlt]
      have e2 : betE xs ys = 41 := by rw [betE, if_neg hlt]
      rw [e1, e2]
      refine sx ?_
      refine s_callV rfl (compare_s (xs := xs) (ys := ys) (by exact rby) (by exact rby)) ?_
      refine sx ?_
      refine s_cF rfl (by simp [hlt]) ?_
      refine sx ?_
      exact s_ret1 rfl rfl ⟨rfl, rfl⟩
end Go.Sx
