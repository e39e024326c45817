/- Part of a proof: entries are put into a stable order, by Go's own library. -/
import Derived.Test.YtimakbpghggdfaaGreatCH1j
import Derived.Test.YtimakbpghggdfaaGreatCO2j
import Derived.Test.YtimakbpghggdfaaGreatCKB
namespace Go.Sx
open Go Go.Proofs
set_option maxRecDepth 10000
variable {w0 : World} {H : List Ck}
theorem acmp_s {x y : KV} (hx : RBy w0 H x.ka x.kc x.k) (hy : RBy w0 H y.ka y.kc y.k) : FnV Tryz.prog w0 H 37 #[.agg x.cells.toArray, .agg y.cells.toArray] (.int .i64 (cmp x.k y.k)) := by
  refine fns_enter Tryz.func37 rfl rfl rfl ?_
  refine sx ?_
  refine s_boxA rfl fun b2 => ?_
  refine sx ?_
  refine s_boxA rfl fun b3 => ?_
  refine sx ?_
  refine s_callV rfl (compare_s (by exact rby) (by exact rby)) ?_
  refine sx ?_
  exact s_ret1 rfl rfl ⟨rfl, rfl⟩
abbrev fcA : Value := .func (.func 37) #[] #[]
set_option maxHeartbeats 1000000 in
theorem swapR_s {a : Option Addr} {c p q n : Nat} {xs : List KV} (h1 : p + n ≤ q) (h2 : q + n ≤ xs.length) (hl : xs.length ≤ 1099511627776) :
    FnS Tryz.prog w0 (ol 31 a c xs :: H) 162 #[.slice a xs.length c, .int .i64 p, .int .i64 q, .int .i64 n, fcA] (fun v H' => v = .tuple #[] ∧ ∃ ys, Swp xs p q n ys ∧ H' = ol 31 a c ys :: H) := by
  refine fns_enter Tryz.func162 rfl rfl rfl ?_
  refine sx ?_
  refine s_loop (fun m : Nat × List KV => [(0, .slice a xs.length c), (1, .int .i64 p), (2, .int .i64 q), (3, .int .i64 n), (10, .int .i64 m.1)]) (fun m => ol 31 a c m.2 :: H) (fun m => m.1 ≤ n ∧ Swp xs p q m.1 m.2) (fun m => n - m.1) (0, xs) ⟨Nat.zero_le _, rfl, fun k hk => by rw [if_neg (by omega), if_neg (by omega)]⟩ ?_
  rintro ⟨i, ys⟩ ⟨hi, hyl, hyk⟩
  simp only at hi hyl hyk ⊢
  refine sx ?_
  refine s_if rfl (fun t1 => ?_) (fun t1 => ?_)
  · refine s_kn (φ := ∃ ad, a = some ad) (fun w hw => own_gA (c := c) (Sat.ownOf (c' := ol 31 a c ys) .hd hw) (by omega)) ?_
    rintro ⟨ad, rfl⟩
    obtain ⟨x, hx⟩ := get_lt ys (p + i) (by omega)
    obtain ⟨y, hy⟩ := get_lt ys (q + i) (by omega)
    have hx0 := hyk (p + i) (by omega)
    have hy0 := hyk (q + i) (by omega)
    rw [if_neg (by omega), if_neg (by omega)] at hx0 hy0
    rw [← hyl]
    apply s_joinU
    intro key
    have stp : StopAt 2 := trivial
    have hh : ∀ ys : List KV, RSl w0 (ol 31 (some ad) c ys :: H) (some ad) c ys := fun ys => RSl.hd
    refine sx ?_; refine s_drH (([] : List Ck)) (.one true 0 (.one true 1 (.one true 2 (.one true 3 (.one true 4 (.one true 5 (.one true 6 (.one true 7 (.one true 8 (.one true 9 (.one true 10 (.one true 11 (.one true 12 (.one true 14 (.one true 15 (.one true 16 (.one true 17 (.one true 18 (.alt (.one false 13 (.one false 19 (.one true 20 (.one false 21 (.one true 22 (.one false 23 .nil)))))) (.one false 19 (.one false 13 (.one true 20 (.one false 21 (.one true 22 (.one false 23 .nil))))))))))))))))))))))))) mixed (by kernel_rfl) ?_; refine sx ?_
    refine s_alt ?_ ?_
    · refine s_yA rfl rfl (by exact yy) ?_ (chk_held Ent.nil)
      refine s_yA rfl rfl (by exact yy) ?_ (chk_held Ent.nil)
      refine sx1 ?_
      refine s_setA (i := p + i) y rfl rfl (by exact at_) rfl (by omega) ?_ (hk := chk_held Ent.nil)
      refine sx1 ?_
      refine s_setA (i := q + i) x rfl rfl (by exact at_) rfl (by rw [List.length_set]; omega) ?_ (hk := chk_held Ent.nil)
      refine sxs ?_
      refine s_sub (l' := [(0, .slice (some ad) ys.length c), (1, .int .i64 p), (2, .int .i64 q), (3, .int .i64 n), (10, .int .i64 i)]) ?_ (by repeat (first | exact trivial | refine And.intro (by first | exact rfl | exact congrArg some (ci (by omega))) ?_))
      exact key.out
    · refine s_yA rfl rfl (by exact yy) ?_ (chk_held Ent.nil)
      refine s_yA rfl rfl (by exact yy) ?_ (chk_held Ent.nil)
      refine sx1 ?_
      refine s_setA (i := p + i) y rfl rfl (by exact at_) rfl (by omega) ?_ (hk := chk_held Ent.nil)
      refine sx1 ?_
      refine s_setA (i := q + i) x rfl rfl (by exact at_) rfl (by rw [List.length_set]; omega) ?_ (hk := chk_held Ent.nil)
      refine sxs ?_
      refine s_sub (l' := [(0, .slice (some ad) ys.length c), (1, .int .i64 p), (2, .int .i64 q), (3, .int .i64 n), (10, .int .i64 i)]) ?_ (by repeat (first | exact trivial | refine And.intro (by first | exact rfl | exact congrArg some (ci (by omega))) ?_))
      exact key.out
    rw [hyl]
    refine sx ?_
    refine s_again ⟨i + 1, (ys.set (p + i) y).set (q + i) x⟩ ⟨by simp only; omega, by simp only [List.length_set]; exact hyl, fun k hk => ?_⟩ (by simp only; omega) (he := by exact entq)
    simp only
    by_cases e1 : k = q + i
    · subst e1
      rw [List.getElem?_set_self (by rw [List.length_set]; omega), if_neg (by omega), if_pos (by omega), show q + i - (q - p) = p + i by omega, ← hx0, hx]
    · rw [List.getElem?_set_ne (Ne.symm e1)]
      by_cases e2 : k = p + i
      · subst e2
        rw [List.getElem?_set_self (by omega), if_pos (by omega), show p + i + (q - p) = q + i by omega, ← hy0, hy]
      · rw [List.getElem?_set_ne (Ne.symm e2), hyk k hk]
        by_cases g1 : p ≤ k ∧ k < p + i
        · rw [if_pos g1, if_pos (show p ≤ k ∧ k < p + (i + 1) by omega)]
        · rw [if_neg g1, if_neg (show ¬ (p ≤ k ∧ k < p + (i + 1)) by omega)]
          by_cases g2 : q ≤ k ∧ k < q + i
          · rw [if_pos g2, if_pos (show q ≤ k ∧ k < q + (i + 1) by omega)]
          · rw [if_neg g2, if_neg (show ¬ (q ≤ k ∧ k < q + (i + 1)) by omega)]
  · obtain rfl : i = n := by omega
    refine sx ?_
    exact s_end0 rfl ⟨rfl, ys, ⟨hyl, hyk⟩, rfl⟩
structure RoI where
  L : List KV
  A : List KV
  B : List KV
  R : List KV
set_option maxHeartbeats 1000000 in
theorem rotE_s {a : Option Addr} {c p m q : Nat} {x u v y : List KV} (hp : p = x.length) (hm : m = x.length + u.length) (hq : q = x.length + u.length + v.length) (hu : u ≠ []) (hv : v ≠ []) (hl : (x ++ (u ++ (v ++ y))).length ≤ 1099511627776) :
    FnS Tryz.prog w0 (ol 31 a c (x ++ (u ++ (v ++ y))) :: H) 135 #[.slice a (x ++ (u ++ (v ++ y))).length c, .int .i64 p, .int .i64 m, .int .i64 q, fcA] (fun r H' => r = .tuple #[] ∧ H' = ol 31 a c (x ++ (v ++ (u ++ y))) :: H) := by
  have hxl : (x ++ (u ++ (v ++ y))).length = x.length + u.length + v.length + y.length := by simp only [List.length_append]; omega
  rw [hxl] at hl
  have hu0 := List.length_pos_iff.2 hu
  have hv0 := List.length_pos_iff.2 hv
  refine fns_enter Tryz.func135 rfl rfl rfl ?_
  refine sx ?_
  rw [hxl]
  refine s_loop (fun s : RoI => [(0, .slice a (x.length + u.length + v.length + y.length) c), (2, .int .i64 m), (4, fcA), (10, .int .i64 s.A.length), (11, .int .i64 s.B.length)]) (fun s => ol 31 a c (x ++ (s.L ++ (s.A ++ (s.B ++ (s.R ++ y))))) :: H) (fun s => s.L ++ (s.B ++ (s.A ++ s.R)) = v ++ u ∧ 0 < s.A.length ∧ 0 < s.B.length ∧ s.L.length + s.A.length = u.length) (fun s => s.A.length + s.B.length) ⟨[], u, v, []⟩ ⟨by simp, hu0, hv0, by simp⟩ ?_ (h0 := by simp only; repeat (first | exact trivial | refine And.intro (by first | exact rfl | exact congrArg some (ci (by omega))) ?_)) (he := by simp only [List.nil_append]; exact Ent.refl)
  rintro ⟨L, A, B, R⟩ ⟨h1, h2, h3, h4⟩
  simp only at h1 h2 h3 h4 ⊢
  have h5 : L.length + B.length + A.length + R.length = v.length + u.length := by have := congrArg List.length h1; simp only [List.length_append] at this; omega
  have hcl : (x ++ (L ++ (A ++ (B ++ (R ++ y))))).length = x.length + u.length + v.length + y.length := by simp only [List.length_append]; omega
  refine sx ?_
  refine s_ifn rfl (fun t1 => ?_) (fun t1 => ?_)
  · refine sx ?_
    refine s_if rfl (fun t2 => ?_) (fun t2 => ?_)
    · have hA1 : (A.take B.length).length = B.length := by rw [List.length_take]; omega
      have hA2 : (A.drop B.length).length = A.length - B.length := List.length_drop
      have hxs : x ++ (L ++ (A ++ (B ++ (R ++ y)))) = (x ++ L) ++ (A.take B.length ++ (A.drop B.length ++ (B ++ (R ++ y)))) := by
        conv => lhs; rw [← List.take_append_drop B.length A]
        simp only [List.append_assoc]
      rw [← hcl]
      refine sx ?_
      refine s_rw (t := 27) (v' := .int .i64 ((x.length + L.length : Nat) : Int)) rfl (ci (by omega)) ?_
      refine s_call rfl (swapR_s (p := x.length + L.length) (q := m) (n := B.length) (xs := x ++ (L ++ (A ++ (B ++ (R ++ y))))) (by omega) (by omega) (by omega)) ?_
      rintro _ _ ⟨rfl, ys, hsw, rfl⟩
      refine ⟨chk_seq, ?_⟩
      rw [hxs] at hsw
      have e := Swp.parts (by rw [List.length_append]) (by rw [List.length_append]; omega) hA1 rfl hsw
      subst e
      rw [hcl]
      refine sx ?_
      refine s_again ⟨L ++ B, A.drop B.length, A.take B.length, R⟩ ⟨?_, by simp only; omega, by simp only; omega, by simp only [List.length_append]; omega⟩ (by simp only; omega) (hs := by simp only; repeat (first | exact trivial | refine And.intro (by first | exact rfl | exact congrArg some (ci (by omega))) ?_)) (he := by simp only [List.append_assoc]; exact Ent.refl)
      simp only
      rw [← h1]
      conv => rhs; rw [← List.take_append_drop B.length A]
      simp only [List.append_assoc]
    · have hB1 : (B.take (B.length - A.length)).length = B.length - A.length := by rw [List.length_take]; omega
      have hB2 : (B.drop (B.length - A.length)).length = A.length := by rw [List.length_drop]; omega
      have hxs : x ++ (L ++ (A ++ (B ++ (R ++ y)))) = (x ++ L) ++ (A ++ (B.take (B.length - A.length) ++ (B.drop (B.length - A.length) ++ (R ++ y)))) := by
        conv => lhs; rw [← List.take_append_drop (B.length - A.length) B]
        simp only [List.append_assoc]
      rw [← hcl]
      refine sx ?_
      refine s_rw (t := 38) (v' := .int .i64 ((x.length + L.length : Nat) : Int)) rfl (ci (by omega)) ?_
      refine s_rw (t := 43) (v' := .int .i64 ((m + B.length - A.length : Nat) : Int)) rfl (ci (by omega)) ?_
      refine s_call rfl (swapR_s (p := x.length + L.length) (q := m + B.length - A.length) (n := A.length) (xs := x ++ (L ++ (A ++ (B ++ (R ++ y))))) (by omega) (by omega) (by omega)) ?_
      rintro _ _ ⟨rfl, ys, hsw, rfl⟩
      refine ⟨chk_seq, ?_⟩
      rw [hxs] at hsw
      have e := Swp.parts (by rw [List.length_append]) (by rw [List.length_append]; omega) rfl hB2 hsw
      subst e
      rw [hcl]
      refine sx ?_
      refine s_again ⟨L, B.drop (B.length - A.length), B.take (B.length - A.length), A ++ R⟩ ⟨?_, by simp only; omega, by simp only; omega, by simp only; omega⟩ (by simp only; omega) (hs := by simp only; repeat (first | exact trivial | refine And.intro (by first | exact rfl | exact congrArg some (ci (by omega))) ?_)) (he := by simp only [List.append_assoc]; exact Ent.refl)
      simp only
      rw [← h1]
      conv => rhs; rw [← List.take_append_drop (B.length - A.length) B]
      simp only [List.append_assoc]
  · have hxs : x ++ (L ++ (A ++ (B ++ (R ++ y)))) = (x ++ L) ++ (A ++ ([] ++ (B ++ (R ++ y)))) := by simp only [List.append_assoc, List.nil_append]
    rw [← hcl]
    refine sx ?_
    refine s_rw (t := 53) (v' := .int .i64 ((x.length + L.length : Nat) : Int)) rfl (ci (by omega)) ?_
    refine s_call rfl (swapR_s (p := x.length + L.length) (q := m) (n := A.length) (xs := x ++ (L ++ (A ++ (B ++ (R ++ y))))) (by omega) (by omega) (by omega)) ?_
    rintro _ _ ⟨rfl, ys, hsw, rfl⟩
    refine ⟨chk_seq, ?_⟩
    rw [hxs] at hsw
    have e := Swp.parts (by rw [List.length_append]) (by rw [List.length_append]; simp only [List.length_nil]; omega) rfl (by omega) hsw
    subst e
    refine sx ?_
    have e2 : x ++ L ++ (B ++ ([] ++ (A ++ (R ++ y)))) = x ++ (v ++ (u ++ y)) := by
      rw [show v ++ (u ++ y) = (v ++ u) ++ y from (List.append_assoc ..).symm, ← h1]
      simp only [List.append_assoc, List.nil_append]
    rw [e2]
    exact s_end0 rfl ⟨rfl, rfl⟩
end Go.Sx
