/- Part of a proof: several parts of a walk, one behind the other. -/
import Derived.Test.YtpnhoafmlhlfgaaGreatCH1j
import Derived.Test.YtpnhoafmlhlfgaaGreatCO2j
import Derived.Test.YtpnhoafmlhlfgaaGreatCKB
namespace Go.Sx
open Go Go.Proofs
set_option maxRecDepth 10000
variable {w0 : World} {H : List Ck}
theorem acmp_s {x y : KV} (hx : RBy w0 H x.ka x.kc x.k) (hy : RBy w0 H y.ka y.kc y.k) : FnV Tryz.prog w0 H 55 #[.agg x.cells.toArray, .agg y.cells.toArray] (.int .i64 (cmp x.k y.k)) := by
  refine fns_enter Tryz.func55 rfl rfl rfl ?_
  refine sx ?_
  refine s_boxA rfl fun b2 => ?_
  refine sx ?_
  refine s_boxA rfl fun b3 => ?_
  refine sx ?_
  refine s_callV rfl (compare_s (by exact rby) (by exact rby)) ?_
  refine sx ?_
  exact s_ret1 rfl rfl ⟨rfl, rfl⟩
abbrev fcA : Value := .func (.func 55) #[] #[]
set_option maxHeartbeats 1000000 in
theorem swapR_s {a : Option Addr} {c p q n : Nat} {xs : List KV} (h1 : p + n ≤ q) (h2 : q + n ≤ xs.length) (hl : xs.length ≤ 1099511627776) :
    FnS Tryz.prog w0 (ol 51 a c xs :: H) 132 #[.slice a xs.length c, .int .i64 p, .int .i64 q, .int .i64 n, fcA] (fun v H' => v = .tuple #[] ∧ ∃ ys, Swp xs p q n ys ∧ H' = ol 51 a c ys :: H) := by
  refine fns_enter Tryz.func132 rfl rfl rfl ?_
  refine sx ?_
  refine s_loop (fun m : Nat × List KV => [(0, .slice a xs.length c), (1, .int .i64 p), (2, .int .i64 q), (3, .int .i64 n), (10, .int .i64 m.1)]) (fun m => ol 51 a c m.2 :: H) (fun m => m.1 ≤ n ∧ Swp xs p q m.1 m.2) (fun m => n - m.1) (0, xs) ⟨Nat.zero_le _, rfl, fun k hk => by rw [if_neg (by omega), if_neg (by omega)]⟩ ?_
  rintro ⟨i, ys⟩ ⟨hi, hyl, hyk⟩
  simp only at hi hyl hyk ⊢
  refine sx ?_
  refine s_if rfl (fun t1 => ?_) (fun t1 => ?_)
  · refine s_kn (φ := ∃ ad, a = some ad) (fun w hw => own_gA (c := c) (Sat.ownOf (c' := ol 51 a c ys) .hd hw) (by omega)) ?_
    rintro ⟨ad, rfl⟩
    obtain ⟨x, hx⟩ := get_lt ys (p + i) (by omega)
    obtain ⟨y, hy⟩ := get_lt ys (q + i) (by omega)
    have hx0 := hyk (p + i) (by omega)
    have hy0 := hyk (q + i) (by omega)
    rw [if_neg (by omega), if_neg (by omega)] at hx0 hy0
    rw [← hyl]
    apply s_joinU
    intro key
    have stp : StopAt 2 := trivial
    have hh : ∀ ys : List KV, RSl w0 (ol 51 (some ad) c ys :: H) (some ad) c ys := fun ys => RSl.hd
    refine sx ?_; refine s_drH (([] : List Ck)) (.one true 0 (.one true 1 (.one true 2 (.one true 3 (.one true 4 (.one true 5 (.one true 6 (.one true 7 (.one true 8 (.one true 9 (.one true 10 (.one true 11 (.one true 12 (.one true 14 (.one true 15 (.one true 16 (.one true 17 (.one true 18 (.alt (.one false 13 (.one false 19 (.one true 20 (.one false 21 (.one true 22 (.one false 23 .nil)))))) (.one false 19 (.one false 13 (.one true 20 (.one false 21 (.one true 22 (.one false 23 .nil))))))))))))))))))))))))) mixed (by kernel_rfl) ?_; refine sx ?_
    refine s_alt ?_ ?_
    · refine s_yA rfl rfl (by exact yy) ?_ (chk_held Ent.nil)
      refine s_yA rfl rfl (by exact yy) ?_ (chk_held Ent.nil)
      refine sx1 ?_
      refine s_setA (i := p + i) y rfl rfl (by exact at_) rfl (by omega) ?_ (hk := chk_held Ent.nil)
      refine sx1 ?_
      refine s_setA (i := q + i) x rfl rfl (by exact at_) rfl (by rw [List.length_set]; omega) ?_ (hk := chk_held Ent.nil)
      refine sxs ?_
      refine s_sub (l' := [(0, .slice (some ad) ys.length c), (1, .int .i64 p), (2, .int .i64 q), (3, .int .i64 n), (10, .int .i64 i)]) ?_ (by repeat (first | exact trivial | refine And.intro (by first | exact rfl | exact congrArg some (ci (by omega))) ?_))
      exact key.out
    · refine s_yA rfl rfl (by exact yy) ?_ (chk_held Ent.nil)
      refine s_yA rfl rfl (by exact yy) ?_ (chk_held Ent.nil)
      refine sx1 ?_
      refine s_setA (i := p + i) y rfl rfl (by exact at_) rfl (by omega) ?_ (hk := chk_held Ent.nil)
      refine sx1 ?_
      refine s_setA (i := q + i) x rfl rfl (by exact at_) rfl (by rw [List.length_set]; omega) ?_ (hk := chk_held Ent.nil)
      refine sxs ?_
      refine s_sub (l' := [(0, .slice (some ad) ys.length c), (1, .int .i64 p), (2, .int .i64 q), (3, .int .i64 n), (10, .int .i64 i)]) ?_ (by repeat (first | exact trivial | refine And.intro (by first | exact rfl | exact congrArg some (ci (by omega))) ?_))
      exact key.out
    rw [hyl]
    refine sx ?_
    refine s_again ⟨i + 1, (ys.set (p + i) y).set (q + i) x⟩ ⟨by simp only; omega, by simp only [List.length_set]; exact hyl, fun k hk => ?_⟩ (by simp only; omega) (he := by exact entq)
    simp only
    by_cases e1 : k = q + i
    · subst e1
      rw [List.getElem?_set_self (by rw [List.length_set]; omega), if_neg (by omega), if_pos (by omega), show q + i - (q - p) = p + i by omega, ← hx0, hx]
    · rw [List.getElem?_set_ne (Ne.symm e1)]
      by_cases e2 : k = p + i
      · subst e2
        rw [List.getElem?_set_self (by omega), if_pos (by omega), show p + i + (q - p) = q + i by omega, ← hy0, hy]
      · rw [List.getElem?_set_ne (Ne.symm e2), hyk k hk]
        by_cases g1 : p ≤ k ∧ k < p + i
        · rw [if_pos g1, if_pos (show p ≤ k ∧ k < p + (i + 1) by omega)]
        · rw [if_neg g1, if_neg (show ¬ (p ≤ k ∧ k < p + (i + 1)) by omega)]
          by_cases g2 : q ≤ k ∧ k < q + i
          · rw [if_pos g2, if_pos (show q ≤ k ∧ k < q + (i + 1) by omega)]
          · rw [if_neg g2, if_neg (show ¬ (q ≤ k ∧ k < q + (i + 1)) by omega)]
  · obtain rfl : i = n := by omega
    refine sx ?_
    exact s_end0 rfl ⟨rfl, ys, ⟨hyl, hyk⟩, rfl⟩
structure RoI where
  L : List KV
  A : List KV
  B : List KV
  R : List KV
set_option maxHeartbeats 1000000 in
theorem rotE_s {a : Option Addr} {c p m q : Nat} {x u v y : List KV} (hp : p = x.length) (hm : m = x.length + u.length) (hq : q = x.length + u.length + v.length) (hu : u ≠ []) (hv : v ≠ []) (hl : (x ++ (u ++ (v ++ y))).length ≤ 1099511627776) :
    FnS Tryz.prog w0 (ol 51 a c (x ++ (u ++ (v ++ y))) :: H) 112 #[.slice a (x ++ (u ++ (v ++ y))).length c, .int .i64 p, .int .i64 m, .int .i64 q, fcA] (fun r H' => r = .tuple #[] ∧ H' = ol 51 a c (x ++ (v ++ (u ++ y))) :: H) := by
  have hxl : (x ++ (u ++ (v ++ y))).length = x.length + u.length + v.length + y.length := by simp only [List.length_append]; omega
  rw [hxl] at hl
  have hu0 := List.length_pos_iff.2 hu
  have hv0 := List.length_pos_iff.2 hv
  refine fns_enter Tryz.func112 rfl rfl rfl ?_
  refine sx ?_
  rw [hxl]
  refine s_loop (fun s : RoI => [(0, .slice a (x.length + u.length + v.length + y.length) c), (2, .int .i64 m), (4, fcA), (10, .int .i64 s.A.length), (11, .int .i64 s.B.length)]) (fun s => ol 51 a c (x ++ (s.L ++ (s.A ++ (s.B ++ (s.R ++ y))))) :: H) (fun s => s.L ++ (s.B ++ (s.A ++ s.R)) = v ++ u ∧ 0 < s.A.length ∧ 0 < s.B.length ∧ s.L.length + s.A.length = u.length) (fun s => s.A.length + s.B.length) ⟨[], u, v, []⟩ ⟨by simp, hu0, hv0, by simp⟩ ?_ (h0 := by simp only; repeat (first | exact trivial | refine And.intro (by first | exact rfl | exact congrArg some (ci (by omega))) ?_)) (he := by simp only [List.nil_append]; exact Ent.refl)
  rintro ⟨L, A, B, R⟩ ⟨h1, h2, h3, h4⟩
  simp only at h1 h2 h3 h4 ⊢
  have h5 : L.length + B.length + A.length + R.length = v.length + u.length := by have := congrArg List.length h1; simp only [List.length_append] at this; omega
  have hcl : (x ++ (L ++ (A ++ (B ++ (R ++ y))))).length = x.length + u.length + v.length + y.length := by simp only [List.length_append]; omega
  refine sx ?_
  refine s_ifn rfl (fun t1 => ?_) (fun t1 => ?_)
  · refine sx ?_
    refine s_if rfl (fun t2 => ?_) (fun t2 => ?_)
    · have hA1 : (A.take B.length).length = B.length := by rw [List.length_take]; omega
      have hA2 : (A.drop B.length).length = A.length - B.length := List.length_drop
      have hxs : x ++ (L ++ (A ++ (B ++ (R ++ y)))) = (x ++ L) ++ (A.take B.length ++ (A.drop B.length ++ (B ++ (R ++ y)))) := by
        conv => lhs; rw [← List.take_append_drop B.length A]
        simp only [List.append_assoc]
      rw [← hcl]
      refine sx ?_
      refine s_rw (t := 27) (v' := .int .i64 ((x.length + L.length : Nat) : Int)) rfl (ci (by omega)) ?_
      refine s_call rfl (swapR_s (p := x.length + L.length) (q := m) (n := B.length) (xs := x ++ (L ++ (A ++ (B ++ (R ++ y))))) (by omega) (by omega) (by omega)) ?_
      rintro _ _ ⟨rfl, ys, hsw, rfl⟩
      refine ⟨chk_seq, ?_⟩
      rw [hxs] at hsw
      have e := Swp.parts (by rw [List.length_append]) (by rw [List.length_append]; omega) hA1 rfl hsw
      subst e
      rw [hcl]
      refine sx ?_
      refine s_again ⟨L ++ B, A.drop B.length, A.take B.length, R⟩ ⟨?_, by simp only; omega, by simp only; omega, by simp only [List.length_append]; omega⟩ (by simp only; omega) (hs := by simp only; repeat (first | exact trivial | refine And.intro (by first | exact rfl | exact congrArg some (ci (by omega))) ?_)) (he := by simp only [List.append_assoc]; exact Ent.refl)
      simp only
      rw [← h1]
      conv => rhs; rw [← List.take_append_drop B.length A]
      simp only [List.append_assoc]
    · have hB1 : (B.take (B.length - A.length)).length = B.length - A.length := by rw [List.length_take]; omega
      have hB2 : (B.drop (B.length - A.length)).length = A.length := by rw [List.length_drop]; omega
      have hxs : x ++ (L ++ (A ++ (B ++ (R ++ y)))) = (x ++ L) ++ (A ++ (B.take (B.length - A.length) ++ (B.drop (B.length - A.length) ++ (R ++ y)))) := by
        conv => lhs; rw [← List.take_append_drop (B.length - A.length) B]
        simp only [List.append_assoc]
      rw [← hcl]
      refine sx ?_
      refine s_rw (t := 38) (v' := .int .i64 ((x.length + L.length : Nat) : Int)) rfl (ci (by omega)) ?_
      refine s_rw (t := 43) (v' := .int .i64 ((m + B.length - A.length : Nat) : Int)) rfl (ci (by omega)) ?_
      refine s_call rfl (swapR_s (p := x.length + L.length) (q := m + B.length - A.length) (n := A.length) (xs := x ++ (L ++ (A ++ (B ++ (R ++ y))))) (by omega) (by omega) (by omega)) ?_
      rintro _ _ ⟨rfl, ys, hsw, rfl⟩
      refine ⟨chk_seq, ?_⟩
      rw [hxs] at hsw
      have e := Swp.parts (by rw [List.length_append]) (by rw [List.length_append]; omega) rfl hB2 hsw
      subst e
      rw [hcl]
      refine sx ?_
      refine s_again ⟨L, B.drop (B.length - A.length), B.take (B.length - A.length), A ++ R⟩ ⟨?_, by simp only; omega, by simp only; omega, by simp only; omega⟩ (by simp only; omega) (hs := by simp only; repeat (first | exact trivial | refine And.intro (by first | exact rfl | exact congrArg some (ci (by omega))) ?_)) (he := by simp only [List.append_assoc]; exact Ent.refl)
      simp only
      rw [← h1]
      conv => rhs; rw [← List.take_append_drop (B.length - A.length) B]
      simp only [List.append_assoc]
  · have hxs : x ++ (L ++ (A ++ (B ++ (R ++ y)))) = (x ++ L) ++ (A ++ ([] ++ (B ++ (R ++ y)))) := by simp only [List.append_assoc, List.nil_append]
    rw [← hcl]
    refine sx ?_
    refine s_rw (t := 53) (v' := .int .i64 ((x.length + L.length : Nat) : Int)) rfl (ci (by omega)) ?_
    refine s_call rfl (swapR_s (p := x.length + L.length) (q := m) (n := A.length) (xs := x ++ (L ++ (A ++ (B ++ (R ++ y))))) (by omega) (by omega) (by omega)) ?_
    rintro _ _ ⟨rfl, ys, hsw, rfl⟩
    refine ⟨chk_seq, ?_⟩
    rw [hxs] at hsw
    have e := Swp.parts (by rw [List.length_append]) (by rw [List.length_append]; simp only [List.length_nil]; omega) rfl (by omega) hsw
    subst e
    refine sx ?_
    have e2 : x ++ L ++ (B ++ ([] ++ (A ++ (R ++ y)))) = x ++ (v ++ (u ++ y)) := by
      rw [show v ++ (u ++ y) = (v ++ u) ++ y from (List.append_assoc ..).symm, ← h1]
      simp only [List.append_assoc, List.nil_append]
    rw [e2]
    exact s_end0 rfl ⟨rfl, rfl⟩
end Go.Sx
namespace Go.Sx
open Go Go.Proofs
set_option maxRecDepth 10000
variable {w0 : World} {H : List Ck}
structure InI where
  u : List KV
  s : List KV
  t : List KV
set_option maxHeartbeats 2000000 in
theorem insS_s {a : Option Addr} {c p q : Nat} {x seg z : List KV} (hp : p = x.length) (hq : q = x.length + seg.length) (hr : ∀ e ∈ seg, RBy w0 H e.ka e.kc e.k) (hl : (x ++ (seg ++ z)).length ≤ 1099511627776) :
    FnS Tryz.prog w0 (ol 51 a c (x ++ (seg ++ z)) :: H) 96 #[.slice a (x ++ (seg ++ z)).length c, .int .i64 p, .int .i64 q, fcA] (fun v H' => v = .tuple #[] ∧ ∃ s, Mrg seg s ∧ H' = ol 51 a c (x ++ (s ++ z)) :: H) := by
  have hxl : (x ++ (seg ++ z)).length = x.length + seg.length + z.length := by simp only [List.length_append]; omega
  rw [hxl] at hl ⊢
  refine fns_enter Tryz.func96 rfl rfl rfl ?_
  refine sx ?_
  rcases seg with _ | ⟨e0, seg⟩
  · simp only [List.length_nil] at hq
    refine s_loop (fun _ : Unit => [(2, .int .i64 q), (8, .int .i64 ((p : Int) + 1))]) (fun _ => ol 51 a c (x ++ ([] ++ z)) :: H) (fun _ => True) (fun _ => 0) () trivial ?_
    intro _ _
    refine sx ?_
    refine s_if rfl (fun t1 => by exfalso; omega) (fun t1 => ?_)
    refine sx ?_
    exact s_end0 rfl ⟨rfl, [], Mrg.refl Asc.nil, rfl⟩
  simp only [List.length_cons] at hq hl ⊢
  refine s_loop (fun m : InI => [(0, .slice a (x.length + (seg.length + 1) + z.length) c), (1, .int .i64 p), (2, .int .i64 q), (3, fcA), (8, .int .i64 ((x.length + m.s.length : Nat) : Int))]) (fun m => ol 51 a c (x ++ (m.s ++ (m.t ++ z))) :: H) (fun m => m.u ++ m.t = e0 :: seg ∧ Mrg m.u m.s ∧ 0 < m.s.length) (fun m => m.t.length) ⟨[e0], [e0], seg⟩ ⟨rfl, Mrg.refl (Asc.one _), by simp⟩ ?_ (h0 := by simp only [List.length_cons, List.length_nil]; repeat (first | exact trivial | refine And.intro (by first | exact rfl | exact congrArg some (ci (by omega))) ?_))
  rintro ⟨u, s, t⟩ ⟨h1, h2, h3⟩
  simp only at h1 h2 h3 ⊢
  have h4 : s.length + t.length = seg.length + 1 := by
    have := congrArg List.length h1
    have := h2.st.len
    simp only [List.length_append, List.length_cons] at *
    omega
  refine sx ?_
  refine s_if rfl (fun t1 => ?_) (fun t1 => ?_)
  · obtain ⟨e, t, rfl⟩ : ∃ e t', t = e :: t' := by
      cases t with
      | nil => simp only [List.length_nil] at h4; exfalso; omega
      | cons e t => exact ⟨e, t, rfl⟩
    have her : RBy w0 H e.ka e.kc e.k := hr e (by rw [← h1]; simp)
    have hsr : ∀ y ∈ s, RBy w0 H y.ka y.kc y.k := fun y hy => hr y (by rw [← h1]; exact List.mem_append_left _ (h2.st.perm.mem_iff.2 hy))
    simp only [List.length_cons] at h4
    refine sx ?_
    refine s_loop (fun m : List KV × List KV => [(0, .slice a (x.length + (seg.length + 1) + z.length) c), (1, .int .i64 p), (2, .int .i64 q), (3, fcA), (8, .int .i64 ((x.length + s.length : Nat) : Int)), (9, .int .i64 ((x.length + m.1.length : Nat) : Int))]) (fun m => ol 51 a c (x ++ (m.1 ++ (e :: (m.2 ++ (t ++ z))))) :: H) (fun m => m.1 ++ m.2 = s ∧ ∀ y ∈ m.2, cmp e.k y.k < 0) (fun m => m.1.length) (s, []) ⟨by simp, fun y h => by cases h⟩ ?_ (he := by simp only [List.nil_append, List.cons_append]; exact Ent.refl)
    rintro ⟨s1, s2⟩ ⟨g1, g2⟩
    simp only at g1 g2 ⊢
    have g3 : s1.length + s2.length = s.length := by rw [← g1, List.length_append]
    by_cases hs1 : s1 = []
    · subst hs1
      refine sx ?_; refine s_dr (.one true 0 (.one true 1 (.one true 2 (.one true 3 (.one true 4 (.one true 5 (.one true 6 (.one true 7 (.one true 8 (.one true 9 (.one true 10 (.one true 11 (.one true 12 (.one true 13 (.one false 14 (.one true 15 (.one true 16 .nil))))))))))))))))) mixed (by kernel_rfl) ?_; refine sx ?_
      refine s_lif rfl (fun t2 => by exfalso; simp only [List.length_nil] at t2; omega) (fun t2 => ?_)
      refine sx ?_
      refine s_again ⟨u ++ [e], e :: s2, t⟩ ⟨by simp only [List.append_assoc, List.singleton_append]; exact h1, Mrg.ins (s1 := []) (by rw [g1]; exact h2) (fun y h => by cases h) g2, by simp⟩ (by simp only [List.length_cons]; omega) (hs := by simp only [List.length_cons]; simp only [List.length_nil] at g3; repeat (first | exact trivial | refine And.intro (by first | exact rfl | exact congrArg some (ci (by omega))) ?_)) (he := by simp only [List.nil_append, List.cons_append]; exact Ent.refl)
    · obtain ⟨s1, d, rfl⟩ : ∃ l d, s1 = l ++ [d] := ⟨s1.dropLast, s1.getLast hs1, (List.dropLast_concat_getLast _).symm⟩
      clear hs1
      have hdr : RBy w0 H d.ka d.kc d.k := hsr d (by rw [← g1]; simp)
      obtain ⟨xs, hxs⟩ : ∃ xs, xs = x ++ ((s1 ++ [d]) ++ (e :: (s2 ++ (t ++ z)))) := ⟨_, rfl⟩
      have hx2 : xs = (x ++ s1) ++ d :: e :: (s2 ++ (t ++ z)) := by rw [hxs]; simp only [List.append_assoc, List.singleton_append]
      rw [← hxs]
      have hlen : xs.length = x.length + (seg.length + 1) + z.length := by
        rw [hx2]; simp only [List.length_append, List.length_cons, List.length_nil] at *; omega
      simp only [List.length_append, List.length_cons, List.length_nil] at g3
      obtain ⟨j, hj⟩ : ∃ j, j = x.length + s1.length := ⟨_, rfl⟩
      have hd1 : xs[j]? = some d := by rw [hx2, hj, ← List.length_append]; exact get_mid _ _ _
      have he1 : xs[j + 1]? = some e := by rw [hx2, hj, ← List.length_append]; exact get_mid1 _ _ _ _
      have hd2 : xs[j + 1 - 1]? = some d := hd1
      have hjl : j + 1 < xs.length := by omega
      rw [← hlen]
      refine s_rwC (t := 9) (v' := .int .i64 ((j + 1 : Nat) : Int)) rfl (ci (by simp only [List.length_append, List.length_cons, List.length_nil]; omega)) ?_
      refine s_kn (φ := ∃ ad, a = some ad) (fun w hw => own_gA (c := c) (Sat.ownOf (c' := ol 51 a c xs) .hd hw) (by omega)) ?_
      rintro ⟨ad, rfl⟩
      refine sx ?_; refine s_dr (.one true 0 (.one true 1 (.one true 2 (.one true 3 (.one true 4 (.one true 5 (.one true 6 (.one true 7 (.one true 8 (.one true 9 (.one true 10 (.one true 11 (.one true 12 (.one true 13 (.one false 14 (.one true 15 (.one true 16 .nil))))))))))))))))) mixed (by kernel_rfl) ?_; refine sx ?_
      refine s_lif rfl (fun t5 => ?_) (fun t5 => by exfalso; omega)
      refine sx ?_
      refine s_callFV (cap := []) rfl rfl (acmp_s (x := e) (y := d) her.tl hdr.tl) ?_
      refine sx ?_
      refine s_if rfl (fun t2 => ?_) (fun t2 => ?_)
      · have hh : ∀ ys : List KV, RSl w0 (ol 51 (some ad) c ys :: H) (some ad) c ys := fun ys => RSl.hd
        apply s_joinU
        intro key
        have stp : StopAt 5 := trivial
        refine sx ?_; refine s_drH (([] : List Ck)) (.one true 0 (.one true 1 (.one true 2 (.one true 3 (.one true 4 (.one true 5 (.one true 6 (.one true 7 (.one true 8 (.one true 10 (.one true 11 (.one true 12 (.alt (.one false 9 (.one false 13 (.one true 14 (.one false 15 (.one true 16 (.one false 17 .nil)))))) (.one false 13 (.one false 9 (.one true 14 (.one false 15 (.one true 16 (.one false 17 .nil))))))))))))))))))) mixed (by kernel_rfl) ?_; refine sx ?_
        refine s_rw (t := 41) (v' := .int .i64 (j : Int)) rfl (ci (by omega)) ?_
        refine s_rw (t := 44) (v' := .int .i64 (j : Int)) rfl (ci (by omega)) ?_
        refine sx ?_
        refine s_alt ?_ ?_
        · refine s_yA rfl rfl (by exact yy) ?_ (chk_held Ent.nil)
          refine s_yA rfl rfl (by exact yy) ?_ (chk_held Ent.nil)
          refine sx1 ?_
          refine s_setA (i := j + 1) d rfl rfl (by exact at_) rfl (by omega) ?_ (hk := chk_held Ent.nil)
          refine sx1 ?_
          refine s_setA (i := j) e rfl rfl (by exact at_) rfl (by rw [List.length_set]; omega) ?_ (hk := chk_held Ent.nil)
          refine sxs ?_
          refine s_sub (l' := [(0, .slice (some ad) xs.length c), (1, .int .i64 p), (2, .int .i64 q), (3, fcA), (8, .int .i64 ((x.length + s.length : Nat) : Int)), (9, .int .i64 ((j + 1 : Nat) : Int))]) ?_ (by repeat (first | exact trivial | refine And.intro (by first | exact rfl | exact congrArg some (ci (by omega))) ?_))
          exact key.out
        · refine s_yA rfl rfl (by exact yy) ?_ (chk_held Ent.nil)
          refine s_yA rfl rfl (by exact yy) ?_ (chk_held Ent.nil)
          refine sx1 ?_
          refine s_setA (i := j + 1) d rfl rfl (by exact at_) rfl (by omega) ?_ (hk := chk_held Ent.nil)
          refine sx1 ?_
          refine s_setA (i := j) e rfl rfl (by exact at_) rfl (by rw [List.length_set]; omega) ?_ (hk := chk_held Ent.nil)
          refine sxs ?_
          refine s_sub (l' := [(0, .slice (some ad) xs.length c), (1, .int .i64 p), (2, .int .i64 q), (3, fcA), (8, .int .i64 ((x.length + s.length : Nat) : Int)), (9, .int .i64 ((j + 1 : Nat) : Int))]) ?_ (by repeat (first | exact trivial | refine And.intro (by first | exact rfl | exact congrArg some (ci (by omega))) ?_))
          exact key.out
        rw [hlen]
        refine sx ?_
        have e2 : (xs.set (j + 1) d).set j e = x ++ (s1 ++ (e :: ((d :: s2) ++ (t ++ z)))) := by
          rw [hx2, hj, ← List.length_append, set_sw]
          simp only [List.append_assoc, List.cons_append]
        rw [e2]
        refine s_again (s1, d :: s2) ⟨by rw [← g1]; simp, fun y hy => ?_⟩ (by simp only [List.length_append, List.length_cons]; omega) (hs := by simp only; repeat (first | exact trivial | refine And.intro (by first | exact rfl | exact congrArg some (ci (by omega))) ?_))
        rcases List.mem_cons.1 hy with rfl | hy
        · exact t2
        · exact g2 y hy
      · rw [hlen]
        refine sx ?_
        refine s_again ⟨u ++ [e], (s1 ++ [d]) ++ e :: s2, t⟩ ⟨by simp only [List.append_assoc, List.singleton_append]; exact h1, Mrg.ins (by rw [g1]; exact h2) (fun y hy => ?_) g2, by simp only [List.length_append, List.length_cons]; omega⟩ (by simp only [List.length_cons]; omega) (hs := by simp only [List.length_append, List.length_cons, List.length_nil]; repeat (first | exact trivial | refine And.intro (by first | exact rfl | exact congrArg some (ci (by omega))) ?_)) (he := by rw [hxs]; simp only [List.append_assoc, List.cons_append]; exact Ent.refl)
        have hup := h2.up
        rw [← g1] at hup
        have h5 := (asc_app.1 hup).1
        have h6 : cmp d.k e.k ≤ 0 := nlt t2
        rcases List.mem_append.1 hy with hy | hy
        · exact le_tr ((asc_app.1 h5).2.2 y hy d (by simp)) h6
        · rw [List.mem_singleton.1 hy]; exact h6
  · obtain rfl : t = [] := by
      cases t with
      | nil => rfl
      | cons e t => simp only [List.length_cons] at h4; exfalso; omega
    rw [List.append_nil] at h1
    subst h1
    refine sx ?_
    exact s_end0 rfl ⟨rfl, s, h2, rfl⟩
end Go.Sx
