/- Part of a proof: one life more, and what is freed, by the document. -/
import Derived.Test.YtceandgmpcpmfaaCD7
namespace Go.Sx
open Go Go.Proofs
set_option maxRecDepth 10000
variable {w0 : World} {H : List Ck}
theorem rless_s {x y : Lf} : FnV Try.prog w0 H 40 #[.agg x.cells.toArray, .agg y.cells.toArray] (.bool (decide (x.lt y))) := by
  refine fns_enter Try.func40 rfl rfl rfl ?_
  refine sx ?_
  refine s_boxA rfl fun b2 => ?_
  refine sx ?_
  refine s_boxA rfl fun b3 => ?_
  refine sx ?_
  refine s_ifn rfl (fun t1 => ?_) (fun t1 => ?_)
  · refine sx ?_
    exact s_ret1 rfl rfl ⟨by simp [t1], rfl⟩
  · refine sx ?_
    exact s_ret1 rfl rfl ⟨by simp [t1], rfl⟩
theorem lt_mono {xs : List Lf} (hs : Srt xs) {x y z : Lf} {k m : Nat} (hkm : k < m) (hy : xs[k]? = some y) (hz : xs[m]? = some z) (h : z.lt x) : y.lt x := by
  obtain ⟨ha, ea⟩ := List.getElem?_eq_some_iff.1 hy
  obtain ⟨hb, eb⟩ := List.getElem?_eq_some_iff.1 hz
  have h1 := (List.pairwise_iff_getElem.1 hs.1) k m ha hb hkm
  rw [ea, eb] at h1
  have h2 := hs.2 y (List.mem_of_getElem? hy)
  unfold Ahead at h1
  simp only [Lf.bad, Lf.lt] at *
  split at h <;> split <;> omega
abbrev RutR (d : Nat) (xs : List Lf) (x : Lf) (H : List Ck) : Value → List Ck → Prop := fun r H' => r = .int .i64 (putE xs x) ∧ ∃ a' c', H' = .hb d 73 [.slice a' (putV xs x).length c'] :: ol 34 a' c' (putV xs x) :: H
set_option maxHeartbeats 1000000 in
theorem rput_s {d : Nat} {a : Option Addr} {c : Nat} {xs : List Lf} {x : Lf} (hs : Srt xs) (hl : xs.length + 1 ≤ 5864062014805) :
    FnS Try.prog w0 (.hb d 73 [.slice a xs.length c] :: ol 34 a c xs :: H) 23 #[.pointer (some ⟨d, 0, none⟩), .agg x.cells.toArray] (RutR d xs x H) := by
  refine fns_enter Try.func23 rfl rfl rfl ?_
  refine sx ?_
  refine s_boxA rfl fun b3 => ?_
  refine sx ?_
  refine s_lif rfl (fun t1 => ?_) (fun t1 => ?_)
  · refine sx ?_
    have hb : x.bad := .inl t1
    refine s_ret1 rfl rfl ⟨by rw [putE_101 hb], a, c, rfl⟩ ?_
    rw [putV, if_neg (by rw [putE_101 hb]; decide)]
    exact ent
  refine sx ?_
  refine s_lif rfl (fun t2 => ?_) (fun t2 => ?_)
  · refine sx ?_
    have hb : x.bad := .inr (.inl t2)
    refine s_ret1 rfl rfl ⟨by rw [putE_101 hb], a, c, rfl⟩ ?_
    rw [putV, if_neg (by rw [putE_101 hb]; decide)]
    exact ent
  refine sx ?_
  refine s_if rfl (fun t3 => ?_) (fun t3 => ?_)
  · refine sx ?_
    have hb : x.bad := .inr (.inr t3)
    refine s_ret1 rfl rfl ⟨by rw [putE_101 hb], a, c, rfl⟩ ?_
    rw [putV, if_neg (by rw [putE_101 hb]; decide)]
    exact ent
  have hb : ¬ x.bad := by rintro (h | h | h) <;> contradiction
  refine sx ?_
  refine s_loop (fun m : Nat × Nat => [(0, .pointer (some ⟨d, 0, none⟩)), (3, .pointer (some ⟨b3, 0, none⟩)), (5, .int .i64 m.2), (6, .int .i64 m.1)]) (fun _ => .hb b3 34 x.cells :: .hb d 73 [.slice a xs.length c] :: ol 34 a c xs :: H)
    (fun m => m.2 ≤ m.1 ∧ m.1 ≤ xs.length ∧ (∀ k y, k < m.1 → xs[k]? = some y → ¬ y.ov x) ∧ (∀ k y, k < m.2 → xs[k]? = some y → y.lt x) ∧ ∀ k y, m.2 ≤ k → k < m.1 → xs[k]? = some y → ¬ y.lt x) (fun m => xs.length - m.1) (0, 0)
    ⟨Nat.le_refl _, Nat.zero_le _, fun k y h => absurd h (Nat.not_lt_zero _), fun k y h => absurd h (Nat.not_lt_zero _), fun k y _ h => absurd h (Nat.not_lt_zero _)⟩ ?_
  rintro ⟨i, at'⟩ ⟨g1, g2, g3, g4, g5⟩
  simp only at g1 g2 g3 g4 g5 ⊢
  refine sx ?_
  refine s_if rfl (fun t4 => ?_) (fun t4 => ?_)
  · obtain ⟨y, hy⟩ := get_lt xs i (by omega)
    have h102 : y.ov x → putE xs x = 102 := fun ho => putE_102 hb (List.mem_of_getElem? hy) ho
    have hV : putE xs x = 102 → putV xs x = xs := fun h => by rw [putV, if_neg (by rw [h]; decide)]
    refine sx ?_
    refine s_alloc fun b7 => ?_
    refine sx ?_
    have hst : ¬ y.ov x → ∀ k z, k < i + 1 → xs[k]? = some z → ¬ z.ov x := fun hno k z hk hz => by
      rcases Nat.lt_or_eq_of_le (Nat.lt_succ_iff.1 hk) with h | h
      · exact g3 k z h hz
      · rw [h, hy] at hz; cases hz; exact hno
    refine s_lif rfl (fun t5 => ?_) (fun t5 => ?_)
    · refine sx ?_
      refine s_lif rfl (fun t6 => ?_) (fun t6 => ?_)
      · refine sx ?_
        refine s_if rfl (fun t7 => ?_) (fun t7 => ?_)
        · have h5 := h102 ⟨t5, t6, t7⟩
          refine sx ?_
          refine s_ret1 rfl rfl ⟨by rw [h5], a, c, rfl⟩ ?_
          rw [hV h5]
          exact ent
        · have hno : ¬ y.ov x := (by rintro ⟨u1, u2, u3⟩; first | exact t7 u3 | exact t6 u2 | exact t5 u1); refine sx ?_; refine s_callV rfl (rless_s (x := y) (y := x)) ?_; refine sx ?_; refine s_if rfl (fun t8 => ?_) (fun t8 => ?_); (refine sx ?_; refine s_again (i + 1, i + 1) ⟨Nat.le_refl _, (by simp only; omega), hst hno, (fun k z hk hz => (by rcases Nat.lt_or_eq_of_le (Nat.lt_succ_iff.1 hk) with h | h; exact lt_mono hs h hz hy t8; (have h : k = i := h; rw [h, hy] at hz; cases hz; exact t8))), (fun k z h1 h2 => absurd h2 (by simp only at h1 ⊢; omega))⟩ (by simp only; omega)); (refine sx ?_; refine s_again (i + 1, at') ⟨(by simp only; omega), (by simp only; omega), hst hno, g4, (fun k z h1 h2 hz => (by rcases Nat.lt_or_eq_of_le (Nat.lt_succ_iff.1 h2) with h | h; exact g5 k z h1 h hz; (have h : k = i := h; rw [h, hy] at hz; cases hz; exact t8)))⟩ (by simp only; omega))
      · have hno : ¬ y.ov x := (by rintro ⟨u1, u2, u3⟩; first | exact t7 u3 | exact t6 u2 | exact t5 u1); refine sx ?_; refine s_callV rfl (rless_s (x := y) (y := x)) ?_; refine sx ?_; refine s_if rfl (fun t8 => ?_) (fun t8 => ?_); (refine sx ?_; refine s_again (i + 1, i + 1) ⟨Nat.le_refl _, (by simp only; omega), hst hno, (fun k z hk hz => (by rcases Nat.lt_or_eq_of_le (Nat.lt_succ_iff.1 hk) with h | h; exact lt_mono hs h hz hy t8; (have h : k = i := h; rw [h, hy] at hz; cases hz; exact t8))), (fun k z h1 h2 => absurd h2 (by simp only at h1 ⊢; omega))⟩ (by simp only; omega)); (refine sx ?_; refine s_again (i + 1, at') ⟨(by simp only; omega), (by simp only; omega), hst hno, g4, (fun k z h1 h2 hz => (by rcases Nat.lt_or_eq_of_le (Nat.lt_succ_iff.1 h2) with h | h; exact g5 k z h1 h hz; (have h : k = i := h; rw [h, hy] at hz; cases hz; exact t8)))⟩ (by simp only; omega))
    · have hno : ¬ y.ov x := (by rintro ⟨u1, u2, u3⟩; first | exact t7 u3 | exact t6 u2 | exact t5 u1); refine sx ?_; refine s_callV rfl (rless_s (x := y) (y := x)) ?_; refine sx ?_; refine s_if rfl (fun t8 => ?_) (fun t8 => ?_); (refine sx ?_; refine s_again (i + 1, i + 1) ⟨Nat.le_refl _, (by simp only; omega), hst hno, (fun k z hk hz => (by rcases Nat.lt_or_eq_of_le (Nat.lt_succ_iff.1 hk) with h | h; exact lt_mono hs h hz hy t8; (have h : k = i := h; rw [h, hy] at hz; cases hz; exact t8))), (fun k z h1 h2 => absurd h2 (by simp only at h1 ⊢; omega))⟩ (by simp only; omega)); (refine sx ?_; refine s_again (i + 1, at') ⟨(by simp only; omega), (by simp only; omega), hst hno, g4, (fun k z h1 h2 hz => (by rcases Nat.lt_or_eq_of_le (Nat.lt_succ_iff.1 h2) with h | h; exact g5 k z h1 h hz; (have h : k = i := h; rw [h, hy] at hz; cases hz; exact t8)))⟩ (by simp only; omega))
  · obtain rfl : i = xs.length := by omega
    have hno : ∀ y ∈ xs, ¬ y.ov x := fun y hy => by
      obtain ⟨k, hk⟩ := List.getElem?_of_mem hy
      exact g3 k y (get_lt' hk) hk
    have h0 : putE xs x = 0 := putE_ok hb hno
    have key := takeWhile_at (xs := xs) (p := fun y => decide (y.lt x)) (i := at') g1 (fun k y hk hy => decide_eq_true (g4 k y hk hy)) (fun y hy => decide_eq_false (g5 at' y (Nat.le_refl _) (get_lt' hy) hy))
    have hv : putV xs x = xs.take at' ++ x :: xs.drop at' := by rw [putV, if_pos h0, ins, key.1, key.2]
    have hvl : (putV xs x).length = xs.length + 1 := by rw [hv]; simp; omega
    have htl : (xs.take at').length = at' := by rw [List.length_take]; omega
    have hdl : (xs.drop at').length = xs.length - at' := by rw [List.length_drop]
    have rt : RSl w0 (.hb b3 34 x.cells :: .hb d 73 [.slice a xs.length c] :: ol 34 a c xs :: H) a c (xs.take at') := RSl.take (RSl.tl (RSl.tl RSl.hd)) g1
    refine s_kn (Kn.sl (RSl.tl (RSl.tl RSl.hd) : RSl w0 (.hb b3 34 x.cells :: .hb d 73 [.slice a xs.length c] :: ol 34 a c xs :: H) a c xs)) fun l1 => ?_
    refine sx ?_
    refine s_appN (ys := xs.take at') ?_
    intro a1 c1
    refine sx ?_
    refine s_bsl [x] rfl rfl fun b76 => ?_
    refine sx ?_
    refine s_app (xs := xs.take at') ?_
    intro a2 c2
    have rd : RSl w0 (ol 34 (some ⟨b76, 0, none⟩) 1 [x] :: ol 34 a2 c2 (xs.take at' ++ [x]) :: .hb b3 34 x.cells :: .hb d 73 [.slice a xs.length c] :: ol 34 a c xs :: H) (Sx.sl a c at' 3) (c - at') (xs.drop at') := RSl.drop (RSl.tl (RSl.tl (RSl.tl (RSl.tl RSl.hd)))) g1
    refine sx ?_
    refine s_app (xs := xs.take at' ++ [x]) (ys := xs.drop at') ?_
    intro a3 c3
    have e : xs.take at' ++ [x] ++ xs.drop at' = putV xs x := by rw [hv]; simp
    rw [e]
    refine sx ?_
    exact s_ret1 rfl rfl ⟨by rw [h0], a3, c3, rfl⟩
end Go.Sx
