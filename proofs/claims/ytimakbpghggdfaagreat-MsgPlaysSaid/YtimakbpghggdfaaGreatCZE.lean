/- Part of a proof: two stretches of entries that rise are merged, by Go's own library: as a whole. -/
import Derived.Test.YtimakbpghggdfaaGreatCZDj
namespace Go.Sx
open Go Go.Proofs
set_option maxRecDepth 10000
variable {w0 : World} {H : List Ck}
abbrev SymT (w0 : World) (H : List Ck) (n : Nat) : Prop := ∀ {a : Option Addr} {c p m q : Nat} {x A B z : List KV}, A.length + B.length ≤ n → MgA w0 H p m q x A B z →
    FnS Tryz.prog w0 (ol 31 a c (x ++ (A ++ (B ++ z))) :: H) 105 #[.slice a (x ++ (A ++ (B ++ z))).length c, .int .i64 p, .int .i64 m, .int .i64 q, fcA] (MgR a c x (A ++ B) z H)
theorem mem4a {A1 A2 B1 B2 : List KV} {y : KV} (h : y ∈ A1 ++ B1) : y ∈ (A1 ++ A2) ++ (B1 ++ B2) := by
  rcases List.mem_append.1 h with h | h <;> simp [h]
theorem mem4b {A1 A2 B1 B2 : List KV} {y : KV} (h : y ∈ A2 ++ B2) : y ∈ (A1 ++ A2) ++ (B1 ++ B2) := by
  rcases List.mem_append.1 h with h | h <;> simp [h]
set_option maxHeartbeats 4000000 in
theorem symS_s {n : Nat} (ih : SymT w0 H n) : SymT w0 H (n + 1) := by
  intro a c p m q x A B z hn h
  by_cases ha1 : A.length = 1
  · obtain ⟨e, rfl⟩ := List.length_eq_one_iff.1 ha1
    exact sym1_s h
  by_cases hb1 : B.length = 1
  · obtain ⟨e, rfl⟩ := List.length_eq_one_iff.1 hb1
    exact sym2_s h ha1
  obtain ⟨xs, hxs⟩ : ∃ xs, xs = x ++ (A ++ (B ++ z)) := ⟨_, rfl⟩
  obtain ⟨hlen, hgA, hgB⟩ := h.at hxs
  have h1 := h.hp
  have h2 := h.hm
  have h3 := h.hq
  have h4 := h.a0
  have h6 := h.b0
  have h5 := h.hl
  obtain ⟨T, hT⟩ : ∃ T, T = xs.length := ⟨_, rfl⟩
  rw [← hxs, ← hT]
  refine fns_enter Tryz.func105 rfl rfl rfl ?_
  refine s_kn (φ := ∃ ad, a = some ad) (fun w hw => own_gA (c := c) (Sat.ownOf (c' := ol 31 a c xs) .hd hw) (by omega)) ?_
  rintro ⟨ad, rfl⟩
  refine sx ?_
  refine s_if rfl (fun t1 => by exfalso; omega) (fun t1 => ?_)
  refine sx ?_
  refine s_if rfl (fun t2 => by exfalso; omega) (fun t2 => ?_)
  refine sx ?_
  obtain ⟨mid, hmid⟩ : ∃ mid, mid = (p + q) / 2 := ⟨_, rfl⟩
  obtain ⟨N, hN⟩ : ∃ N, N = mid + m := ⟨_, rfl⟩
  refine s_rwC (t := 18) (v' := .int .i64 (mid : Int)) rfl (ci (by omega)) ?_
  refine s_rwC (t := 19) (v' := .int .i64 (N : Int)) rfl (ci (by omega)) ?_
  refine s_cut (ι := Nat × Nat) (fun i => [(0, .slice (some ad) T c), (1, .int .i64 p), (2, .int .i64 m), (3, .int .i64 q), (4, fcA), (18, .int .i64 (mid : Int)), (19, .int .i64 (N : Int)), (20, .int .i64 i.1), (21, .int .i64 i.2)]) (fun _ => ol 31 (some ad) c xs :: H)
    (fun i => p ≤ i.1 ∧ i.1 ≤ i.2 ∧ i.2 ≤ m ∧ i.2 ≤ mid ∧ N ≤ i.1 + q ∧ (i.1 = p ∨ N = i.1 + q) ∧ (i.2 = m ∨ N = i.2 + m)) ?_ ?_
  · have hm2 : ((p : Int) + (q : Int)) / 2 = (mid : Int) := by omega
    refine s_if rfl (fun t3 => ?_) (fun t3 => ?_)
    · rw [hm2] at t3
      refine sx ?_
      exact s_mid (N - q, mid) (by simp only; omega)
    · rw [hm2] at t3
      refine sx ?_
      have g1 : m ≤ mid := by omega
      have g2 : N ≤ p + q := by omega
      exact s_mid (p, m) ⟨Nat.le_refl _, by simp only; omega, Nat.le_refl _, g1, g2, .inl rfl, .inl rfl⟩
  rintro ⟨s0, r0⟩ ⟨k1, k2, k3, k4, k5, k6, k7⟩
  simp only at k1 k2 k3 k4 k5 k6 k7 ⊢
  refine sx ?_
  refine s_loop (fun i : Nat × Nat => [(0, .slice (some ad) T c), (1, .int .i64 p), (2, .int .i64 m), (3, .int .i64 q), (4, fcA), (18, .int .i64 (mid : Int)), (19, .int .i64 (N : Int)), (20, .int .i64 i.1), (21, .int .i64 i.2), (22, .int .i64 ((N : Int) - 1))]) (fun _ => ol 31 (some ad) c xs :: H)
    (fun i => (p ≤ i.1 ∧ i.1 ≤ i.2 ∧ i.2 ≤ m ∧ i.2 ≤ mid ∧ N ≤ i.1 + q) ∧ (i.1 = p ∨ N = i.1 + q ∨ (∀ a b, xs[i.1 - 1]? = some a → xs[N - i.1]? = some b → cmp a.k b.k ≤ 0)) ∧ (i.2 = m ∨ N = i.2 + m ∨ (∀ a b, xs[i.2]? = some a → xs[N - 1 - i.2]? = some b → cmp b.k a.k < 0))) (fun i => i.2 - i.1) (s0, r0) ⟨⟨k1, k2, k3, k4, k5⟩, by rcases k6 with k | k; exact .inl k; exact .inr (.inl k), by rcases k7 with k | k; exact .inl k; exact .inr (.inl k)⟩ ?_
  clear k1 k2 k3 k4 k5 k6 k7
  rintro ⟨s, r⟩ ⟨⟨k1, k2, k3, k4, k5⟩, k6, k7⟩
  simp only at k1 k2 k3 k4 k5 k6 k7 ⊢
  refine sx ?_
  refine s_if rfl (fun t3 => ?_) (fun t3 => ?_)
  · obtain ⟨k, hk⟩ : ∃ k, k = (s + r) / 2 := ⟨_, rfl⟩
    have hks : s ≤ k ∧ k < r := by omega
    obtain ⟨k', hk'⟩ : ∃ k', k' = N - 1 - k := ⟨_, rfl⟩
    have hkm : m ≤ k' ∧ k' < q := by omega
    obtain ⟨y, hy⟩ := get_lt xs k (by omega)
    obtain ⟨y', hy'⟩ := get_lt xs k' (by omega)
    have hyr : RBy w0 H y.ka y.kc y.k := h.hr y (List.mem_append_left _ (List.mem_of_getElem? (i := k - p) (by rw [← hgA (k - p) (by omega), show p + (k - p) = k by omega]; exact hy)))
    have hyr' : RBy w0 H y'.ka y'.kc y'.k := h.hr y' (List.mem_append_right _ (List.mem_of_getElem? (i := k' - m) (by rw [← hgB (k' - m) (by omega), show m + (k' - m) = k' by omega]; exact hy')))
    have hTk : k < T ∧ k' < T := by omega
    rw [hT]
    refine sx ?_
    refine s_rwC (t := 23) (v' := .int .i64 (k : Int)) rfl (ci (by omega)) ?_
    have hkl : k < xs.length := by omega
    have hkl' : k' < xs.length := by omega
    refine sx ?_; refine s_dr (.one true 0 (.one true 1 (.one true 2 (.one true 3 (.one true 4 (.one true 5 (.one true 6 (.one true 7 (.one true 8 (.one true 9 (.one true 10 (.one false 11 (.one true 12 (.one true 13 .nil)))))))))))))) mixed (by kernel_rfl) ?_; refine sx ?_
    refine s_rw (t := 162) (v' := .int .i64 (k' : Int)) rfl (ci (by omega)) ?_
    refine sx ?_
    refine s_callFV (cap := []) rfl rfl (acmp_s (x := y') (y := y) hyr'.tl hyr.tl) ?_
    refine sx ?_
    rw [← hT]
    refine s_ifn rfl (fun t4 => ?_) (fun t4 => ?_)
    · refine sx ?_
      refine s_again (k + 1, r) ⟨⟨by simp only; omega, by simp only; omega, k3, k4, by simp only; omega⟩, .inr (.inr fun a b g1 g2 => ?_), k7⟩ (by simp only; omega)
      simp only [Nat.add_sub_cancel] at g1 g2
      rw [show N - (k + 1) = k' by omega, hy'] at g2
      rw [hy] at g1
      cases g1; cases g2
      exact nlt t4
    · refine sx ?_
      refine s_again (s, k) ⟨⟨k1, by simp only; omega, by simp only; omega, by simp only; omega, k5⟩, k6, .inr (.inr fun a b g1 g2 => ?_)⟩ (by simp only; omega)
      simp only at g1 g2
      rw [← hk', hy'] at g2
      rw [hy] at g1
      cases g1; cases g2
      exact t4
  obtain rfl : s = r := by omega
  obtain ⟨e, he⟩ : ∃ e, e = N - s := ⟨_, rfl⟩
  have hlo := lt_of_ends (A := A) (B := B) (p := s - p) (q := e - m) h.aA h.aB (fun a b ga g0 gb => by
    have gal := (List.getElem?_eq_some_iff.1 ga).1
    rw [← hgA (s - p) gal, show p + (s - p) = s by omega] at ga
    rw [← hgB (e - m - 1) (by omega), show m + (e - m - 1) = N - 1 - s by omega] at gb
    rcases k7 with g | g | g
    · exfalso; omega
    · exfalso; omega
    · exact g a b ga gb) (by omega)
  have hhi := le_of_ends (A := A) (B := B) (p := s - p) (q := e - m) h.aA h.aB (fun a b g0 ga gb => by
    have gbl := (List.getElem?_eq_some_iff.1 gb).1
    rw [← hgA (s - p - 1) (by omega), show p + (s - p - 1) = s - 1 by omega] at ga
    rw [← hgB (e - m) gbl, show m + (e - m) = N - s by omega] at gb
    rcases k6 with g | g | g
    · exfalso; omega
    · exfalso; omega
    · exact g a b ga gb) (by omega)
  have hA := List.take_append_drop (s - p) A
  have hB := List.take_append_drop (e - m) B
  have la1 : (A.take (s - p)).length = s - p := by rw [List.length_take]; omega
  have la2 : (A.drop (s - p)).length = m - s := by rw [List.length_drop]; omega
  have lb1 : (B.take (e - m)).length = e - m := by rw [List.length_take]; omega
  have lb2 : (B.drop (e - m)).length = q - e := by rw [List.length_drop]; omega
  generalize A.take (s - p) = A1 at hA la1 hlo hhi
  generalize A.drop (s - p) = A2 at hA la2 hlo hhi
  generalize B.take (e - m) = B1 at hB lb1 hlo hhi
  generalize B.drop (e - m) = B2 at hB lb2 hlo hhi
  have hx2 : xs = (x ++ A1) ++ (A2 ++ (B1 ++ (B2 ++ z))) := by rw [hxs, ← hA, ← hB]; simp only [List.append_assoc]
  have aA := h.aA
  have aB := h.aB
  rw [← hA] at aA
  rw [← hB] at aB
  have hrr : ∀ y ∈ (A1 ++ A2) ++ (B1 ++ B2), RBy w0 H y.ka y.kc y.k := by rw [hA, hB]; exact h.hr
  have hTl : T = x.length + A1.length + A2.length + B1.length + B2.length + z.length := by rw [hT, hx2]; simp only [List.length_append]; omega
  obtain ⟨aA1, aA2, _⟩ := asc_app.1 aA
  obtain ⟨aB1, aB2, _⟩ := asc_app.1 aB
  clear hgA hgB k6 k7
  refine sx ?_
  refine s_rw (t := 24) (v' := .int .i64 (e : Int)) rfl (ci (by omega)) ?_
  have hx3 : ∀ A2' B1' : List KV, (A2' = [] ∨ B1' = []) → (x ++ A1) ++ (A2' ++ (B1' ++ (B2 ++ z))) = x ++ (A1 ++ (B1' ++ (A2' ++ (B2 ++ z)))) := fun A2' B1' g => by
    rcases g with rfl | rfl <;> simp only [List.nil_append, List.append_assoc]
  apply s_joinU
  · intro key
    have stp : StopAt 41 := trivial
    refine s_lif rfl (fun t5 => ?_) (fun t5 => ?_)
    rotate_left
    · rw [hx2, hx3 A2 B1 (.inl (List.eq_nil_of_length_eq_zero (by omega)))]
      refine sxs ?_
      refine s_sub (l' := [(0, .slice (some ad) T c), (1, .int .i64 p), (3, .int .i64 q), (4, fcA), (18, .int .i64 (mid : Int)), (20, .int .i64 s), (24, .int .i64 (e : Int))]) ?_ (by repeat (first | exact trivial | refine And.intro (by first | exact rfl | exact congrArg some (ci (by omega))) ?_))
      exact key.out
    · refine sxs ?_
      refine s_if rfl (fun t6 => ?_) (fun t6 => ?_)
      rotate_left
      · rw [hx2, hx3 A2 B1 (.inr (List.eq_nil_of_length_eq_zero (by omega)))]
        refine sxs ?_
        refine s_sub (l' := [(0, .slice (some ad) T c), (1, .int .i64 p), (3, .int .i64 q), (4, fcA), (18, .int .i64 (mid : Int)), (20, .int .i64 s), (24, .int .i64 (e : Int))]) ?_ (by repeat (first | exact trivial | refine And.intro (by first | exact rfl | exact congrArg some (ci (by omega))) ?_))
        exact key.out
      · rw [hx2]
        refine s_rwC (t := 0) (v' := .slice (some ad) ((x ++ A1) ++ (A2 ++ (B1 ++ (B2 ++ z)))).length c) rfl (by rw [hT, hx2]) ?_
        refine sxs ?_
        refine s_call rfl (rotE_s (p := s) (m := m) (q := e) (x := x ++ A1) (u := A2) (v := B1) (y := B2 ++ z) (by rw [List.length_append]; omega) (by rw [List.length_append]; omega) (by rw [List.length_append]; omega) (by intro g; rw [g] at la2; simp only [List.length_nil] at la2; omega) (by intro g; rw [g] at lb1; simp only [List.length_nil] at lb1; omega) (by rw [← hx2]; omega)) ?_
        rintro _ _ ⟨rfl, rfl⟩
        refine ⟨chk_seq, ?_⟩
        refine s_rw (t := 0) (v' := .slice (some ad) T c) rfl (by rw [hT, hx2]) ?_
        rw [show (x ++ A1) ++ (B1 ++ (A2 ++ (B2 ++ z))) = x ++ (A1 ++ (B1 ++ (A2 ++ (B2 ++ z)))) from by simp only [List.append_assoc]]
        refine sxs ?_
        refine s_sub (l' := [(0, .slice (some ad) T c), (1, .int .i64 p), (3, .int .i64 q), (4, fcA), (18, .int .i64 (mid : Int)), (20, .int .i64 s), (24, .int .i64 (e : Int))]) ?_ (by repeat (first | exact trivial | refine And.intro (by first | exact rfl | exact congrArg some (ci (by omega))) ?_))
        exact key.out
  clear hx2 hx3 hxs hT hlen
  have low1 : ∀ t : ¬ (p < s ∧ s < mid), ∃ s1, Mrg (A1 ++ B1) s1 ∧ x ++ (A1 ++ (B1 ++ (A2 ++ (B2 ++ z)))) = x ++ (s1 ++ (A2 ++ (B2 ++ z))) := fun t => by
    refine ⟨A1 ++ B1, ?_, by simp only [List.append_assoc]⟩
    rcases Nat.lt_or_ge p s with g | g
    · obtain rfl : B1 = [] := List.eq_nil_of_length_eq_zero (by omega)
      rw [List.append_nil]; exact Mrg.refl aA1
    · obtain rfl : A1 = [] := List.eq_nil_of_length_eq_zero (by omega)
      exact Mrg.refl aB1
  refine sx ?_
  refine s_lif rfl (fun t5 => ?_) (fun t5 => ?_)
  · refine sx ?_
    refine s_if rfl (fun t6 => ?_) (fun t6 => ?_)
    · refine s_rwC (t := 0) (v' := .slice (some ad) (x ++ (A1 ++ (B1 ++ (A2 ++ (B2 ++ z))))).length c) rfl (by rw [hTl]; simp only [List.length_append]; congr 1; omega) ?_
      refine sx ?_
      refine s_call rfl (ih (p := p) (m := s) (q := mid) (x := x) (A := A1) (B := B1) (z := A2 ++ (B2 ++ z)) (by omega) ⟨h1, by omega, by omega, by omega, by omega, aA1, aB1, fun y hy => hrr y (mem4a hy), by simp only [List.length_append]; omega⟩) ?_
      rintro _ _ ⟨rfl, s1, hs1, rfl⟩
      refine ⟨chk_seq, ?_⟩
      refine s_rw (t := 0) (v' := .slice (some ad) T c) rfl (by rw [hTl]; simp only [List.length_append]; congr 1; omega) ?_
      have l1 := hs1.st.len
      rw [List.length_append] at l1
      have fin : ∀ s2, Mrg (A2 ++ B2) s2 → Mrg (A ++ B) (s1 ++ s2) := fun s2 hs2 => by
        rw [← hA, ← hB]
        exact Mrg.parts aA aB hlo hhi hs1 hs2
      have low : ∀ t : ¬ (mid < e ∧ e < q), Mrg (A2 ++ B2) (A2 ++ B2) := fun t => by
        rcases Nat.lt_or_ge mid e with g | g
        · obtain rfl : B2 = [] := List.eq_nil_of_length_eq_zero (by omega)
          rw [List.append_nil]; exact Mrg.refl aA2
        · obtain rfl : A2 = [] := List.eq_nil_of_length_eq_zero (by omega)
          exact Mrg.refl aB2
      have e4 : x ++ (s1 ++ (A2 ++ (B2 ++ z))) = x ++ ((s1 ++ (A2 ++ B2)) ++ z) := by simp only [List.append_assoc]
      refine sx ?_
      refine s_lif rfl (fun t5 => ?_) (fun t5 => ?_)
      · refine sx ?_
        refine s_if rfl (fun t6 => ?_) (fun t6 => ?_)
        · have e5 : x ++ (s1 ++ (A2 ++ (B2 ++ z))) = (x ++ s1) ++ (A2 ++ (B2 ++ z)) := by simp only [List.append_assoc]
          rw [e5]
          refine s_rwC (t := 0) (v' := .slice (some ad) ((x ++ s1) ++ (A2 ++ (B2 ++ z))).length c) rfl (by rw [hTl]; simp only [List.length_append]; congr 1; omega) ?_
          refine sx ?_
          refine s_call rfl (ih (p := mid) (m := e) (q := q) (x := x ++ s1) (A := A2) (B := B2) (z := z) (by omega) ⟨by rw [List.length_append]; omega, by rw [List.length_append]; omega, by rw [List.length_append]; omega, by omega, by omega, aA2, aB2, fun y hy => hrr y (mem4b hy), by rw [List.length_append]; omega⟩) ?_
          rintro _ _ ⟨rfl, s2, hs2, rfl⟩
          refine ⟨chk_seq, ?_⟩
          refine sx ?_
          refine s_end0 rfl ⟨rfl, _, fin s2 hs2, rfl⟩ ?_
          simp only [List.append_assoc]
          exact Ent.refl
        · rw [e4]
          refine sx ?_
          exact s_end0 rfl ⟨rfl, _, fin _ (low (by omega)), rfl⟩
      · rw [e4]
        refine sx ?_
        exact s_end0 rfl ⟨rfl, _, fin _ (low (by omega)), rfl⟩
    · obtain ⟨s1, hs1, e3⟩ := low1 (by omega)
      rw [e3]
      have l1 := hs1.st.len
      rw [List.length_append] at l1
      have fin : ∀ s2, Mrg (A2 ++ B2) s2 → Mrg (A ++ B) (s1 ++ s2) := fun s2 hs2 => by
        rw [← hA, ← hB]
        exact Mrg.parts aA aB hlo hhi hs1 hs2
      have low : ∀ t : ¬ (mid < e ∧ e < q), Mrg (A2 ++ B2) (A2 ++ B2) := fun t => by
        rcases Nat.lt_or_ge mid e with g | g
        · obtain rfl : B2 = [] := List.eq_nil_of_length_eq_zero (by omega)
          rw [List.append_nil]; exact Mrg.refl aA2
        · obtain rfl : A2 = [] := List.eq_nil_of_length_eq_zero (by omega)
          exact Mrg.refl aB2
      have e4 : x ++ (s1 ++ (A2 ++ (B2 ++ z))) = x ++ ((s1 ++ (A2 ++ B2)) ++ z) := by simp only [List.append_assoc]
      refine sx ?_
      refine s_lif rfl (fun t5 => ?_) (fun t5 => ?_)
      · refine sx ?_
        refine s_if rfl (fun t6 => ?_) (fun t6 => ?_)
        · have e5 : x ++ (s1 ++ (A2 ++ (B2 ++ z))) = (x ++ s1) ++ (A2 ++ (B2 ++ z)) := by simp only [List.append_assoc]
          rw [e5]
          refine s_rwC (t := 0) (v' := .slice (some ad) ((x ++ s1) ++ (A2 ++ (B2 ++ z))).length c) rfl (by rw [hTl]; simp only [List.length_append]; congr 1; omega) ?_
          refine sx ?_
          refine s_call rfl (ih (p := mid) (m := e) (q := q) (x := x ++ s1) (A := A2) (B := B2) (z := z) (by omega) ⟨by rw [List.length_append]; omega, by rw [List.length_append]; omega, by rw [List.length_append]; omega, by omega, by omega, aA2, aB2, fun y hy => hrr y (mem4b hy), by rw [List.length_append]; omega⟩) ?_
          rintro _ _ ⟨rfl, s2, hs2, rfl⟩
          refine ⟨chk_seq, ?_⟩
          refine sx ?_
          refine s_end0 rfl ⟨rfl, _, fin s2 hs2, rfl⟩ ?_
          simp only [List.append_assoc]
          exact Ent.refl
        · rw [e4]
          refine sx ?_
          exact s_end0 rfl ⟨rfl, _, fin _ (low (by omega)), rfl⟩
      · rw [e4]
        refine sx ?_
        exact s_end0 rfl ⟨rfl, _, fin _ (low (by omega)), rfl⟩
  · obtain ⟨s1, hs1, e3⟩ := low1 (by omega)
    rw [e3]
    have l1 := hs1.st.len
    rw [List.length_append] at l1
    have fin : ∀ s2, Mrg (A2 ++ B2) s2 → Mrg (A ++ B) (s1 ++ s2) := fun s2 hs2 => by
      rw [← hA, ← hB]
      exact Mrg.parts aA aB hlo hhi hs1 hs2
    have low : ∀ t : ¬ (mid < e ∧ e < q), Mrg (A2 ++ B2) (A2 ++ B2) := fun t => by
      rcases Nat.lt_or_ge mid e with g | g
      · obtain rfl : B2 = [] := List.eq_nil_of_length_eq_zero (by omega)
        rw [List.append_nil]; exact Mrg.refl aA2
      · obtain rfl : A2 = [] := List.eq_nil_of_length_eq_zero (by omega)
        exact Mrg.refl aB2
    have e4 : x ++ (s1 ++ (A2 ++ (B2 ++ z))) = x ++ ((s1 ++ (A2 ++ B2)) ++ z) := by simp only [List.append_assoc]
    refine sx ?_
    refine s_lif rfl (fun t5 => ?_) (fun t5 => ?_)
    · refine sx ?_
      refine s_if rfl (fun t6 => ?_) (fun t6 => ?_)
      · have e5 : x ++ (s1 ++ (A2 ++ (B2 ++ z))) = (x ++ s1) ++ (A2 ++ (B2 ++ z)) := by simp only [List.append_assoc]
        rw [e5]
        refine s_rwC (t := 0) (v' := .slice (some ad) ((x ++ s1) ++ (A2 ++ (B2 ++ z))).length c) rfl (by rw [hTl]; simp only [List.length_append]; congr 1; omega) ?_
        refine sx ?_
        refine s_call rfl (ih (p := mid) (m := e) (q := q) (x := x ++ s1) (A := A2) (B := B2) (z := z) (by omega) ⟨by rw [List.length_append]; omega, by rw [List.length_append]; omega, by rw [List.length_append]; omega, by omega, by omega, aA2, aB2, fun y hy => hrr y (mem4b hy), by rw [List.length_append]; omega⟩) ?_
        rintro _ _ ⟨rfl, s2, hs2, rfl⟩
        refine ⟨chk_seq, ?_⟩
        refine sx ?_
        refine s_end0 rfl ⟨rfl, _, fin s2 hs2, rfl⟩ ?_
        simp only [List.append_assoc]
        exact Ent.refl
      · rw [e4]
        refine sx ?_
        exact s_end0 rfl ⟨rfl, _, fin _ (low (by omega)), rfl⟩
    · rw [e4]
      refine sx ?_
      exact s_end0 rfl ⟨rfl, _, fin _ (low (by omega)), rfl⟩
theorem symM_s {w0 : World} {H : List Ck} : ∀ n, SymT w0 H n
  | 0 => fun hn h => absurd h.a0 (by omega)
  | n + 1 => symS_s (symM_s n)
end Go.Sx

