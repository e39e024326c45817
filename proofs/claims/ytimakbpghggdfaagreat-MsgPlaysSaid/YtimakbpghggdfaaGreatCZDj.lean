/- Part of a proof: several parts of a walk, one behind the other. -/
import Derived.Test.YtimakbpghggdfaaGreatCZBj
namespace Go.Sx
open Go Go.Proofs
set_option maxRecDepth 10000
variable {w0 : World} {H : List Ck}
structure InI where
  u : List KV
  s : List KV
  t : List KV
set_option maxHeartbeats 2000000 in
theorem insS_s {a : Option Addr} {c p q : Nat} {x seg z : List KV} (hp : p = x.length) (hq : q = x.length + seg.length) (hr : ∀ e ∈ seg, RBy w0 H e.ka e.kc e.k) (hl : (x ++ (seg ++ z)).length ≤ 1099511627776) :
    FnS Tryz.prog w0 (ol 31 a c (x ++ (seg ++ z)) :: H) 104 #[.slice a (x ++ (seg ++ z)).length c, .int .i64 p, .int .i64 q, fcA] (fun v H' => v = .tuple #[] ∧ ∃ s, Mrg seg s ∧ H' = ol 31 a c (x ++ (s ++ z)) :: H) := by
  have hxl : (x ++ (seg ++ z)).length = x.length + seg.length + z.length := by simp only [List.length_append]; omega
  rw [hxl] at hl ⊢
  refine fns_enter Tryz.func104 rfl rfl rfl ?_
  refine sx ?_
  rcases seg with _ | ⟨e0, seg⟩
  · simp only [List.length_nil] at hq
    refine s_loop (fun _ : Unit => [(2, .int .i64 q), (8, .int .i64 ((p : Int) + 1))]) (fun _ => ol 31 a c (x ++ ([] ++ z)) :: H) (fun _ => True) (fun _ => 0) () trivial ?_
    intro _ _
    refine sx ?_
    refine s_if rfl (fun t1 => by exfalso; omega) (fun t1 => ?_)
    refine sx ?_
    exact s_end0 rfl ⟨rfl, [], Mrg.refl Asc.nil, rfl⟩
  simp only [List.length_cons] at hq hl ⊢
  refine s_loop (fun m : InI => [(0, .slice a (x.length + (seg.length + 1) + z.length) c), (1, .int .i64 p), (2, .int .i64 q), (3, fcA), (8, .int .i64 ((x.length + m.s.length : Nat) : Int))]) (fun m => ol 31 a c (x ++ (m.s ++ (m.t ++ z))) :: H) (fun m => m.u ++ m.t = e0 :: seg ∧ Mrg m.u m.s ∧ 0 < m.s.length) (fun m => m.t.length) ⟨[e0], [e0], seg⟩ ⟨rfl, Mrg.refl (Asc.one _), by simp⟩ ?_ (h0 := by simp only [List.length_cons, List.length_nil]; repeat (first | exact trivial | refine And.intro (by first | exact rfl | exact congrArg some (ci (by omega))) ?_))
  rintro ⟨u, s, t⟩ ⟨h1, h2, h3⟩
  simp only at h1 h2 h3 ⊢
  have h4 : s.length + t.length = seg.length + 1 := by
    have := congrArg List.length h1
    have := h2.st.len
    simp only [List.length_append, List.length_cons] at *
    omega
  refine sx ?_
  refine s_if rfl (fun t1 => ?_) (fun t1 => ?_)
  · obtain ⟨e, t, rfl⟩ : ∃ e t', t = e :: t' := by
      cases t with
      | nil => simp only [List.length_nil] at h4; exfalso; omega
      | cons e t => exact ⟨e, t, rfl⟩
    have her : RBy w0 H e.ka e.kc e.k := hr e (by rw [← h1]; simp)
    have hsr : ∀ y ∈ s, RBy w0 H y.ka y.kc y.k := fun y hy => hr y (by rw [← h1]; exact List.mem_append_left _ (h2.st.perm.mem_iff.2 hy))
    simp only [List.length_cons] at h4
    refine sx ?_
    refine s_loop (fun m : List KV × List KV => [(0, .slice a (x.length + (seg.length + 1) + z.length) c), (1, .int .i64 p), (2, .int .i64 q), (3, fcA), (8, .int .i64 ((x.length + s.length : Nat) : Int)), (9, .int .i64 ((x.length + m.1.length : Nat) : Int))]) (fun m => ol 31 a c (x ++ (m.1 ++ (e :: (m.2 ++ (t ++ z))))) :: H) (fun m => m.1 ++ m.2 = s ∧ ∀ y ∈ m.2, cmp e.k y.k < 0) (fun m => m.1.length) (s, []) ⟨by simp, fun y h => by cases h⟩ ?_ (he := by simp only [List.nil_append, List.cons_append]; exact Ent.refl)
    rintro ⟨s1, s2⟩ ⟨g1, g2⟩
    simp only at g1 g2 ⊢
    have g3 : s1.length + s2.length = s.length := by rw [← g1, List.length_append]
    by_cases hs1 : s1 = []
    · subst hs1
      refine sx ?_; refine s_dr (.one true 0 (.one true 1 (.one true 2 (.one true 3 (.one true 4 (.one true 5 (.one true 6 (.one true 7 (.one true 8 (.one true 9 (.one true 10 (.one true 11 (.one true 12 (.one true 13 (.one false 14 (.one true 15 (.one true 16 .nil))))))))))))))))) mixed (by kernel_rfl) ?_; refine sx ?_
      refine s_lif rfl (fun t2 => by exfalso; simp only [List.length_nil] at t2; omega) (fun t2 => ?_)
      refine sx ?_
      refine s_again ⟨u ++ [e], e :: s2, t⟩ ⟨by simp only [List.append_assoc, List.singleton_append]; exact h1, Mrg.ins (s1 := []) (by rw [g1]; exact h2) (fun y h => by cases h) g2, by simp⟩ (by simp only [List.length_cons]; omega) (hs := by simp only [List.length_cons]; simp only [List.length_nil] at g3; repeat (first | exact trivial | refine And.intro (by first | exact rfl | exact congrArg some (ci (by omega))) ?_)) (he := by simp only [List.nil_append, List.cons_append]; exact Ent.refl)
    · obtain ⟨s1, d, rfl⟩ : ∃ l d, s1 = l ++ [d] := ⟨s1.dropLast, s1.getLast hs1, (List.dropLast_concat_getLast _).symm⟩
      clear hs1
      have hdr : RBy w0 H d.ka d.kc d.k := hsr d (by rw [← g1]; simp)
      obtain ⟨xs, hxs⟩ : ∃ xs, xs = x ++ ((s1 ++ [d]) ++ (e :: (s2 ++ (t ++ z)))) := ⟨_, rfl⟩
      have hx2 : xs = (x ++ s1) ++ d :: e :: (s2 ++ (t ++ z)) := by rw [hxs]; simp only [List.append_assoc, List.singleton_append]
      rw [← hxs]
      have hlen : xs.length = x.length + (seg.length + 1) + z.length := by
        rw [hx2]; simp only [List.length_append, List.length_cons, List.length_nil] at *; omega
      simp only [List.length_append, List.length_cons, List.length_nil] at g3
      obtain ⟨j, hj⟩ : ∃ j, j = x.length + s1.length := ⟨_, rfl⟩
      have hd1 : xs[j]? = some d := by rw [hx2, hj, ← List.length_append]; exact get_mid _ _ _
      have he1 : xs[j + 1]? = some e := by rw [hx2, hj, ← List.length_append]; exact get_mid1 _ _ _ _
      have hd2 : xs[j + 1 - 1]? = some d := hd1
      have hjl : j + 1 < xs.length := by omega
      rw [← hlen]
      refine s_rwC (t := 9) (v' := .int .i64 ((j + 1 : Nat) : Int)) rfl (ci (by simp only [List.length_append, List.length_cons, List.length_nil]; omega)) ?_
      refine s_kn (φ := ∃ ad, a = some ad) (fun w hw => own_gA (c := c) (Sat.ownOf (c' := ol 31 a c xs) .hd hw) (by omega)) ?_
      rintro ⟨ad, rfl⟩
      refine sx ?_; refine s_dr (.one true 0 (.one true 1 (.one true 2 (.one true 3 (.one true 4 (.one true 5 (.one true 6 (.one true 7 (.one true 8 (.one true 9 (.one true 10 (.one true 11 (.one true 12 (.one true 13 (.one false 14 (.one true 15 (.one true 16 .nil))))))))))))))))) mixed (by kernel_rfl) ?_; refine sx ?_
      refine s_lif rfl (fun t5 => ?_) (fun t5 => by exfalso; omega)
      refine sx ?_
      refine s_callFV (cap := []) rfl rfl (acmp_s (x := e) (y := d) her.tl hdr.tl) ?_
      refine sx ?_
      refine s_if rfl (fun t2 => ?_) (fun t2 => ?_)
      · have hh : ∀ ys : List KV, RSl w0 (ol 31 (some ad) c ys :: H) (some ad) c ys := fun ys => RSl.hd
        apply s_joinU
        intro key
        have stp : StopAt 5 := trivial
        refine sx ?_; refine s_drH (([] : List Ck)) (.one true 0 (.one true 1 (.one true 2 (.one true 3 (.one true 4 (.one true 5 (.one true 6 (.one true 7 (.one true 8 (.one true 10 (.one true 11 (.one true 12 (.alt (.one false 9 (.one false 13 (.one true 14 (.one false 15 (.one true 16 (.one false 17 .nil)))))) (.one false 13 (.one false 9 (.one true 14 (.one false 15 (.one true 16 (.one false 17 .nil))))))))))))))))))) mixed (by kernel_rfl) ?_; refine sx ?_
        refine s_rw (t := 41) (v' := .int .i64 (j : Int)) rfl (ci (by omega)) ?_
        refine s_rw (t := 44) (v' := .int .i64 (j : Int)) rfl (ci (by omega)) ?_
        refine sx ?_
        refine s_alt ?_ ?_
        · refine s_yA rfl rfl (by exact yy) ?_ (chk_held Ent.nil)
          refine s_yA rfl rfl (by exact yy) ?_ (chk_held Ent.nil)
          refine sx1 ?_
          refine s_setA (i := j + 1) d rfl rfl (by exact at_) rfl (by omega) ?_ (hk := chk_held Ent.nil)
          refine sx1 ?_
          refine s_setA (i := j) e rfl rfl (by exact at_) rfl (by rw [List.length_set]; omega) ?_ (hk := chk_held Ent.nil)
          refine sxs ?_
          refine s_sub (l' := [(0, .slice (some ad) xs.length c), (1, .int .i64 p), (2, .int .i64 q), (3, fcA), (8, .int .i64 ((x.length + s.length : Nat) : Int)), (9, .int .i64 ((j + 1 : Nat) : Int))]) ?_ (by repeat (first | exact trivial | refine And.intro (by first | exact rfl | exact congrArg some (ci (by omega))) ?_))
          exact key.out
        · refine s_yA rfl rfl (by exact yy) ?_ (chk_held Ent.nil)
          refine s_yA rfl rfl (by exact yy) ?_ (chk_held Ent.nil)
          refine sx1 ?_
          refine s_setA (i := j + 1) d rfl rfl (by exact at_) rfl (by omega) ?_ (hk := chk_held Ent.nil)
          refine sx1 ?_
          refine s_setA (i := j) e rfl rfl (by exact at_) rfl (by rw [List.length_set]; omega) ?_ (hk := chk_held Ent.nil)
          refine sxs ?_
          refine s_sub (l' := [(0, .slice (some ad) xs.length c), (1, .int .i64 p), (2, .int .i64 q), (3, fcA), (8, .int .i64 ((x.length + s.length : Nat) : Int)), (9, .int .i64 ((j + 1 : Nat) : Int))]) ?_ (by repeat (first | exact trivial | refine And.intro (by first | exact rfl | exact congrArg some (ci (by omega))) ?_))
          exact key.out
        rw [hlen]
        refine sx ?_
        have e2 : (xs.set (j + 1) d).set j e = x ++ (s1 ++ (e :: ((d :: s2) ++ (t ++ z)))) := by
          rw [hx2, hj, ← List.length_append, set_sw]
          simp only [List.append_assoc, List.cons_append]
        rw [e2]
        refine s_again (s1, d :: s2) ⟨by rw [← g1]; simp, fun y hy => ?_⟩ (by simp only [List.length_append, List.length_cons]; omega) (hs := by simp only; repeat (first | exact trivial | refine And.intro (by first | exact rfl | exact congrArg some (ci (by omega))) ?_))
        rcases List.mem_cons.1 hy with rfl | hy
        · exact t2
        · exact g2 y hy
      · rw [hlen]
        refine sx ?_
        refine s_again ⟨u ++ [e], (s1 ++ [d]) ++ e :: s2, t⟩ ⟨by simp only [List.append_assoc, List.singleton_append]; exact h1, Mrg.ins (by rw [g1]; exact h2) (fun y hy => ?_) g2, by simp only [List.length_append, List.length_cons]; omega⟩ (by simp only [List.length_cons]; omega) (hs := by simp only [List.length_append, List.length_cons, List.length_nil]; repeat (first | exact trivial | refine And.intro (by first | exact rfl | exact congrArg some (ci (by omega))) ?_)) (he := by rw [hxs]; simp only [List.append_assoc, List.cons_append]; exact Ent.refl)
        have hup := h2.up
        rw [← g1] at hup
        have h5 := (asc_app.1 hup).1
        have h6 : cmp d.k e.k ≤ 0 := nlt t2
        rcases List.mem_append.1 hy with hy | hy
        · exact le_tr ((asc_app.1 h5).2.2 y hy d (by simp)) h6
        · rw [List.mem_singleton.1 hy]; exact h6
  · obtain rfl : t = [] := by
      cases t with
      | nil => rfl
      | cons e t => simp only [List.length_cons] at h4; exfalso; omega
    rw [List.append_nil] at h1
    subst h1
    refine sx ?_
    exact s_end0 rfl ⟨rfl, s, h2, rfl⟩
end Go.Sx
namespace Go.Sx
open Go Go.Proofs
set_option maxRecDepth 10000
variable {w0 : World} {H : List Ck}
abbrev MgR (a : Option Addr) (c : Nat) (x l z : List KV) (H : List Ck) : Value → List Ck → Prop := fun v H' => v = .tuple #[] ∧ ∃ s, Mrg l s ∧ H' = ol 31 a c (x ++ (s ++ z)) :: H
/-- What is asked ahead of a merge. -/
structure MgA (w0 : World) (H : List Ck) (p m q : Nat) (x A B z : List KV) : Prop where
  hp : p = x.length
  hm : m = x.length + A.length
  hq : q = x.length + A.length + B.length
  a0 : 0 < A.length
  b0 : 0 < B.length
  aA : Asc A
  aB : Asc B
  hr : ∀ e ∈ A ++ B, RBy w0 H e.ka e.kc e.k
  hl : x.length + A.length + B.length + z.length ≤ 1099511627776
theorem MgA.at {p m q : Nat} {x A B z : List KV} (h : MgA w0 H p m q x A B z) {xs : List KV} (hxs : xs = x ++ (A ++ (B ++ z))) :
    xs.length = p + A.length + B.length + z.length ∧ (∀ i, i < A.length → xs[p + i]? = A[i]?) ∧ (∀ i, i < B.length → xs[m + i]? = B[i]?) := by
  have h1 := h.hp
  have h2 := h.hm
  subst hxs
  refine ⟨by simp only [List.length_append]; omega, fun i hi => ?_, fun i hi => ?_⟩
  · rw [List.getElem?_append_right (by omega), List.getElem?_append_left (by omega)]
    congr 1; omega
  · rw [List.getElem?_append_right (by omega), List.getElem?_append_right (by omega), List.getElem?_append_left (by omega)]
    congr 1; omega
set_option maxHeartbeats 2000000 in
/-- One entry ahead of others. -/
theorem sym1_s {a : Option Addr} {c p m q : Nat} {x B z : List KV} {e : KV} (h : MgA w0 H p m q x [e] B z) :
    FnS Tryz.prog w0 (ol 31 a c (x ++ ([e] ++ (B ++ z))) :: H) 105 #[.slice a (x ++ ([e] ++ (B ++ z))).length c, .int .i64 p, .int .i64 m, .int .i64 q, fcA] (MgR a c x ([e] ++ B) z H) := by
  obtain ⟨xs, hxs⟩ : ∃ xs, xs = x ++ ([e] ++ (B ++ z)) := ⟨_, rfl⟩
  obtain ⟨hlen, hgA, hgB⟩ := h.at hxs
  have h1 := h.hp
  have h2 := h.hm
  have h3 := h.hq
  have h4 := h.b0
  have h5 := h.hl
  simp only [List.length_cons, List.length_nil] at h2 h3 h5 hlen hgA
  have he : xs[p]? = some e := by have := hgA 0 (by omega); simpa using this
  have her : RBy w0 H e.ka e.kc e.k := h.hr e (by simp)
  rw [← hxs]
  refine fns_enter Tryz.func105 rfl rfl rfl ?_
  refine s_kn (φ := ∃ ad, a = some ad) (fun w hw => own_gA (c := c) (Sat.ownOf (c' := ol 31 a c xs) .hd hw) (by omega)) ?_
  rintro ⟨ad, rfl⟩
  refine sx ?_
  refine s_if rfl (fun t1 => ?_) (fun t1 => by exfalso; omega)
  refine sx ?_
  refine s_loop (fun i : Nat × Nat => [(0, .slice (some ad) xs.length c), (1, .int .i64 p), (2, .int .i64 m), (3, .int .i64 q), (4, fcA), (10, .int .i64 i.1), (11, .int .i64 i.2)]) (fun _ => ol 31 (some ad) c xs :: H) (fun i => m ≤ i.1 ∧ i.1 ≤ i.2 ∧ i.2 ≤ q ∧ (∀ y, m < i.1 → xs[i.1 - 1]? = some y → cmp y.k e.k < 0) ∧ (∀ y, i.2 < q → xs[i.2]? = some y → ¬ cmp y.k e.k < 0)) (fun i => i.2 - i.1) (m, q) ⟨Nat.le_refl _, by simp only; omega, Nat.le_refl _, fun y hy => by simp only at hy; omega, fun y hy => by simp only at hy; omega⟩ ?_
  rintro ⟨i, j⟩ ⟨g1, g2, g3, g4, g5⟩
  simp only at g1 g2 g3 g4 g5 ⊢
  refine sx ?_
  refine s_if rfl (fun t2 => ?_) (fun t2 => ?_)
  · obtain ⟨k, hk⟩ : ∃ k, k = (i + j) / 2 := ⟨_, rfl⟩
    have hkq : k < q := by omega
    obtain ⟨y, hy⟩ := get_lt xs k (by omega)
    have hyr : RBy w0 H y.ka y.kc y.k := h.hr y (List.mem_append_right _ (List.mem_of_getElem? (i := k - m) (by rw [← hgB (k - m) (by omega), show m + (k - m) = k by omega]; exact hy)))
    refine sx ?_
    refine s_rwC (t := 12) (v' := .int .i64 (k : Int)) rfl (ci (by omega)) ?_
    refine sx ?_; refine s_dr (.one true 0 (.one true 1 (.one true 2 (.one true 3 (.one true 4 (.one true 5 (.one true 6 (.one true 7 (.one true 8 (.one false 9 (.one true 10 .nil))))))))))) mixed (by kernel_rfl) ?_; refine sx ?_
    refine s_callFV (cap := []) rfl rfl (acmp_s (x := y) (y := e) hyr.tl her.tl) ?_
    refine sx ?_
    refine s_if rfl (fun t3 => ?_) (fun t3 => ?_)
    · refine sx ?_
      refine s_again (k + 1, j) ⟨by simp only; omega, by simp only; omega, by simp only; omega, fun y' _ hy' => ?_, g5⟩ (by simp only; omega)
      simp only [Nat.add_sub_cancel] at hy'
      rw [hy] at hy'; cases hy'; exact t3
    · refine sx ?_
      refine s_again (i, k) ⟨by simp only; omega, by simp only; omega, by simp only; omega, g4, fun y' _ hy' => ?_⟩ (by simp only; omega)
      rw [hy] at hy'; cases hy'; exact t3
  · obtain rfl : i = j := by omega
    have hb1 : (B.take (i - m)).length = i - m := by rw [List.length_take]; omega
    have hlo : ∀ b ∈ B.take (i - m), ∀ a ∈ [e], cmp b.k a.k < 0 := by
      have := lt_of_ends (A := [e]) (B := B) (p := 0) (q := i - m) (Asc.one e) h.aB (fun a b ha h0 hb => by
        simp only [List.getElem?_cons_zero, Option.some.injEq] at ha
        rw [← hgB (i - m - 1) (by omega), show m + (i - m - 1) = i - 1 by omega] at hb
        rw [← ha]; exact g4 b (by omega) hb) (by omega)
      simpa using this
    have hhi : ∀ b ∈ B.drop (i - m), cmp e.k b.k ≤ 0 := fun b hb => by
      have := le_of_ends (A := [e]) (B := B) (p := 1) (q := i - m) (Asc.one e) h.aB (fun a b _ ha hb => by
        simp only [List.getElem?_cons_zero, Nat.sub_self, Option.some.injEq] at ha
        have hbl := (List.getElem?_eq_some_iff.1 hb).1
        rw [← hgB (i - m) (by omega), show m + (i - m) = i by omega] at hb
        rw [← ha]; exact nlt (g5 b (by omega) hb)) (by simp)
      exact this e (by simp) b hb
    have hmrg : Mrg ([e] ++ B) (B.take (i - m) ++ ([e] ++ B.drop (i - m))) := by
      have hB := List.take_append_drop (i - m) B
      have hAB : Asc (B.take (i - m) ++ B.drop (i - m)) := by rw [hB]; exact h.aB
      have := Mrg.parts (A1 := []) (A2 := [e]) (B1 := B.take (i - m)) (B2 := B.drop (i - m)) (by exact Asc.one e) hAB hlo (fun a ha => by cases ha) (Mrg.refl (asc_app.1 hAB).1) (Mrg.refl (asc_app.2 ⟨Asc.one e, (asc_app.1 hAB).2.1, fun a ha b hb => by rw [List.mem_singleton.1 ha]; exact hhi b hb⟩))
      rwa [hB, List.nil_append] at this
    generalize hB1 : B.take (i - m) = B1 at hb1 hmrg
    generalize hB2 : B.drop (i - m) = B2 at hmrg
    have hBB : B = B1 ++ B2 := by rw [← hB1, ← hB2, List.take_append_drop]
    have hx2 : xs = x ++ (B1.take 0 ++ (e :: (B1.drop 0 ++ (B2 ++ z)))) := by
      rw [hxs, hBB]; simp only [List.take_zero, List.drop_zero, List.nil_append, List.append_assoc, List.cons_append]
    clear hgA hgB he hB1 hB2
    refine sx ?_
    refine s_loop (fun t : Nat => [(0, .slice (some ad) xs.length c), (1, .int .i64 p), (10, .int .i64 i), (13, .int .i64 ((p + t : Nat) : Int))]) (fun t => ol 31 (some ad) c (x ++ (B1.take t ++ (e :: (B1.drop t ++ (B2 ++ z))))) :: H) (fun t => t ≤ B1.length) (fun t => B1.length - t) 0 (Nat.zero_le _) ?_ (he := by rw [← hx2]; exact Ent.refl)
    intro t ht
    refine sx ?_
    refine s_if rfl (fun t3 => ?_) (fun t3 => ?_)
    · obtain ⟨d, hd⟩ := get_lt B1 t (by omega)
      have htl : (B1.take t).length = t := by rw [List.length_take]; omega
      obtain ⟨ys, hys⟩ : ∃ ys, ys = x ++ (B1.take t ++ (e :: (B1.drop t ++ (B2 ++ z)))) := ⟨_, rfl⟩
      have hy2 : ys = (x ++ B1.take t) ++ e :: d :: (B1.drop (t + 1) ++ (B2 ++ z)) := by
        rw [hys, dropG hd]; simp only [List.append_assoc, List.cons_append]
      have hyl : ys.length = xs.length := by
        rw [hys, hx2]
        simp only [List.length_append, List.length_cons, List.length_take, List.length_drop]
        omega
      obtain ⟨k, hk⟩ : ∃ k, k = p + t := ⟨_, rfl⟩
      have hkP : k = (x ++ B1.take t).length := by rw [List.length_append, htl]; omega
      have hd1 : ys[k]? = some e := by rw [hy2, hkP]; exact get_mid _ _ _
      have he1 : ys[k + 1]? = some d := by rw [hy2, hkP]; exact get_mid1 _ _ _ _
      have hkl : k + 1 < ys.length := (List.getElem?_eq_some_iff.1 he1).1
      rw [← hys, ← hyl, ← hk]
      have hh : ∀ ys : List KV, RSl w0 (ol 31 (some ad) c ys :: H) (some ad) c ys := fun ys => RSl.hd
      apply s_joinU
      intro key
      have stp : StopAt 10 := trivial
      refine sx ?_; refine s_drH (([] : List Ck)) (.one true 0 (.one true 1 (.one true 2 (.one true 3 (.one true 4 (.one true 5 (.one true 6 (.one true 7 (.one true 8 (.one true 10 (.one true 11 (.one true 12 (.alt (.one false 9 (.one false 13 (.one true 14 (.one false 15 (.one true 16 (.one false 17 .nil)))))) (.one false 13 (.one false 9 (.one true 14 (.one false 15 (.one true 16 (.one false 17 .nil))))))))))))))))))) mixed (by kernel_rfl) ?_; refine sx ?_
      refine s_rw (t := 65) (v' := .int .i64 ((k + 1 : Nat) : Int)) rfl (ci (by omega)) ?_
      refine s_rw (t := 68) (v' := .int .i64 ((k + 1 : Nat) : Int)) rfl (ci (by omega)) ?_
      refine sx ?_
      refine s_alt ?_ ?_
      · refine s_yA rfl rfl (by exact yy) ?_ (chk_held Ent.nil)
        refine s_yA rfl rfl (by exact yy) ?_ (chk_held Ent.nil)
        refine sx1 ?_
        refine s_setA (i := k) d rfl rfl (by exact at_) rfl (by omega) ?_ (hk := chk_held Ent.nil)
        refine sx1 ?_
        refine s_setA (i := k + 1) e rfl rfl (by exact at_) rfl (by rw [List.length_set]; omega) ?_ (hk := chk_held Ent.nil)
        refine sxs ?_
        refine s_sub (l' := [(0, .slice (some ad) ys.length c), (1, .int .i64 p), (10, .int .i64 i), (13, .int .i64 (k : Nat))]) ?_ (by repeat (first | exact trivial | refine And.intro (by first | exact rfl | exact congrArg some (ci (by omega))) ?_))
        exact key.out
      · refine s_yA rfl rfl (by exact yy) ?_ (chk_held Ent.nil)
        refine s_yA rfl rfl (by exact yy) ?_ (chk_held Ent.nil)
        refine sx1 ?_
        refine s_setA (i := k) d rfl rfl (by exact at_) rfl (by omega) ?_ (hk := chk_held Ent.nil)
        refine sx1 ?_
        refine s_setA (i := k + 1) e rfl rfl (by exact at_) rfl (by rw [List.length_set]; omega) ?_ (hk := chk_held Ent.nil)
        refine sxs ?_
        refine s_sub (l' := [(0, .slice (some ad) ys.length c), (1, .int .i64 p), (10, .int .i64 i), (13, .int .i64 (k : Nat))]) ?_ (by repeat (first | exact trivial | refine And.intro (by first | exact rfl | exact congrArg some (ci (by omega))) ?_))
        exact key.out
      rw [hyl]
      refine sx ?_
      have e2 : (ys.set k d).set (k + 1) e = x ++ (B1.take (t + 1) ++ (e :: (B1.drop (t + 1) ++ (B2 ++ z)))) := by
        rw [hy2, hkP, set_sw2, snocT hd]
        simp only [List.append_assoc, List.singleton_append]
      rw [e2]
      exact s_again (t + 1) (by omega) (by omega)
    · obtain rfl : t = B1.length := by omega
      rw [List.take_of_length_le (Nat.le_refl _), List.drop_of_length_le (Nat.le_refl _)]
      refine sx ?_
      refine s_ret0 rfl ⟨rfl, _, hmrg, rfl⟩ ?_
      simp only [List.nil_append, List.append_assoc, List.singleton_append]
      exact Ent.refl
set_option maxHeartbeats 2000000 in
/-- One entry behind others. -/
theorem sym2_s {a : Option Addr} {c p m q : Nat} {x A z : List KV} {e : KV} (h : MgA w0 H p m q x A [e] z) (hA1 : A.length ≠ 1) :
    FnS Tryz.prog w0 (ol 31 a c (x ++ (A ++ ([e] ++ z))) :: H) 105 #[.slice a (x ++ (A ++ ([e] ++ z))).length c, .int .i64 p, .int .i64 m, .int .i64 q, fcA] (MgR a c x (A ++ [e]) z H) := by
  obtain ⟨xs, hxs⟩ : ∃ xs, xs = x ++ (A ++ ([e] ++ z)) := ⟨_, rfl⟩
  obtain ⟨hlen, hgA, hgB⟩ := h.at hxs
  have h1 := h.hp
  have h2 := h.hm
  have h3 := h.hq
  have h4 := h.a0
  have h5 := h.hl
  simp only [List.length_cons, List.length_nil] at h3 h5 hlen hgB
  have he : xs[m]? = some e := by have := hgB 0 (by omega); simpa using this
  have her : RBy w0 H e.ka e.kc e.k := h.hr e (by simp)
  rw [← hxs]
  refine fns_enter Tryz.func105 rfl rfl rfl ?_
  refine s_kn (φ := ∃ ad, a = some ad) (fun w hw => own_gA (c := c) (Sat.ownOf (c' := ol 31 a c xs) .hd hw) (by omega)) ?_
  rintro ⟨ad, rfl⟩
  refine sx ?_
  refine s_if rfl (fun t1 => by exfalso; omega) (fun t1 => ?_)
  refine sx ?_
  refine s_if rfl (fun t2 => ?_) (fun t2 => by exfalso; omega)
  refine sx ?_
  refine s_loop (fun i : Nat × Nat => [(0, .slice (some ad) xs.length c), (2, .int .i64 m), (4, fcA), (14, .int .i64 i.1), (15, .int .i64 i.2)]) (fun _ => ol 31 (some ad) c xs :: H) (fun i => p ≤ i.1 ∧ i.1 ≤ i.2 ∧ i.2 ≤ m ∧ (∀ y, p < i.1 → xs[i.1 - 1]? = some y → ¬ cmp e.k y.k < 0) ∧ (∀ y, i.2 < m → xs[i.2]? = some y → cmp e.k y.k < 0)) (fun i => i.2 - i.1) (p, m) ⟨Nat.le_refl _, by simp only; omega, Nat.le_refl _, fun y hy => by simp only at hy; omega, fun y hy => by simp only at hy; omega⟩ ?_
  rintro ⟨i, j⟩ ⟨g1, g2, g3, g4, g5⟩
  simp only at g1 g2 g3 g4 g5 ⊢
  refine sx ?_
  refine s_if rfl (fun t2 => ?_) (fun t2 => ?_)
  · obtain ⟨k, hk⟩ : ∃ k, k = (i + j) / 2 := ⟨_, rfl⟩
    have hkq : k < m := by omega
    obtain ⟨y, hy⟩ := get_lt xs k (by omega)
    have hyr : RBy w0 H y.ka y.kc y.k := h.hr y (List.mem_append_left _ (List.mem_of_getElem? (i := k - p) (by rw [← hgA (k - p) (by omega), show p + (k - p) = k by omega]; exact hy)))
    refine sx ?_
    refine s_rwC (t := 16) (v' := .int .i64 (k : Int)) rfl (ci (by omega)) ?_
    refine sx ?_; refine s_dr (.one true 0 (.one true 1 (.one true 2 (.one true 3 (.one true 4 (.one true 5 (.one true 6 (.one true 7 (.one true 8 (.one false 9 (.one true 10 (.one true 11 .nil)))))))))))) mixed (by kernel_rfl) ?_; refine sx ?_
    refine s_callFV (cap := []) rfl rfl (acmp_s (x := e) (y := y) her.tl hyr.tl) ?_
    refine sx ?_
    refine s_ifn rfl (fun t3 => ?_) (fun t3 => ?_)
    · refine sx ?_
      refine s_again (k + 1, j) ⟨by simp only; omega, by simp only; omega, by simp only; omega, fun y' _ hy' => ?_, g5⟩ (by simp only; omega)
      simp only [Nat.add_sub_cancel] at hy'
      rw [hy] at hy'; cases hy'; exact t3
    · refine sx ?_
      refine s_again (i, k) ⟨by simp only; omega, by simp only; omega, by simp only; omega, g4, fun y' _ hy' => ?_⟩ (by simp only; omega)
      rw [hy] at hy'; cases hy'; exact t3
  · obtain rfl : i = j := by omega
    have ha1 : (A.take (i - p)).length = i - p := by rw [List.length_take]; omega
    have ha2 : (A.drop (i - p)).length = m - i := by rw [List.length_drop]; omega
    have hhi : ∀ a ∈ A.drop (i - p), cmp e.k a.k < 0 := fun a ha => by
      have := lt_of_ends (A := A) (B := [e]) (p := i - p) (q := 1) h.aA (Asc.one e) (fun a b ha _ hb => by
        simp only [Nat.sub_self, List.getElem?_cons_zero, Option.some.injEq] at hb
        have hal := (List.getElem?_eq_some_iff.1 ha).1
        rw [← hgA (i - p) (by omega), show p + (i - p) = i by omega] at ha
        rw [← hb]; exact g5 a (by omega) ha) (by simp)
      exact this e (by simp) a ha
    have hlo : ∀ a ∈ A.take (i - p), cmp a.k e.k ≤ 0 := fun a ha => by
      have := le_of_ends (A := A) (B := [e]) (p := i - p) (q := 0) h.aA (Asc.one e) (fun a b h0 ha hb => by
        simp only [List.getElem?_cons_zero, Option.some.injEq] at hb
        rw [← hgA (i - p - 1) (by omega), show p + (i - p - 1) = i - 1 by omega] at ha
        rw [← hb]; exact nlt (g4 a (by omega) ha)) (by omega)
      exact this a ha e (by simp)
    have hmrg : Mrg (A ++ [e]) (A.take (i - p) ++ ([e] ++ A.drop (i - p))) := by
      have hA := List.take_append_drop (i - p) A
      have := Mrg.ins (u := A) (s1 := A.take (i - p)) (s2 := A.drop (i - p)) (e := e) (by rw [hA]; exact Mrg.refl h.aA) hlo hhi
      exact this
    generalize hB1 : A.take (i - p) = A1 at ha1 hmrg
    generalize hB2 : A.drop (i - p) = A2 at ha2 hmrg
    have hBB : A = A1 ++ A2 := by rw [← hB1, ← hB2, List.take_append_drop]
    have hx2 : xs = x ++ (A1 ++ (A2.take A2.length ++ (e :: (A2.drop A2.length ++ z)))) := by
      rw [hxs, hBB, List.take_of_length_le (Nat.le_refl _), List.drop_of_length_le (Nat.le_refl _)]; simp only [List.nil_append, List.append_assoc, List.cons_append]
    clear hgA hgB he hB1 hB2
    refine sx ?_
    refine s_loop (fun t : Nat => [(0, .slice (some ad) xs.length c), (14, .int .i64 i), (17, .int .i64 ((i + t : Nat) : Int))]) (fun t => ol 31 (some ad) c (x ++ (A1 ++ (A2.take t ++ (e :: (A2.drop t ++ z))))) :: H) (fun t => t ≤ A2.length) (fun t => t) A2.length (Nat.le_refl _) ?_ (he := by rw [← hx2]; exact Ent.refl)
    intro t ht
    refine sx ?_
    refine s_if rfl (fun t3 => ?_) (fun t3 => ?_)
    · obtain ⟨t, rfl⟩ : ∃ t', t = t' + 1 := ⟨t - 1, by omega⟩
      obtain ⟨d, hd⟩ := get_lt A2 t (by omega)
      have htl : (A2.take t).length = t := by rw [List.length_take]; omega
      obtain ⟨ys, hys⟩ : ∃ ys, ys = x ++ (A1 ++ (A2.take (t + 1) ++ (e :: (A2.drop (t + 1) ++ z)))) := ⟨_, rfl⟩
      have hy2 : ys = (x ++ (A1 ++ A2.take t)) ++ d :: e :: (A2.drop (t + 1) ++ z) := by
        rw [hys, snocT hd]; simp only [List.append_assoc, List.singleton_append]
      have hyl : ys.length = xs.length := by
        rw [hys, hx2]
        simp only [List.length_append, List.length_cons, List.length_take, List.length_drop]
        omega
      obtain ⟨k, hk⟩ : ∃ k, k = i + t := ⟨_, rfl⟩
      have hkP : k = (x ++ (A1 ++ A2.take t)).length := by rw [List.length_append, List.length_append, htl]; omega
      have hd1 : ys[k]? = some d := by rw [hy2, hkP]; exact get_mid _ _ _
      have he1 : ys[k + 1]? = some e := by rw [hy2, hkP]; exact get_mid1 _ _ _ _
      have hkl : k + 1 < ys.length := (List.getElem?_eq_some_iff.1 he1).1
      rw [← hys, ← hyl, show i + (t + 1) = k + 1 by omega]
      have hh : ∀ ys : List KV, RSl w0 (ol 31 (some ad) c ys :: H) (some ad) c ys := fun ys => RSl.hd
      apply s_joinU
      intro key
      have stp : StopAt 22 := trivial
      refine sx ?_; refine s_drH (([] : List Ck)) (.one true 0 (.one true 1 (.one true 2 (.one true 3 (.one true 4 (.one true 5 (.one true 6 (.one true 7 (.one true 8 (.one true 10 (.one true 11 (.one true 12 (.alt (.one false 9 (.one false 13 (.one true 14 (.one false 15 (.one true 16 (.one false 17 .nil)))))) (.one false 13 (.one false 9 (.one true 14 (.one false 15 (.one true 16 (.one false 17 .nil))))))))))))))))))) mixed (by kernel_rfl) ?_; refine sx ?_
      refine s_rw (t := 117) (v' := .int .i64 (k : Int)) rfl (ci (by omega)) ?_
      refine s_rw (t := 120) (v' := .int .i64 (k : Int)) rfl (ci (by omega)) ?_
      refine sx ?_
      refine s_alt ?_ ?_
      · refine s_yA rfl rfl (by exact yy) ?_ (chk_held Ent.nil)
        refine s_yA rfl rfl (by exact yy) ?_ (chk_held Ent.nil)
        refine sx1 ?_
        refine s_setA (i := k + 1) d rfl rfl (by exact at_) rfl (by omega) ?_ (hk := chk_held Ent.nil)
        refine sx1 ?_
        refine s_setA (i := k) e rfl rfl (by exact at_) rfl (by rw [List.length_set]; omega) ?_ (hk := chk_held Ent.nil)
        refine sxs ?_
        refine s_sub (l' := [(0, .slice (some ad) ys.length c), (14, .int .i64 i), (17, .int .i64 ((k + 1 : Nat) : Int))]) ?_ (by repeat (first | exact trivial | refine And.intro (by first | exact rfl | exact congrArg some (ci (by omega))) ?_))
        exact key.out
      · refine s_yA rfl rfl (by exact yy) ?_ (chk_held Ent.nil)
        refine s_yA rfl rfl (by exact yy) ?_ (chk_held Ent.nil)
        refine sx1 ?_
        refine s_setA (i := k + 1) d rfl rfl (by exact at_) rfl (by omega) ?_ (hk := chk_held Ent.nil)
        refine sx1 ?_
        refine s_setA (i := k) e rfl rfl (by exact at_) rfl (by rw [List.length_set]; omega) ?_ (hk := chk_held Ent.nil)
        refine sxs ?_
        refine s_sub (l' := [(0, .slice (some ad) ys.length c), (14, .int .i64 i), (17, .int .i64 ((k + 1 : Nat) : Int))]) ?_ (by repeat (first | exact trivial | refine And.intro (by first | exact rfl | exact congrArg some (ci (by omega))) ?_))
        exact key.out
      rw [hyl]
      refine sx ?_
      have e2 : (ys.set (k + 1) d).set k e = x ++ (A1 ++ (A2.take t ++ (e :: (A2.drop t ++ z)))) := by
        rw [hy2, hkP, set_sw, dropG hd]
        simp only [List.append_assoc, List.cons_append]
      rw [e2]
      exact s_again t (by omega) (by omega)
    · obtain rfl : t = 0 := by omega
      refine sx ?_
      refine s_ret0 rfl ⟨rfl, _, hmrg, rfl⟩ ?_
      simp only [List.take_zero, List.drop_zero, List.nil_append, List.append_assoc, List.singleton_append]
      exact Ent.refl
end Go.Sx

