/- Part of a proof: insertion sort of entries, walked. -/
import Derived.Test.YtimakbpghggdfaaGreatCZB
namespace Go.Sx
open Go Go.Proofs
set_option maxRecDepth 10000
variable {w0 : World} {H : List Ck}
structure InI where
  u : List KV
  s : List KV
  t : List KV
set_option maxHeartbeats 2000000 in
theorem insS_s {a : Option Addr} {c p q : Nat} {x seg z : List KV} (hp : p = x.length) (hq : q = x.length + seg.length) (hr : ∀ e ∈ seg, RBy w0 H e.ka e.kc e.k) (hl : (x ++ (seg ++ z)).length ≤ 1099511627776) :
    FnS Tryz.prog w0 (ol 31 a c (x ++ (seg ++ z)) :: H) 104 #[.slice a (x ++ (seg ++ z)).length c, .int .i64 p, .int .i64 q, fcA] (fun v H' => v = .tuple #[] ∧ ∃ s, Mrg seg s ∧ H' = ol 31 a c (x ++ (s ++ z)) :: H) := by
  have hxl : (x ++ (seg ++ z)).length = x.length + seg.length + z.length := by simp only [List.length_append]; omega
  rw [hxl] at hl ⊢
  refine fns_enter Tryz.func104 rfl rfl rfl ?_
  refine sx ?_
  rcases seg with _ | ⟨e0, seg⟩
  · simp only [List.length_nil] at hq
    refine s_loop (fun _ : Unit => [(2, .int .i64 q), (8, .int .i64 ((p : Int) + 1))]) (fun _ => ol 31 a c (x ++ ([] ++ z)) :: H) (fun _ => True) (fun _ => 0) () trivial ?_
    intro _ _
    refine sx ?_
    refine s_if rfl (fun t1 => by exfalso; omega) (fun t1 => ?_)
    refine sx ?_
    exact s_end0 rfl ⟨rfl, [], Mrg.refl Asc.nil, rfl⟩
  simp only [List.length_cons] at hq hl ⊢
  refine s_loop (fun m : InI => [(0, .slice a (x.length + (seg.length + 1) + z.length) c), (1, .int .i64 p), (2, .int .i64 q), (3, fcA), (8, .int .i64 ((x.length + m.s.length : Nat) : Int))]) (fun m => ol 31 a c (x ++ (m.s ++ (m.t ++ z))) :: H) (fun m => m.u ++ m.t = e0 :: seg ∧ Mrg m.u m.s ∧ 0 < m.s.length) (fun m => m.t.length) ⟨[e0], [e0], seg⟩ ⟨rfl, Mrg.refl (Asc.one _), by simp⟩ ?_ (h0 := by simp only [List.length_cons, List.length_nil]; repeat (first | exact trivial | refine And.intro (by first | exact rfl | exact congrArg some (ci (by omega))) ?_))
  rintro ⟨u, s, t⟩ ⟨h1, h2, h3⟩
  simp only at h1 h2 h3 ⊢
  have h4 : s.length + t.length = seg.length + 1 := by
    have := congrArg List.length h1
    have := h2.st.len
    simp only [List.length_append, List.length_cons] at *
    omega
  refine sx ?_
  refine s_if rfl (fun t1 => ?_) (fun t1 => ?_)
  · obtain ⟨e, t, rfl⟩ : ∃ e t', t = e :: t' := by
      cases t with
      | nil => simp only [List.length_nil] at h4; exfalso; omega
      | cons e t => exact ⟨e, t, rfl⟩
    have her : RBy w0 H e.ka e.kc e.k := hr e (by rw [← h1]; simp)
    have hsr : ∀ y ∈ s, RBy w0 H y.ka y.kc y.k := fun y hy => hr y (by rw [← h1]; exact List.mem_append_left _ (h2.st.perm.mem_iff.2 hy))
    simp only [List.length_cons] at h4
    refine sx ?_
    refine s_loop (fun m : List KV × List KV => [(0, .slice a (x.length + (seg.length + 1) + z.length) c), (1, .int .i64 p), (2, .int .i64 q), (3, fcA), (8, .int .i64 ((x.length + s.length : Nat) : Int)), (9, .int .i64 ((x.length + m.1.length : Nat) : Int))]) (fun m => ol 31 a c (x ++ (m.1 ++ (e :: (m.2 ++ (t ++ z))))) :: H) (fun m => m.1 ++ m.2 = s ∧ ∀ y ∈ m.2, cmp e.k y.k < 0) (fun m => m.1.length) (s, []) ⟨by simp, fun y h => by cases h⟩ ?_ (he := by simp only [List.nil_append, List.cons_append]; exact Ent.refl)
    rintro ⟨s1, s2⟩ ⟨g1, g2⟩
    simp only at g1 g2 ⊢
    have g3 : s1.length + s2.length = s.length := by rw [← g1, List.length_append]
    by_cases hs1 : s1 = []
    · subst hs1
      refine sx ?_; refine s_dr (.one true 0 (.one true 1 (.one true 2 (.one true 3 (.one true 4 (.one true 5 (.one true 6 (.one true 7 (.one true 8 (.one true 9 (.one true 10 (.one true 11 (.one true 12 (.one true 13 (.one false 14 (.one true 15 (.one true 16 .nil))))))))))))))))) mixed (by kernel_rfl) ?_; refine sx ?_
      refine s_lif rfl (fun t2 => by exfalso; simp only [List.length_nil] at t2; omega) (fun t2 => ?_)
      refine sx ?_
      refine s_again ⟨u ++ [e], e :: s2, t⟩ ⟨by simp only [List.append_assoc, List.singleton_append]; exact h1, Mrg.ins (s1 := []) (by rw [g1]; exact h2) (fun y h => by cases h) g2, by simp⟩ (by simp only [List.length_cons]; omega) (hs := by simp only [List.length_cons]; simp only [List.length_nil] at g3; repeat (first | exact trivial | refine And.intro (by first | exact rfl | exact congrArg some (ci (by omega))) ?_)) (he := by simp only [List.nil_append, List.cons_append]; exact Ent.refl)
    · obtain ⟨s1, d, rfl⟩ : ∃ l d, s1 = l ++ [d] := ⟨s1.dropLast, s1.getLast hs1, (List.dropLast_concat_getLast _).symm⟩
      clear hs1
      have hdr : RBy w0 H d.ka d.kc d.k := hsr d (by rw [← g1]; simp)
      obtain ⟨xs, hxs⟩ : ∃ xs, xs = x ++ ((s1 ++ [d]) ++ (e :: (s2 ++ (t ++ z)))) := ⟨_, rfl⟩
      have hx2 : xs = (x ++ s1) ++ d :: e :: (s2 ++ (t ++ z)) := by rw [hxs]; simp only [List.append_assoc, List.singleton_append]
      rw [← hxs]
      have hlen : xs.length = x.length + (seg.length + 1) + z.length := by
        rw [hx2]; simp only [List.length_append, List.length_cons, List.length_nil] at *; omega
      simp only [List.length_append, List.length_cons, List.length_nil] at g3
      obtain ⟨j, hj⟩ : ∃ j, j = x.length + s1.length := ⟨_, rfl⟩
      have hd1 : xs[j]? = some d := by rw [hx2, hj, ← List.length_append]; exact get_mid _ _ _
      have he1 : xs[j + 1]? = some e := by rw [hx2, hj, ← List.length_append]; exact get_mid1 _ _ _ _
      have hd2 : xs[j + 1 - 1]? = some d := hd1
      have hjl : j + 1 < xs.length := by omega
      rw [← hlen]
      refine s_rwC (t := 9) (v' := .int .i64 ((j + 1 : Nat) : Int)) rfl (ci (by simp only [List.length_append, List.length_cons, List.length_nil]; omega)) ?_
      refine s_kn (φ := ∃ ad, a = some ad) (fun w hw => own_gA (c := c) (Sat.ownOf (c' := ol 31 a c xs) .hd hw) (by omega)) ?_
      rintro ⟨ad, rfl⟩
      refine sx ?_; refine s_dr (.one true 0 (.one true 1 (.one true 2 (.one true 3 (.one true 4 (.one true 5 (.one true 6 (.one true 7 (.one true 8 (.one true 9 (.one true 10 (.one true 11 (.one true 12 (.one true 13 (.one false 14 (.one true 15 (.one true 16 .nil))))))))))))))))) mixed (by kernel_rfl) ?_; refine sx ?_
      refine s_lif rfl (fun t5 => ?_) (fun t5 => by exfalso; omega)
      refine sx ?_
      refine s_callFV (cap := []) rfl rfl (acmp_s (x := e) (y := d) her.tl hdr.tl) ?_
      refine sx ?_
      refine s_if rfl (fun t2 => ?_) (fun t2 => ?_)
      · have hh : ∀ ys : List KV, RSl w0 (ol 31 (some ad) c ys :: H) (some ad) c ys := fun ys => RSl.hd
        apply s_joinU
        intro key
        have stp : StopAt 5 := trivial
        refine sx ?_; refine s_drH (([] : List Ck)) (.one true 0 (.one true 1 (.one true 2 (.one true 3 (.one true 4 (.one true 5 (.one true 6 (.one true 7 (.one true 8 (.one true 10 (.one true 11 (.one true 12 (.alt (.one false 9 (.one false 13 (.one true 14 (.one false 15 (.one true 16 (.one false 17 .nil)))))) (.one false 13 (.one false 9 (.one true 14 (.one false 15 (.one true 16 (.one false 17 .nil))))))))))))))))))) mixed (by kernel_rfl) ?_; refine sx ?_
        refine s_rw (t := 41) (v' := .int .i64 (j : Int)) rfl (ci (by omega)) ?_
        refine s_rw (t := 44) (v' := .int .i64 (j : Int)) rfl (ci (by omega)) ?_
        refine sx ?_
        refine s_alt ?_ ?_
        · refine s_yA rfl rfl (by exact yy) ?_ (chk_held Ent.nil)
          refine s_yA rfl rfl (by exact yy) ?_ (chk_held Ent.nil)
          refine sx1 ?_
          refine s_setA (i := j + 1) d rfl rfl (by exact at_) rfl (by omega) ?_ (hk := chk_held Ent.nil)
          refine sx1 ?_
          refine s_setA (i := j) e rfl rfl (by exact at_) rfl (by rw [List.length_set]; omega) ?_ (hk := chk_held Ent.nil)
          refine sxs ?_
          refine s_sub (l' := [(0, .slice (some ad) xs.length c), (1, .int .i64 p), (2, .int .i64 q), (3, fcA), (8, .int .i64 ((x.length + s.length : Nat) : Int)), (9, .int .i64 ((j + 1 : Nat) : Int))]) ?_ (by repeat (first | exact trivial | refine And.intro (by first | exact rfl | exact congrArg some (ci (by omega))) ?_))
          exact key.out
        · refine s_yA rfl rfl (by exact yy) ?_ (chk_held Ent.nil)
          refine s_yA rfl rfl (by exact yy) ?_ (chk_held Ent.nil)
          refine sx1 ?_
          refine s_setA (i := j + 1) d rfl rfl (by exact at_) rfl (by omega) ?_ (hk := chk_held Ent.nil)
          refine sx1 ?_
          refine s_setA (i := j) e rfl rfl (by exact at_) rfl (by rw [List.length_set]; omega) ?_ (hk := chk_held Ent.nil)
          refine sxs ?_
          refine s_sub (l' := [(0, .slice (some ad) xs.length c), (1, .int .i64 p), (2, .int .i64 q), (3, fcA), (8, .int .i64 ((x.length + s.length : Nat) : Int)), (9, .int .i64 ((j + 1 : Nat) : Int))]) ?_ (by repeat (first | exact trivial | refine And.intro (by first | exact rfl | exact congrArg some (ci (by omega))) ?_))
          exact key.out
        rw [hlen]
        refine sx ?_
        have e2 : (xs.set (j + 1) d).set j e = x ++ (s1 ++ (e :: ((d :: s2) ++ (t ++ z)))) := by
          rw [hx2, hj, ← List.length_append, set_sw]
          simp only [List.append_assoc, List.cons_append]
        rw [e2]
        refine s_again (s1, d :: s2) ⟨by rw [← g1]; simp, fun y hy => ?_⟩ (by simp only [List.length_append, List.length_cons]; omega) (hs := by simp only; repeat (first | exact trivial | refine And.intro (by first | exact rfl | exact congrArg some (ci (by omega))) ?_))
        rcases List.mem_cons.1 hy with rfl | hy
        · exact t2
        · exact g2 y hy
      · rw [hlen]
        refine sx ?_
        refine s_again ⟨u ++ [e], (s1 ++ [d]) ++ e :: s2, t⟩ ⟨by simp only [List.append_assoc, List.singleton_append]; exact h1, Mrg.ins (by rw [g1]; exact h2) (fun y hy => ?_) g2, by simp only [List.length_append, List.length_cons]; omega⟩ (by simp only [List.length_cons]; omega) (hs := by simp only [List.length_append, List.length_cons, List.length_nil]; repeat (first | exact trivial | refine And.intro (by first | exact rfl | exact congrArg some (ci (by omega))) ?_)) (he := by rw [hxs]; simp only [List.append_assoc, List.cons_append]; exact Ent.refl)
        have hup := h2.up
        rw [← g1] at hup
        have h5 := (asc_app.1 hup).1
        have h6 : cmp d.k e.k ≤ 0 := nlt t2
        rcases List.mem_append.1 hy with hy | hy
        · exact le_tr ((asc_app.1 h5).2.2 y hy d (by simp)) h6
        · rw [List.mem_singleton.1 hy]; exact h6
  · obtain rfl : t = [] := by
      cases t with
      | nil => rfl
      | cons e t => simp only [List.length_cons] at h4; exfalso; omega
    rw [List.append_nil] at h1
    subst h1
    refine sx ?_
    exact s_end0 rfl ⟨rfl, s, h2, rfl⟩
end Go.Sx
