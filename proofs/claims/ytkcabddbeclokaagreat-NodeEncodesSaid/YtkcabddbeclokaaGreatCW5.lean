/- The book's end, walked. -/
import Derived.Test.YtkcabddbeclokaaGreatCW6
import Derived.Test.YtkcabddbeclokaaGreatCW7
namespace Go.Sx
open Go Go.Proofs
set_option maxRecDepth 10000
variable {w0 : World} {H : List Ck}
set_option maxHeartbeats 4000000 in
theorem nends_s {B : NB} {n : Nat} (hB : B.Ok n) (hn : n ≤ 1099511627776) :
    FnS Tryz.prog w0 (B.ck :: H) 10 #[.pointer (some ⟨B.k, 0, none⟩)] (fun v H' => v = .bool true ∧ H' = H) := by
  obtain ⟨K, la, lc, ls, wa, wc, ws, ia, ic, is, ka, kc, ks, ma, mc, ms⟩ := B
  have hlen := hB.len
  have hwlen := hB.wlen
  have hsmall := hB.small
  have hsame := hB.same
  simp only at hlen hwlen hsmall hsame
  refine fns_enter Tryz.func10 rfl rfl rfl ?_
  obtain ⟨H0, hH0⟩ : ∃ H0, H0 = H := ⟨_, rfl⟩
  rw [← hH0]
  obtain ⟨G, hG⟩ : ∃ G, G = Ck.star [ol 22 ia ic is, ol 23 ka kc ks, ol 26 ma mc ms, fam 3 is, fam 44 ks, fam 56 ms] :: H0 := ⟨_, rfl⟩
  refine s_ent (.hb K 36 [.slice la ls.length lc, .slice wa ws.length wc, .slice ia is.length ic, .slice ka ks.length kc, .slice ma ms.length mc] :: ol 44 la lc ls :: ol 44 wa wc ws :: fam 5 ls :: fam 5 ws :: G) (by rw [hG]; exact NB.open) ?_
  refine sx ?_
  refine s_loop (fun i : Nat => [(0, .pointer (some ⟨K, 0, none⟩)), (3, .int .i64 i)]) (fun _ => .hb K 36 [.slice la ls.length lc, .slice wa ws.length wc, .slice ia is.length ic, .slice ka ks.length kc, .slice ma ms.length mc] :: ol 44 la lc ls :: ol 44 wa wc ws :: fam 5 ls :: fam 5 ws :: G)
    (fun i => i ≤ ls.length) (fun i => ls.length - i) 0 (Nat.zero_le _) ?_
  intro i hi
  refine sx ?_
  refine s_if rfl (fun t1 => ?_) (fun t1 => ?_)
  · obtain ⟨s, hs⟩ := get_lt ls i (by omega)
    obtain ⟨t, ht⟩ := get_lt ws i (by omega)
    have hst : s.xs = t.xs := by
      have h1 := congrArg (fun l => l[i]?) hsame
      simpa [hs, ht] using h1
    have r1 : RBy w0 (.hb K 36 [.slice la ls.length lc, .slice wa ws.length wc, .slice ia is.length ic, .slice ka ks.length kc, .slice ma ms.length mc] :: ol 44 la lc ls :: ol 44 wa wc ws :: fam 5 ls :: fam 5 ws :: G) s.a s.c s.xs := RBy.tl (RBy.tl (RBy.tl (fam_by (List.mem_of_getElem? hs))))
    have r2 : RBy w0 (.hb K 36 [.slice la ls.length lc, .slice wa ws.length wc, .slice ia is.length ic, .slice ka ks.length kc, .slice ma ms.length mc] :: ol 44 la lc ls :: ol 44 wa wc ws :: fam 5 ls :: fam 5 ws :: G) t.a t.c t.xs := RBy.tl (RBy.tl (RBy.tl (RBy.tl (fam_by (List.mem_of_getElem? ht)))))
    refine sx ?_; refine s_dr (.one true 0 (.one true 1 (.one true 2 (.one true 3 (.one true 4 (.one true 5 (.one true 6 (.one true 7 (.one true 8 (.one true 9 (.one true 10 (.one true 11 (.one true 12 (.one true 13 (.one true 14 (.one true 15 (.one true 16 .nil))))))))))))))))) mixed (by kernel_rfl) ?_; refine sx ?_
    refine s_ifn rfl (fun t2 => absurd hst t2) (fun _ => ?_)
    refine sx ?_
    exact s_again (i + 1) (by omega) (by omega)
  clear hi t1
  refine sx ?_
  refine s_loop (fun i : Nat => [(0, .pointer (some ⟨K, 0, none⟩)), (4, .int .i64 i)]) (fun i => .hb K 36 [.slice la ls.length lc, .slice wa ws.length wc, .slice ia is.length ic, .slice ka ks.length kc, .slice ma ms.length mc] :: ol 44 la lc ls :: fam 5 ((mks ls).take i) :: fam 5 (ls.drop i) :: G)
    (fun i => i ≤ ls.length) (fun i => ls.length - i) 0 (Nat.zero_le _) ?_ (he := by
      refine Ent.cons (by exact rm) ?_
      refine Ent.cons (by exact rm) ?_
      exact fam_nil.trans (Ent.head ent))
  intro i hi
  refine sx ?_
  refine s_if rfl (fun t1 => ?_) (fun t1 => ?_)
  · obtain ⟨⟨sa, sc, sx0⟩, hs⟩ := get_lt ls i (by omega)
    have hsz := hsmall _ (List.mem_of_getElem? hs)
    have hmi := mks_get hs
    simp only at hsz
    refine s_ent (ob sa sc sx0 :: .hb K 36 [.slice la ls.length lc, .slice wa ws.length wc, .slice ia is.length ic, .slice ka ks.length kc, .slice ma ms.length mc] :: ol 44 la lc ls :: fam 5 ((mks ls).take i) :: fam 5 (ls.drop (i + 1)) :: G) (by
      rw [drop_get hs]
      exact (Ent.famC (by exact rm)).trans (by exact ent)) ?_
    refine sx ?_
    refine s_loop (fun (j : Nat × Bs) => [(0, .pointer (some ⟨K, 0, none⟩)), (4, .int .i64 i), (5, .int .i64 j.1)]) (fun j => ob sa sc j.2 :: .hb K 36 [.slice la ls.length lc, .slice wa ws.length wc, .slice ia is.length ic, .slice ka ks.length kc, .slice ma ms.length mc] :: ol 44 la lc ls :: fam 5 ((mks ls).take i) :: fam 5 (ls.drop (i + 1)) :: G)
      (fun j => j.1 ≤ sx0.length ∧ j.2.length = sx0.length ∧ ∀ x, x < j.1 → j.2[x]? = some (markL i)) (fun j => sx0.length - j.1) (0, sx0) ⟨Nat.zero_le _, rfl, fun x h => by omega⟩ ?_
    rintro ⟨j, ys⟩ ⟨hj, hyl, hys⟩
    simp only at hj hyl hys ⊢
    refine sx ?_
    refine s_if rfl (fun t2 => ?_) (fun t2 => ?_)
    · have t2 : (j : Int) < (sx0.length : Int) := t2
      refine s_kn (φ := ∃ ad, sa = some ad) (fun w hw => own_gA (Sat.ownOf (c' := ob sa sc ys) .hd hw) (by omega)) ?_
      rintro ⟨ad, rfl⟩
      refine sx ?_; refine s_drR (ob (some ad) sc ys) (by exact rm) (.one true 0 (.one true 1 (.one true 2 (.one true 3 (.one true 4 (.one true 5 (.one true 6 (.one true 7 (.one true 8 (.one false 9 (.one true 10 (.one false 11 .nil)))))))))))) mixed (by kernel_rfl) ?_; refine sx ?_
      refine s_callV rfl (mark_s (i := i) (by omega)) ?_
      refine sx ?_
      refine s_set1 (i := j) (y := markL i) rfl rfl (by exact at_) rfl (by omega) ?_
      refine sx ?_
      refine s_again (j + 1, ys.set j (markL i)) ⟨by simp only; omega, by simp only [List.length_set]; exact hyl, fun x hx => ?_⟩ (by simp only; omega)
      simp only at hx ⊢
      by_cases h : x = j
      · subst h
        rw [List.getElem?_set_self (by omega)]
      · rw [List.getElem?_set_ne (by omega)]
        exact hys x (by omega)
    · have t2 : ¬ (j : Int) < (sx0.length : Int) := t2
      have hye := rep_all hyl (fun x hx => hys x (by omega))
      subst hye
      refine sx ?_
      refine s_again (i + 1) (by omega) (by omega) (he := ?_)
      rw [take_snoc' hmi]
      refine Ent.cons (by exact rm) ?_
      refine Ent.cons (by exact rm) ?_
      refine Ent.famS (by exact rm) (by exact rm) ?_
      exact ent
  obtain rfl : i = ls.length := by omega
  rw [List.take_of_length_le (by rw [mks_len]; exact Nat.le_refl _)]
  refine sx ?_
  refine s_loop (fun (i : Nat × Option Addr × Nat × List SB × List SB) => [(0, .pointer (some ⟨K, 0, none⟩)), (6, .slice i.2.1 i.2.2.2.1.length i.2.2.1), (7, .int .i64 i.1)])
    (fun i => .hb K 36 [.slice la ls.length lc, .slice wa ws.length wc, .slice ia is.length ic, .slice ka ks.length kc, .slice ma ms.length mc] :: ol 44 la lc ls :: ol 44 i.2.1 i.2.2.1 i.2.2.2.1 :: fam 5 i.2.2.2.2 :: fam 5 ((mks ls).drop i.1) :: G)
    (fun i => i.1 ≤ ls.length ∧ i.2.2.2.1.length = 2 * i.1 ∧ (∀ j s, j < i.1 → ls[j]? = some s → Vw (· = markL j) i.2.2.2.2 s.a s.c s.xs.length) ∧ (∀ j v, i.2.2.2.1[j]? = some v → Vw (· = markL (j / 2)) i.2.2.2.2 v.a v.c v.xs.length))
    (fun i => ls.length - i.1) (0, none, 0, [], []) ⟨Nat.zero_le _, rfl, fun j s h => by omega, fun j v h => by simp at h⟩ ?_ (he := by
      refine Ent.cons (by exact rm) ?_
      refine Ent.cons (by exact rm) ?_
      refine Ent.trans ?_ Ent.nilS
      refine Ent.trans ?_ fam_nil
      exact ent)
  rintro ⟨i, ga, gc, vs, dn⟩ ⟨hi, hvl, hb1, hv1⟩
  simp only at hi hvl hb1 hv1 ⊢
  refine sx ?_
  refine s_if rfl (fun t2 => ?_) (fun t2 => ?_)
  · obtain ⟨⟨sa, sc, sx0⟩, hs⟩ := get_lt ls i (by omega)
    have hsz := hsmall _ (List.mem_of_getElem? hs)
    have hmi := mks_get hs
    simp only at hsz
    refine s_ent (ob sa sc (List.replicate sx0.length (markL i)) :: fam 5 ([] : List SB) :: .hb K 36 [.slice la ls.length lc, .slice wa ws.length wc, .slice ia is.length ic, .slice ka ks.length kc, .slice ma ms.length mc] :: ol 44 la lc ls :: ol 44 ga gc vs :: fam 5 dn :: fam 5 ((mks ls).drop (i + 1)) :: G) (by
      rw [drop_get hmi]
      refine (Ent.famC (by exact rm)).trans ?_
      refine Ent.cons (by exact rm) ?_
      exact Ent.trans (by exact ent) fam_nil) ?_
    refine sx ?_
    refine s_loop (fun (j : Nat × SB × List SB × Bs) => [(0, .pointer (some ⟨K, 0, none⟩)), (6, .slice ga vs.length gc), (7, .int .i64 i), (8, .slice j.2.1.a j.2.2.2.length j.2.1.c), (9, .int .i64 j.1)])
      (fun j => ob j.2.1.a j.2.1.c j.2.1.xs :: fam 5 j.2.2.1 :: .hb K 36 [.slice la ls.length lc, .slice wa ws.length wc, .slice ia is.length ic, .slice ka ks.length kc, .slice ma ms.length mc] :: ol 44 la lc ls :: ol 44 ga gc vs :: fam 5 dn :: fam 5 ((mks ls).drop (i + 1)) :: G)
      (fun j => j.1 ≤ 20 ∧ j.2.2.2.length = sx0.length + j.1 ∧ j.2.2.2.length ≤ j.2.1.xs.length ∧ (∀ y ∈ j.2.1.xs, y = markL i) ∧ Vw (· = markL i) (j.2.1 :: j.2.2.1) sa sc sx0.length) (fun j => 20 - j.1)
      (0, ⟨sa, sc, List.replicate sx0.length (markL i)⟩, [], sx0) ⟨Nat.zero_le _, rfl, by simp, fun y hy => List.eq_of_mem_replicate hy, ⟨_, List.mem_cons_self .., rfl, rfl, by simp [Row.xs], fun y hy => List.eq_of_mem_replicate hy⟩⟩ ?_
    rintro ⟨k, x, tl, nv⟩ ⟨hk, hnl, hnx, hxm, hbv⟩
    simp only at hk hnl hnx hxm hbv ⊢
    refine sx ?_
    refine s_if rfl (fun t3 => ?_) (fun t3 => ?_)
    · refine sx ?_
      refine s_callV rfl (mark_s (i := i) (by omega)) ?_
      refine s_bsl [markL i] rfl rfl fun b9 => ?_
      refine s_appP (xs := x.xs) (p := nv.length) (ys := [markL i]) ?_ ?_
      · intro hc
        have hpl := putL_len (ys := [markL i]) hnx
        refine sx ?_
        refine s_again (k + 1, ⟨x.a, x.c, putL x.xs nv.length [markL i]⟩, tl, markL i :: nv) ⟨by simp only; omega, by simp only [List.length_cons]; omega, by simp only [List.length_cons]; rw [hpl]; simp only [List.length_cons, List.length_nil]; omega, putM hxm, ?_⟩ (by simp only; omega)
        exact hbv.put rfl rfl (by simp only [Row.xs]; omega) (putM hxm)
      · intro a' c'
        refine sx ?_
        refine s_again (k + 1, ⟨a', c', x.xs.take nv.length ++ [markL i]⟩, x :: tl, markL i :: nv) ⟨by simp only; omega, by simp only [List.length_cons]; omega, by simp only [List.length_cons, List.length_append, List.length_take, List.length_nil]; omega, tkM hxm, ?_⟩ (by simp only; omega) (he := ?_)
        · exact hbv.mono (fun s h => List.mem_cons_of_mem _ h) (fun _ h => h)
        · refine Ent.cons (by exact rm) ?_
          refine Ent.famK (by exact rm) (by exact rm) ?_
          exact ent
    · obtain ⟨b, hbm, rfl, rfl, hbl, hball⟩ := hbv
      obtain ⟨q, hq⟩ := List.mem_iff_getElem?.1 hbm
      have hpm := perm_erase hq
      have hgv : Vw (· = markL i) (b :: (x :: tl).eraseIdx q) x.a x.c nv.length := ⟨x, (hpm.mem_iff (a := x)).1 (List.mem_cons_self ..), rfl, rfl, hnx, hxm⟩
      generalize (x :: tl).eraseIdx q = tl2 at hpm hgv
      refine s_ent (ob b.a b.c b.xs :: fam 5 tl2 :: .hb K 36 [.slice la ls.length lc, .slice wa ws.length wc, .slice ia is.length ic, .slice ka ks.length kc, .slice ma ms.length mc] :: ol 44 la lc ls :: ol 44 ga gc vs :: fam 5 dn :: fam 5 ((mks ls).drop (i + 1)) :: G) (by
        refine Ent.trans (H' := ob x.a x.c x.xs :: fam 5 tl :: _) (by exact Ent.refl) ?_
        exact (fam_cons' (s := x)).trans ((fam_perm hpm).trans fam_cons)) ?_
      have hs' : ls[i]? = some ⟨b.a, b.c, sx0⟩ := hs
      clear hs
      refine sx ?_
      refine s_loop (fun (j : Nat × SB × List SB × Bs) => [(0, .pointer (some ⟨K, 0, none⟩)), (6, .slice ga vs.length gc), (7, .int .i64 i), (8, .slice x.a nv.length x.c), (10, .slice j.2.1.a j.2.2.2.length j.2.1.c), (11, .int .i64 j.1)])
        (fun j => ob j.2.1.a j.2.1.c j.2.1.xs :: fam 5 j.2.2.1 :: .hb K 36 [.slice la ls.length lc, .slice wa ws.length wc, .slice ia is.length ic, .slice ka ks.length kc, .slice ma ms.length mc] :: ol 44 la lc ls :: ol 44 ga gc vs :: fam 5 dn :: fam 5 ((mks ls).drop (i + 1)) :: G)
        (fun j => j.1 ≤ 90 ∧ j.2.2.2.length = sx0.length + j.1 ∧ j.2.2.2.length ≤ j.2.1.xs.length ∧ (∀ y ∈ j.2.1.xs, y = markL i) ∧ Vw (· = markL i) (j.2.1 :: j.2.2.1) b.a b.c sx0.length ∧ Vw (· = markL i) (j.2.1 :: j.2.2.1) x.a x.c nv.length) (fun j => 90 - j.1)
        (0, b, tl2, sx0) ⟨Nat.zero_le _, rfl, hbl, hball, ⟨b, List.mem_cons_self .., rfl, rfl, hbl, hball⟩, hgv⟩ ?_
      rintro ⟨k2, z, tl3, nw⟩ ⟨hk2, hnl2, hnx2, hxm2, hbv2, hgv2⟩
      simp only at hk2 hnl2 hnx2 hxm2 hbv2 hgv2 ⊢
      refine sx ?_
      refine s_if rfl (fun t4 => ?_) (fun t4 => ?_)
      · refine sx ?_
        refine s_callV rfl (mark_s (i := i) (by omega)) ?_
        refine s_bsl [markL i] rfl rfl fun b9 => ?_
        refine s_appP (xs := z.xs) (p := nw.length) (ys := [markL i]) ?_ ?_
        · intro hc
          have hpl := putL_len (ys := [markL i]) hnx2
          refine sx ?_
          refine s_again (k2 + 1, ⟨z.a, z.c, putL z.xs nw.length [markL i]⟩, tl3, markL i :: nw) ⟨by simp only; omega, by simp only [List.length_cons]; omega, by simp only [List.length_cons]; rw [hpl]; simp only [List.length_cons, List.length_nil]; omega, putM hxm2, ?_, ?_⟩ (by simp only; omega)
          · exact hbv2.put rfl rfl (by simp only [Row.xs]; omega) (putM hxm2)
          · exact hgv2.put rfl rfl (by simp only [Row.xs]; omega) (putM hxm2)
        · intro a' c'
          refine sx ?_
          refine s_again (k2 + 1, ⟨a', c', z.xs.take nw.length ++ [markL i]⟩, z :: tl3, markL i :: nw) ⟨by simp only; omega, by simp only [List.length_cons]; omega, by simp only [List.length_cons, List.length_append, List.length_take, List.length_nil]; omega, tkM hxm2, ?_, ?_⟩ (by simp only; omega) (he := ?_)
          · exact hbv2.mono (fun s h => List.mem_cons_of_mem _ h) (fun _ h => h)
          · exact hgv2.mono (fun s h => List.mem_cons_of_mem _ h) (fun _ h => h)
          · refine Ent.cons (by exact rm) ?_
            refine Ent.famK (by exact rm) (by exact rm) ?_
            exact ent
      · refine sx ?_
        refine s_bsl [(⟨x.a, x.c, nv⟩ : SB), ⟨z.a, z.c, nw⟩] rfl rfl fun b9 => ?_
        refine s_app ?_
        intro ga2 gc2
        refine sx ?_
        have hin : ∀ s : SB, s ∈ z :: tl3 → s ∈ (z :: tl3) ++ dn := fun s h => List.mem_append_left _ h
        have hin2 : ∀ s : SB, s ∈ dn → s ∈ (z :: tl3) ++ dn := fun s h => List.mem_append_right _ h
        refine s_again (i + 1, ga2, gc2, vs ++ [(⟨x.a, x.c, nv⟩ : SB), ⟨z.a, z.c, nw⟩], (z :: tl3) ++ dn) ⟨by simp only; omega, by simp only [List.length_append, List.length_cons, List.length_nil]; omega, ?_, ?_⟩ (by simp only; omega) (he := ?_)
        · intro j s hj hjs
          simp only at hj ⊢
          by_cases h : j < i
          · exact (hb1 j s h hjs).mono hin2 (fun _ h => h)
          · obtain rfl : j = i := by omega
            rw [hs'] at hjs
            cases hjs
            exact hbv2.mono hin (fun _ h => h)
        · intro j v hjv
          simp only at hjv ⊢
          by_cases h : j < 2 * i
          · rw [List.getElem?_append_left (by omega)] at hjv
            exact (hv1 j v hjv).mono hin2 (fun _ h => h)
          · rw [List.getElem?_append_right (by omega)] at hjv
            rcases (show j - vs.length = 0 ∨ j - vs.length = 1 ∨ 2 ≤ j - vs.length by omega) with h0 | h0 | h0
            · rw [h0] at hjv
              cases hjv
              rw [show j / 2 = i by omega]
              exact hgv2.mono hin (fun _ h => h)
            · rw [h0] at hjv
              cases hjv
              rw [show j / 2 = i by omega]
              exact Vw.mono (p := (· = markL i)) (D := z :: tl3) ⟨z, List.mem_cons_self .., rfl, rfl, hnx2, hxm2⟩ hin (fun _ h => h)
            · rw [List.getElem?_eq_none (by simpa using h0)] at hjv
              cases hjv
        · refine Ent.cons (by exact rm) ?_
          refine Ent.cons (by exact rm) ?_
          refine Ent.cons (by exact rm) ?_
          refine Ent.famKA (by exact rm) (by exact rm) (by exact rm) ?_
          exact ent
  obtain rfl : i = ls.length := by omega
  clear hi
  refine sx ?_
  refine s_loop (fun i : Nat => [(0, .pointer (some ⟨K, 0, none⟩)), (6, .slice ga vs.length gc), (12, .int .i64 i)]) (fun _ => .hb K 36 [.slice la ls.length lc, .slice wa ws.length wc, .slice ia is.length ic, .slice ka ks.length kc, .slice ma ms.length mc] :: ol 44 la lc ls :: ol 44 ga gc vs :: fam 5 dn :: G)
    (fun i => i ≤ ls.length) (fun i => ls.length - i) 0 (Nat.zero_le _) ?_
  intro i hi
  refine sx ?_
  refine s_if rfl (fun t3 => ?_) (fun t3 => ?_)
  · obtain ⟨s, hs⟩ := get_lt ls i (by omega)
    obtain ⟨g, hg⟩ := get_lt vs (2 * i) (by omega)
    obtain ⟨h, hh⟩ := get_lt vs (2 * i + 1) (by omega)
    have f1 : FnV Tryz.prog w0 (.hb K 36 [.slice la ls.length lc, .slice wa ws.length wc, .slice ia is.length ic, .slice ka ks.length kc, .slice ma ms.length mc] :: ol 44 la lc ls :: ol 44 ga gc vs :: fam 5 dn :: G) 27 #[.slice s.a s.xs.length s.c, bv (markL i)] (.bool true) := fullV (hb1 i s (by omega) hs) (by exact ent)
    have f2 : FnV Tryz.prog w0 (.hb K 36 [.slice la ls.length lc, .slice wa ws.length wc, .slice ia is.length ic, .slice ka ks.length kc, .slice ma ms.length mc] :: ol 44 la lc ls :: ol 44 ga gc vs :: fam 5 dn :: G) 27 #[.slice g.a g.xs.length g.c, bv (markL i)] (.bool true) := by
      have := hv1 _ g hg
      rw [show 2 * i / 2 = i by omega] at this
      exact fullV this (by exact ent)
    have f3 : FnV Tryz.prog w0 (.hb K 36 [.slice la ls.length lc, .slice wa ws.length wc, .slice ia is.length ic, .slice ka ks.length kc, .slice ma ms.length mc] :: ol 44 la lc ls :: ol 44 ga gc vs :: fam 5 dn :: G) 27 #[.slice h.a h.xs.length h.c, bv (markL i)] (.bool true) := by
      have := hv1 _ h hh
      rw [show (2 * i + 1) / 2 = i by omega] at this
      exact fullV this (by exact ent)
    refine sx ?_; refine s_dr (.one true 0 (.one true 1 (.one true 2 (.one true 3 (.one true 4 (.one true 5 (.one true 6 (.one true 7 (.one false 8 (.one false 9 (.one true 10 .nil))))))))))) mixed (by kernel_rfl) ?_; refine sx ?_
    refine s_callV rfl (mark_s (i := i) (by omega)) ?_
    refine sx ?_
    refine s_callV rfl f1 ?_
    refine sx ?_; refine s_dr (.one true 0 (.one true 1 (.one true 2 (.one true 3 (.one true 4 (.one true 5 (.one false 6 (.one false 7 (.one true 8 .nil))))))))) mixed (by kernel_rfl) ?_; refine sx ?_
    refine s_rw (t := 144) rfl (ci (by omega : _ = ((2 * i : Nat) : Int))) ?_
    refine sx ?_
    refine s_callV rfl (mark_s (i := i) (by omega)) ?_
    refine sx ?_
    refine s_callV rfl f2 ?_
    refine sx ?_; refine s_dr (.one true 0 (.one true 1 (.one true 2 (.one true 3 (.one true 4 (.one true 5 (.one true 6 (.one false 7 (.one false 8 (.one true 9 .nil)))))))))) mixed (by kernel_rfl) ?_; refine sx ?_
    refine s_rw (t := 153) rfl (ci (by omega : _ = ((2 * i + 1 : Nat) : Int))) ?_
    refine sx ?_
    refine s_callV rfl (mark_s (i := i) (by omega)) ?_
    refine sx ?_
    refine s_callV rfl f3 ?_
    refine sx ?_
    exact s_again (i + 1) (by omega) (by omega)
  clear hi
  refine s_ent (.hb K 36 [.slice la ls.length lc, .slice wa ws.length wc, .slice ia is.length ic, .slice ka ks.length kc, .slice ma ms.length mc] :: ol 22 ia ic is :: fam 3 is :: .star [ol 23 ka kc ks, ol 26 ma mc ms, fam 44 ks, fam 56 ms] :: H0) (by
    rw [hG]
    refine Ent.cons (by exact rm) ?_
    refine Ent.tl (Ent.tl (Ent.tl ?_))
    refine Ent.open ?_
    refine Ent.cons (by exact rm) ?_
    refine Ent.cons (by exact rm) ?_
    exact Ent.star Ent.refl) ?_
  refine sx ?_
  refine s_call rfl (numbers_s (Nat.le_trans hB.leni hn) hB.smalli) ?_
  rintro v H1 ⟨rfl, rfl⟩
  refine ⟨chk_seq, ?_⟩
  refine s_entL (.hb K 36 [.slice la ls.length lc, .slice wa ws.length wc, .slice ia is.length ic, .slice ka ks.length kc, .slice ma ms.length mc] :: ol 23 ka kc ks :: fam 44 ks :: .star [ol 26 ma mc ms, fam 56 ms] :: H0) (by
    refine Ent.cons (by exact rm) ?_
    refine Ent.open ?_
    refine Ent.cons (by exact rm) ?_
    refine Ent.cons (by exact rm) ?_
    exact Ent.star Ent.refl) ?_
  refine sx ?_
  refine s_call rfl (outerK_s (Nat.le_trans hB.lenk hn) hB.smallk) ?_
  rintro v H1 ⟨rfl, rfl⟩
  refine ⟨chk_seq, ?_⟩
  refine s_entL (.hb K 36 [.slice la ls.length lc, .slice wa ws.length wc, .slice ia is.length ic, .slice ka ks.length kc, .slice ma ms.length mc] :: ol 26 ma mc ms :: fam 56 ms :: H0) (by
    refine Ent.cons (by exact rm) ?_
    exact Ent.open Ent.refl) ?_
  refine sx ?_
  refine s_call rfl (outerMsgs_s (Nat.le_trans hB.lenm hn) hB.smallm) ?_
  rintro v H1 ⟨rfl, rfl⟩
  refine ⟨chk_seq, ?_⟩
  refine sx ?_
  rw [hH0]
  exact s_ret1 rfl rfl ⟨rfl, rfl⟩ (Ent.tl Ent.refl)
end Go.Sx
