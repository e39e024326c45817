/- Part of a proof: in the end all lists are their owners'. -/
import Derived.Test.YtceandgmpcpmfaaCDI
namespace Go.Sx
open Go Go.Proofs
set_option maxRecDepth 10000
variable {w0 : World} {H : List Ck}
theorem flat_same {β : Type} [Cel β] {F : List β} {i : Nat} {s s' : β} (h : F[i]? = some s) (e : Cel.f s' = Cel.f s) : flat (F.set i s') = flat F := by
  have h1 : (F.set i s').map Cel.f = F.map Cel.f := map_set_same h e
  unfold flat
  rw [List.flatMap_def, List.flatMap_def, h1]
theorem map_set2 {β γ : Type} {f : β → γ} {P Q : List β} {i : Nat} {u v : β} (h : P.map f = Q.map f) (e : f u = f v) : (P.set i u).map f = (Q.set i v).map f := by
  rw [List.map_set, List.map_set, h, e]
theorem hdr_same {β : Type} [Cel β] {E c : Nat} {a : Option Addr} {F G : List β} (h : flat F = flat G) (hl : F.length = G.length) : Ent (ol E a c F :: H) (ol E a c G :: H) := by
  show Ent (Ck.own E (Cel.sz β) a F.length c (flat F) :: H) (Ck.own E (Cel.sz β) a G.length c (flat G) :: H)
  rw [h, hl]
  exact Ent.refl
theorem fam_put {α β : Type} [Cel α] [Row β α] {E : TypeId} {F : List β} {i : Nat} {s : β} (h : i < F.length) : Ent (Row.ck E s :: fam E (F.eraseIdx i) :: H) (fam E (F.set i s) :: H) := fam_cons'.trans (fam_perm (st_perm h).symm)
theorem fam_two_put {α β : Type} [Cel α] [Row β α] {E : TypeId} {P Q : List β} {i : Nat} {s t t' : β} (h : i < P.length) (ht : Q[i]? = some t) : Ent (Row.ck E s :: fam E (P.eraseIdx i) :: fam E Q :: Row.ck E t' :: H) (fam E (P.set i s) :: fam E (Q.set i t') :: H) := by
  refine fam_cons'.trans ((fam_perm (st_perm h).symm).trans (Ent.head ?_))
  refine (fam_get ht).trans (Ent.tl ?_)
  refine (Ent.perm (List.Perm.swap _ _ _)).trans ?_
  exact fam_put (List.getElem?_eq_some_iff.1 ht).1
set_option maxHeartbeats 8000000 in
theorem ends_s {W M : Nat} {S : DW} (hS : S.Ok M) (hM : M + 20 ≤ 5864062014805) (ho : S.out ≤ 5864062014805) : FnS Try.prog w0 (dW W S H) 9 #[.pointer (some ⟨W, 0, none⟩)] (fun v H' => v = .bool true ∧ H' = H) := by
  obtain ⟨la, lc, ra, rc, ls, pa, pc, p, qa, qc, q, xa, xc, x, ya, yc, y, n⟩ := S
  obtain ⟨-, hpq, hxy, hrp, hrx⟩ := hS
  simp only [DW.out] at hpq hxy hrp hrx ho
  have hql : q.length = p.length := by simpa using (congrArg List.length hpq).symm
  have hyl : y.length = x.length := by simpa using (congrArg List.length hxy).symm
  refine fns_enter Try.func9 rfl rfl rfl ?_
  refine s_ent (.hb W 30 [.slice la (ls.map DL.pd).length lc, .slice ra (ls.map DL.pr).length rc, .slice pa p.length pc, .slice qa q.length qc, .slice xa x.length xc, .slice ya y.length yc, .int .i64 n] :: ol 47 qa qc q :: ol 47 pa pc p :: fam 3 p :: fam 3 q :: ol 39 ya yc y :: ol 39 xa xc x :: fam 34 x :: fam 34 y :: H) ?_ ?_
  · refine Ent.cons (by exact rm) ?_
    refine Ent.tl ?_
    refine Ent.trans (Ent.open Ent.refl) ?_
    refine Ent.cons (by exact rm) (Ent.cons (by exact rm) (Ent.cons (by exact rm) (Ent.cons (by exact rm) ?_)))
    refine Ent.trans (Ent.open Ent.refl) ?_
    exact Ent.cons (by exact rm) (Ent.cons (by exact rm) (Ent.cons (by exact rm) (Ent.cons (by exact rm) (Ent.tl Ent.refl))))
  refine sx ?_
  refine s_loop (fun m : Nat × List SIn × List SIn => [(0, .pointer (some ⟨W, 0, none⟩)), (3, .int .i64 m.1)]) (fun m => .hb W 30 [.slice la (ls.map DL.pd).length lc, .slice ra (ls.map DL.pr).length rc, .slice pa p.length pc, .slice qa q.length qc, .slice xa x.length xc, .slice ya y.length yc, .int .i64 n] :: ol 47 qa qc m.2.2 :: ol 47 pa pc m.2.1 :: fam 3 m.2.1 :: fam 3 m.2.2 :: ol 39 ya yc y :: ol 39 xa xc x :: fam 34 x :: fam 34 y :: H) (fun m => m.1 ≤ p.length ∧ (m.2.1.length = p.length ∧ m.2.2.length = p.length ∧ List.map SIn.xs m.2.1 = List.map SIn.xs m.2.2) ∧ ∀ s ∈ m.2.1, s.xs.length ≤ M) (fun m => p.length - m.1) (0, p, q) ⟨Nat.zero_le _, ⟨rfl, hql, hpq⟩, hrp⟩ ?_ 
  rintro ⟨i, P1, Q1⟩ ⟨hi, ⟨hP1, hQ1, hm1⟩, hb1⟩
  simp only at hi hP1 hQ1 hm1 hb1 ⊢
  refine sx ?_
  refine s_if rfl (fun t1 => ?_) (fun t1 => ?_)
  · have hiN : i < p.length := by omega
    obtain ⟨s, hs⟩ := get_lt P1 i (by omega)
    obtain ⟨t, ht⟩ := get_lt Q1 i (by omega)
    have hil := (List.getElem?_eq_some_iff.1 hs).1
    have hjl := (List.getElem?_eq_some_iff.1 ht).1
    have hst : s.xs = t.xs := by
      have h1 := congrArg (·[i]?) hm1
      simp only [List.getElem?_map, hs, ht, Option.map_some, Option.some.injEq] at h1
      exact h1
    have hsM := hb1 s (List.mem_of_getElem? hs)
    refine sx ?_; refine s_dr (.one true 0 (.one true 1 (.one true 2 (.one true 3 (.one true 4 (.one true 5 (.one true 6 (.one true 7 (.one true 8 (.one true 9 (.one true 10 (.one true 11 (.one true 12 (.one true 13 (.one false 14 (.one true 15 .nil)))))))))))))))) mixed (by kernel_rfl) ?_; refine sx ?_
    refine s_callV rfl (sameI_s (xs := s.xs) (ys := t.xs) (by repeat (first | exact fam_sl (List.mem_of_getElem? hs) | apply RSl.tl)) (by repeat (first | exact fam_sl (List.mem_of_getElem? ht) | apply RSl.tl))) ?_
    rw [decide_eq_true hst]
    refine sx ?_
    refine s_ent (.hb W 30 [.slice la (ls.map DL.pd).length lc, .slice ra (ls.map DL.pr).length rc, .slice pa p.length pc, .slice qa q.length qc, .slice xa x.length xc, .slice ya y.length yc, .int .i64 n] :: ol 47 qa qc Q1 :: ol 47 pa pc P1 :: Row.ck 3 s :: fam 3 (P1.eraseIdx i) :: fam 3 Q1 :: ol 39 ya yc y :: ol 39 xa xc x :: fam 34 x :: fam 34 y :: H) (Ent.head (Ent.head (Ent.head (fam_get hs)))) ?_
    refine s_loop (fun m : Nat × List Int => [(0, .pointer (some ⟨W, 0, none⟩)), (3, .int .i64 i), (5, .int .i64 m.1)]) (fun m => .hb W 30 [.slice la (ls.map DL.pd).length lc, .slice ra (ls.map DL.pr).length rc, .slice pa p.length pc, .slice qa q.length qc, .slice xa x.length xc, .slice ya y.length yc, .int .i64 n] :: ol 47 qa qc Q1 :: ol 47 pa pc P1 :: ol 3 s.a s.c m.2 :: fam 3 (P1.eraseIdx i) :: fam 3 Q1 :: ol 39 ya yc y :: ol 39 xa xc x :: fam 34 x :: fam 34 y :: H) (fun m => m.2.length = s.xs.length) (fun m => s.xs.length - m.1) (0, s.xs) rfl ?_
    rintro ⟨j, ys⟩ hy
    simp only at hy ⊢
    refine sx ?_
    refine s_if rfl (fun t2 => ?_) (fun t2 => ?_)
    · refine sx ?_
      refine s_set1g (y := (-(i : Int))) rfl rfl (by exact at_) rfl (by omega) ?_
      refine sx ?_
      exact s_again (j + 1, ys.set j (-(i : Int))) (by simp only [List.length_set]; exact hy) (by simp only; omega)
    · have hset : flat (P1.set i (⟨s.a, s.c, ys⟩ : SIn)) = flat P1 := flat_same hs (by simp only [Cel.f, SIn.val, hy])
      refine sx ?_
      refine s_kn (φ := ∃ ad, qa = some ad) (fun w hw => own_gA (c := qc) (Sat.ownOf (c' := ol 47 qa qc Q1) (by exact at_) hw) (by omega)) ?_
      rintro ⟨ad, rfl⟩
      refine sx ?_; refine s_drH (.hb W 30 [.slice la (ls.map DL.pd).length lc, .slice ra (ls.map DL.pr).length rc, .slice pa p.length pc, .slice (some ad) q.length qc, .slice xa x.length xc, .slice ya y.length yc, .int .i64 n] :: ol 47 pa pc P1 :: H) (.one true 0 (.one true 1 (.one true 2 (.one true 3 (.one true 4 (.one true 6 (.one true 7 (.one true 8 (.one true 9 (.one true 10 (.one true 11 (.one true 12 (.one false 5 (.one false 13 (.one true 14 (.one false 15 .nil)))))))))))))))) mixed (by kernel_rfl) ?_; refine sx ?_
      refine s_bsl ([] : List Int) rfl rfl fun bq => ?_
      refine sx ?_
      refine s_app (ys := ys) ?_
      intro a2 c2
      refine sx ?_
      refine s_set1 (y := (⟨a2, c2, ys⟩ : SIn)) rfl rfl (by exact at_) rfl (by omega) ?_
      rw [List.nil_append]
      refine sx ?_
      refine s_again (i + 1, P1.set i (⟨s.a, s.c, ys⟩ : SIn), Q1.set i (⟨a2, c2, ys⟩ : SIn)) ⟨by simp only; omega, ⟨by simp only [List.length_set]; exact hP1, by simp only [List.length_set]; exact hQ1, map_set2 hm1 rfl⟩, ?_⟩ (by simp only; omega) (he := ?_)
      · simp only
        intro u hu
        rcases List.mem_or_eq_of_mem_set hu with h | h
        · exact hb1 u h
        · rw [h]; simp only; omega
      · simp only
        refine Ent.cons (by exact rm) (Ent.cons (by exact rm) ?_)
        refine Ent.trans (H' := ol 47 pa pc P1 :: Row.ck 3 (⟨s.a, s.c, ys⟩ : SIn) :: fam 3 (P1.eraseIdx i) :: fam 3 Q1 :: Row.ck 3 (⟨a2, c2, ys⟩ : SIn) :: ol 39 ya yc y :: ol 39 xa xc x :: fam 34 x :: fam 34 y :: H) ?_ ((hdr_same hset.symm (by simp)).trans (Ent.head (fam_two_put hil ht)))
        refine Ent.cons (by exact rm) (Ent.cons (by exact rm) (Ent.cons (by exact rm) (Ent.cons (by exact rm) (Ent.cons (by exact rm) (by exact ent)))))
  obtain rfl : i = p.length := by omega
  refine sx ?_
  clear hi t1 hpq hrp
  refine s_loop (fun m : Nat × List SLf × List SLf => [(0, .pointer (some ⟨W, 0, none⟩)), (6, .int .i64 m.1)]) (fun m => .hb W 30 [.slice la (ls.map DL.pd).length lc, .slice ra (ls.map DL.pr).length rc, .slice pa p.length pc, .slice qa q.length qc, .slice xa x.length xc, .slice ya y.length yc, .int .i64 n] :: ol 39 ya yc m.2.2 :: ol 39 xa xc m.2.1 :: fam 34 m.2.1 :: fam 34 m.2.2 :: ol 47 qa qc Q1 :: ol 47 pa pc P1 :: fam 3 P1 :: fam 3 Q1 :: H) (fun m => m.1 ≤ x.length ∧ (m.2.1.length = x.length ∧ m.2.2.length = x.length ∧ List.map SLf.xs m.2.1 = List.map SLf.xs m.2.2) ∧ ∀ s ∈ m.2.1, s.xs.length ≤ M) (fun m => x.length - m.1) (0, x, y) ⟨Nat.zero_le _, ⟨rfl, hyl, hxy⟩, hrx⟩ ?_ (he := Ent.head (Ent.perm (by have h := (List.perm_append_comm (l₁ := [ol 47 qa qc Q1, ol 47 pa pc P1, fam 3 P1, fam 3 Q1]) (l₂ := [ol 39 ya yc y, ol 39 xa xc x, fam 34 x, fam 34 y])).append_right H; simpa only [List.cons_append, List.nil_append] using h)))
  rintro ⟨i, X1, Y1⟩ ⟨hi, ⟨hX1, hY1, hn1⟩, hd1⟩
  simp only at hi hX1 hY1 hn1 hd1 ⊢
  refine sx ?_
  refine s_if rfl (fun t1 => ?_) (fun t1 => ?_)
  · have hiN : i < x.length := by omega
    obtain ⟨s, hs⟩ := get_lt X1 i (by omega)
    obtain ⟨t, ht⟩ := get_lt Y1 i (by omega)
    have hil := (List.getElem?_eq_some_iff.1 hs).1
    have hjl := (List.getElem?_eq_some_iff.1 ht).1
    have hst : s.xs = t.xs := by
      have h1 := congrArg (·[i]?) hn1
      simp only [List.getElem?_map, hs, ht, Option.map_some, Option.some.injEq] at h1
      exact h1
    have hsM := hd1 s (List.mem_of_getElem? hs)
    refine sx ?_; refine s_dr (.one true 0 (.one true 1 (.one true 2 (.one true 3 (.one true 4 (.one true 5 (.one true 6 (.one true 7 (.one true 8 (.one true 9 (.one true 10 (.one true 11 (.one true 12 (.one true 13 (.one false 14 (.one true 15 .nil)))))))))))))))) mixed (by kernel_rfl) ?_; refine sx ?_
    refine s_callV rfl (sameL_s (xs := s.xs) (ys := t.xs) (by repeat (first | exact fam_sl (List.mem_of_getElem? hs) | apply RSl.tl)) (by repeat (first | exact fam_sl (List.mem_of_getElem? ht) | apply RSl.tl))) ?_
    rw [decide_eq_true hst]
    refine sx ?_
    refine s_ent (.hb W 30 [.slice la (ls.map DL.pd).length lc, .slice ra (ls.map DL.pr).length rc, .slice pa p.length pc, .slice qa q.length qc, .slice xa x.length xc, .slice ya y.length yc, .int .i64 n] :: ol 39 ya yc Y1 :: ol 39 xa xc X1 :: Row.ck 34 s :: fam 34 (X1.eraseIdx i) :: fam 34 Y1 :: ol 47 qa qc Q1 :: ol 47 pa pc P1 :: fam 3 P1 :: fam 3 Q1 :: H) (Ent.head (Ent.head (Ent.head (fam_get hs)))) ?_
    refine s_loop (fun m : Nat × List Lf => [(0, .pointer (some ⟨W, 0, none⟩)), (6, .int .i64 i), (8, .int .i64 m.1)]) (fun m => .hb W 30 [.slice la (ls.map DL.pd).length lc, .slice ra (ls.map DL.pr).length rc, .slice pa p.length pc, .slice qa q.length qc, .slice xa x.length xc, .slice ya y.length yc, .int .i64 n] :: ol 39 ya yc Y1 :: ol 39 xa xc X1 :: ol 34 s.a s.c m.2 :: fam 34 (X1.eraseIdx i) :: fam 34 Y1 :: ol 47 qa qc Q1 :: ol 47 pa pc P1 :: fam 3 P1 :: fam 3 Q1 :: H) (fun m => m.2.length = s.xs.length) (fun m => s.xs.length - m.1) (0, s.xs) rfl ?_
    rintro ⟨j, ys⟩ hy
    simp only at hy ⊢
    refine sx ?_
    refine s_if rfl (fun t2 => ?_) (fun t2 => ?_)
    · refine sx ?_
      refine s_setAg (y := (⟨-(i : Int), 0, 0⟩ : Lf)) rfl rfl (by exact at_) rfl (by omega) ?_
      refine sx ?_
      exact s_again (j + 1, ys.set j (⟨-(i : Int), 0, 0⟩ : Lf)) (by simp only [List.length_set]; exact hy) (by simp only; omega)
    · have hset : flat (X1.set i (⟨s.a, s.c, ys⟩ : SLf)) = flat X1 := flat_same hs (by simp only [Cel.f, SLf.val, hy])
      refine sx ?_
      refine s_kn (φ := ∃ ad, ya = some ad) (fun w hw => own_gA (c := yc) (Sat.ownOf (c' := ol 39 ya yc Y1) (by exact at_) hw) (by omega)) ?_
      rintro ⟨ad, rfl⟩
      refine sx ?_; refine s_drH (.hb W 30 [.slice la (ls.map DL.pd).length lc, .slice ra (ls.map DL.pr).length rc, .slice pa p.length pc, .slice qa q.length qc, .slice xa x.length xc, .slice (some ad) y.length yc, .int .i64 n] :: ol 39 xa xc X1 :: H) (.one true 0 (.one true 1 (.one true 2 (.one true 3 (.one true 4 (.one true 6 (.one true 7 (.one true 8 (.one true 9 (.one true 10 (.one true 11 (.one true 12 (.one false 5 (.one false 13 (.one true 14 (.one false 15 .nil)))))))))))))))) mixed (by kernel_rfl) ?_; refine sx ?_
      refine s_bsl ([] : List Lf) rfl rfl fun bq => ?_
      refine sx ?_
      refine s_app (ys := ys) ?_
      intro a2 c2
      refine sx ?_
      refine s_set1 (y := (⟨a2, c2, ys⟩ : SLf)) rfl rfl (by exact at_) rfl (by omega) ?_
      rw [List.nil_append]
      refine sx ?_
      refine s_again (i + 1, X1.set i (⟨s.a, s.c, ys⟩ : SLf), Y1.set i (⟨a2, c2, ys⟩ : SLf)) ⟨by simp only; omega, ⟨by simp only [List.length_set]; exact hX1, by simp only [List.length_set]; exact hY1, map_set2 hn1 rfl⟩, ?_⟩ (by simp only; omega) (he := ?_)
      · simp only
        intro u hu
        rcases List.mem_or_eq_of_mem_set hu with h | h
        · exact hd1 u h
        · rw [h]; simp only; omega
      · simp only
        refine Ent.cons (by exact rm) (Ent.cons (by exact rm) ?_)
        refine Ent.trans (H' := ol 39 xa xc X1 :: Row.ck 34 (⟨s.a, s.c, ys⟩ : SLf) :: fam 34 (X1.eraseIdx i) :: fam 34 Y1 :: Row.ck 34 (⟨a2, c2, ys⟩ : SLf) :: ol 47 qa qc Q1 :: ol 47 pa pc P1 :: fam 3 P1 :: fam 3 Q1 :: H) ?_ ((hdr_same hset.symm (by simp)).trans (Ent.head (fam_two_put hil ht)))
        refine Ent.cons (by exact rm) (Ent.cons (by exact rm) (Ent.cons (by exact rm) (Ent.cons (by exact rm) (Ent.cons (by exact rm) (by exact ent)))))
  obtain rfl : i = x.length := by omega
  refine sx ?_
  clear hi t1 hxy hrx
  refine s_loop (fun m : Nat × List SIn × List SIn => [(0, .pointer (some ⟨W, 0, none⟩)), (9, .int .i64 m.1)]) (fun m => .hb W 30 [.slice la (ls.map DL.pd).length lc, .slice ra (ls.map DL.pr).length rc, .slice pa p.length pc, .slice qa q.length qc, .slice xa x.length xc, .slice ya y.length yc, .int .i64 n] :: ol 47 qa qc m.2.2 :: ol 47 pa pc m.2.1 :: fam 3 m.2.1 :: fam 3 m.2.2 :: ol 39 ya yc Y1 :: ol 39 xa xc X1 :: fam 34 X1 :: fam 34 Y1 :: H) (fun m => m.1 ≤ p.length ∧ (m.2.1.length = p.length ∧ m.2.2.length = p.length ∧ List.map SIn.xs m.2.1 = List.map SIn.xs m.2.2) ∧ ∀ j s, m.1 ≤ j → m.2.1[j]? = some s → s.xs.length ≤ M) (fun m => p.length - m.1) (0, P1, Q1) ⟨Nat.zero_le _, ⟨hP1, hQ1, hm1⟩, fun j s _ h => hb1 s (List.mem_of_getElem? h)⟩ ?_ (he := Ent.head (Ent.perm (by have h := (List.perm_append_comm (l₁ := [ol 39 ya yc Y1, ol 39 xa xc X1, fam 34 X1, fam 34 Y1]) (l₂ := [ol 47 qa qc Q1, ol 47 pa pc P1, fam 3 P1, fam 3 Q1])).append_right H; simpa only [List.cons_append, List.nil_append] using h)))
  rintro ⟨i, P2, Q2⟩ ⟨hi, ⟨hP2, hQ2, hm2⟩, hb2⟩
  simp only at hi hP2 hQ2 hm2 hb2 ⊢
  refine sx ?_
  refine s_if rfl (fun t1 => ?_) (fun t1 => ?_)
  · have hiN : i < p.length := by omega
    obtain ⟨s, hs⟩ := get_lt P2 i (by omega)
    obtain ⟨t, ht⟩ := get_lt Q2 i (by omega)
    have hil := (List.getElem?_eq_some_iff.1 hs).1
    have hjl := (List.getElem?_eq_some_iff.1 ht).1
    have hst : s.xs = t.xs := by
      have h1 := congrArg (·[i]?) hm2
      simp only [List.getElem?_map, hs, ht, Option.map_some, Option.some.injEq] at h1
      exact h1
    have hsM := hb2 i s (Nat.le_refl _) hs
    refine sx ?_
    refine s_ent (.hb W 30 [.slice la (ls.map DL.pd).length lc, .slice ra (ls.map DL.pr).length rc, .slice pa p.length pc, .slice qa q.length qc, .slice xa x.length xc, .slice ya y.length yc, .int .i64 n] :: ol 47 qa qc Q2 :: ol 47 pa pc P2 :: Row.ck 3 s :: fam 3 (P2.eraseIdx i) :: fam 3 Q2 :: ol 39 ya yc Y1 :: ol 39 xa xc X1 :: fam 34 X1 :: fam 34 Y1 :: H) (Ent.head (Ent.head (Ent.head (fam_get hs)))) ?_
    refine s_loop (fun m : Nat × Option Addr × Nat × List Int => [(0, .pointer (some ⟨W, 0, none⟩)), (9, .int .i64 i), (10, .slice m.2.1 m.2.2.2.length m.2.2.1), (11, .int .i64 m.1)]) (fun m => .hb W 30 [.slice la (ls.map DL.pd).length lc, .slice ra (ls.map DL.pr).length rc, .slice pa p.length pc, .slice qa q.length qc, .slice xa x.length xc, .slice ya y.length yc, .int .i64 n] :: ol 47 qa qc Q2 :: ol 47 pa pc P2 :: ol 3 m.2.1 m.2.2.1 m.2.2.2 :: fam 3 (P2.eraseIdx i) :: fam 3 Q2 :: ol 39 ya yc Y1 :: ol 39 xa xc X1 :: fam 34 X1 :: fam 34 Y1 :: H) (fun m => m.1 ≤ 20 ∧ m.2.2.2.length = s.xs.length + m.1) (fun m => 20 - m.1) (0, s.a, s.c, s.xs) ⟨Nat.zero_le _, rfl⟩ ?_
    rintro ⟨j, a1, c1, ys⟩ ⟨hj, hy⟩
    simp only at hj hy ⊢
    refine sx ?_
    refine s_if rfl (fun t2 => ?_) (fun t2 => ?_)
    · refine sx ?_
      refine s_bsl [(-(i : Int))] rfl rfl fun br => ?_
      refine sx ?_
      refine s_app (xs := ys) ?_
      intro a2 c2
      refine sx ?_
      exact s_again (j + 1, a2, c2, ys ++ [(-(i : Int))]) ⟨by simp only; omega, by simp only [List.length_append, List.length_cons, List.length_nil]; omega⟩ (by simp only; omega)
    · refine sx ?_
      refine s_set1g (y := (⟨a1, c1, ys⟩ : SIn)) rfl rfl (by exact at_) rfl (by omega) ?_
      refine sx ?_
      refine s_kn (φ := ∃ ad, qa = some ad) (fun w hw => own_gA (c := qc) (Sat.ownOf (c' := ol 47 qa qc Q2) (by exact at_) hw) (by omega)) ?_
      rintro ⟨ad, rfl⟩
      refine sx ?_; refine s_drH (.hb W 30 [.slice la (ls.map DL.pd).length lc, .slice ra (ls.map DL.pr).length rc, .slice pa p.length pc, .slice (some ad) q.length qc, .slice xa x.length xc, .slice ya y.length yc, .int .i64 n] :: ol 47 pa pc (P2.set i (⟨a1, c1, ys⟩ : SIn)) :: H) (.one true 0 (.one true 1 (.one true 2 (.one true 3 (.one true 4 (.one true 6 (.one false 5 (.one false 7 (.one true 8 (.one false 9 .nil)))))))))) mixed (by kernel_rfl) ?_; refine sx ?_
      refine s_bsl ([] : List Int) rfl rfl fun bq => ?_
      refine sx ?_
      refine s_app (ys := ys) ?_
      intro a2 c2
      refine sx ?_
      refine s_set1 (y := (⟨a2, c2, ys⟩ : SIn)) rfl rfl (by exact at_) rfl (by omega) ?_
      rw [List.nil_append]
      refine sx ?_
      refine s_again (i + 1, P2.set i (⟨a1, c1, ys⟩ : SIn), Q2.set i (⟨a2, c2, ys⟩ : SIn)) ⟨by simp only; omega, ⟨by simp only [List.length_set]; exact hP2, by simp only [List.length_set]; exact hQ2, map_set2 hm2 rfl⟩, ?_⟩ (by simp only; omega) (he := ?_)
      · simp only
        intro u v hu hv
        rw [List.getElem?_set_ne (by omega)] at hv
        exact hb2 u v (by omega) hv
      · simp only
        refine Ent.cons (by exact rm) (Ent.cons (by exact rm) (Ent.cons (by exact rm) ?_))
        refine Ent.trans (H' := Row.ck 3 (⟨a1, c1, ys⟩ : SIn) :: fam 3 (P2.eraseIdx i) :: fam 3 Q2 :: Row.ck 3 (⟨a2, c2, ys⟩ : SIn) :: ol 39 ya yc Y1 :: ol 39 xa xc X1 :: fam 34 X1 :: fam 34 Y1 :: H) ?_ (fam_two_put hil ht)
        refine Ent.cons (by exact rm) (Ent.cons (by exact rm) (Ent.cons (by exact rm) (Ent.cons (by exact rm) (by exact ent))))
  obtain rfl : i = p.length := by omega
  refine sx ?_
  clear hi t1 hb2 hm1 hb1
  refine s_loop (fun m : Nat × List SLf × List SLf => [(0, .pointer (some ⟨W, 0, none⟩)), (12, .int .i64 m.1)]) (fun m => .hb W 30 [.slice la (ls.map DL.pd).length lc, .slice ra (ls.map DL.pr).length rc, .slice pa p.length pc, .slice qa q.length qc, .slice xa x.length xc, .slice ya y.length yc, .int .i64 n] :: ol 39 ya yc m.2.2 :: ol 39 xa xc m.2.1 :: fam 34 m.2.1 :: fam 34 m.2.2 :: ol 47 qa qc Q2 :: ol 47 pa pc P2 :: fam 3 P2 :: fam 3 Q2 :: H) (fun m => m.1 ≤ x.length ∧ (m.2.1.length = x.length ∧ m.2.2.length = x.length ∧ List.map SLf.xs m.2.1 = List.map SLf.xs m.2.2) ∧ ∀ j s, m.1 ≤ j → m.2.1[j]? = some s → s.xs.length ≤ M) (fun m => x.length - m.1) (0, X1, Y1) ⟨Nat.zero_le _, ⟨hX1, hY1, hn1⟩, fun j s _ h => hd1 s (List.mem_of_getElem? h)⟩ ?_ (he := Ent.head (Ent.perm (by have h := (List.perm_append_comm (l₁ := [ol 47 qa qc Q2, ol 47 pa pc P2, fam 3 P2, fam 3 Q2]) (l₂ := [ol 39 ya yc Y1, ol 39 xa xc X1, fam 34 X1, fam 34 Y1])).append_right H; simpa only [List.cons_append, List.nil_append] using h)))
  rintro ⟨i, X2, Y2⟩ ⟨hi, ⟨hX2, hY2, hn2⟩, hd2⟩
  simp only at hi hX2 hY2 hn2 hd2 ⊢
  refine sx ?_
  refine s_if rfl (fun t1 => ?_) (fun t1 => ?_)
  · have hiN : i < x.length := by omega
    obtain ⟨s, hs⟩ := get_lt X2 i (by omega)
    obtain ⟨t, ht⟩ := get_lt Y2 i (by omega)
    have hil := (List.getElem?_eq_some_iff.1 hs).1
    have hjl := (List.getElem?_eq_some_iff.1 ht).1
    have hst : s.xs = t.xs := by
      have h1 := congrArg (·[i]?) hn2
      simp only [List.getElem?_map, hs, ht, Option.map_some, Option.some.injEq] at h1
      exact h1
    have hsM := hd2 i s (Nat.le_refl _) hs
    refine sx ?_
    refine s_ent (.hb W 30 [.slice la (ls.map DL.pd).length lc, .slice ra (ls.map DL.pr).length rc, .slice pa p.length pc, .slice qa q.length qc, .slice xa x.length xc, .slice ya y.length yc, .int .i64 n] :: ol 39 ya yc Y2 :: ol 39 xa xc X2 :: Row.ck 34 s :: fam 34 (X2.eraseIdx i) :: fam 34 Y2 :: ol 47 qa qc Q2 :: ol 47 pa pc P2 :: fam 3 P2 :: fam 3 Q2 :: H) (Ent.head (Ent.head (Ent.head (fam_get hs)))) ?_
    refine s_loop (fun m : Nat × Option Addr × Nat × List Lf => [(0, .pointer (some ⟨W, 0, none⟩)), (12, .int .i64 i), (13, .slice m.2.1 m.2.2.2.length m.2.2.1), (14, .int .i64 m.1)]) (fun m => .hb W 30 [.slice la (ls.map DL.pd).length lc, .slice ra (ls.map DL.pr).length rc, .slice pa p.length pc, .slice qa q.length qc, .slice xa x.length xc, .slice ya y.length yc, .int .i64 n] :: ol 39 ya yc Y2 :: ol 39 xa xc X2 :: ol 34 m.2.1 m.2.2.1 m.2.2.2 :: fam 34 (X2.eraseIdx i) :: fam 34 Y2 :: ol 47 qa qc Q2 :: ol 47 pa pc P2 :: fam 3 P2 :: fam 3 Q2 :: H) (fun m => m.1 ≤ 20 ∧ m.2.2.2.length = s.xs.length + m.1) (fun m => 20 - m.1) (0, s.a, s.c, s.xs) ⟨Nat.zero_le _, rfl⟩ ?_
    rintro ⟨j, a1, c1, ys⟩ ⟨hj, hy⟩
    simp only at hj hy ⊢
    refine sx ?_
    refine s_if rfl (fun t2 => ?_) (fun t2 => ?_)
    · refine sx ?_
      refine s_bsl [(⟨-(i : Int), 0, 0⟩ : Lf)] rfl rfl fun br => ?_
      refine sx ?_
      refine s_app (xs := ys) ?_
      intro a2 c2
      refine sx ?_
      exact s_again (j + 1, a2, c2, ys ++ [(⟨-(i : Int), 0, 0⟩ : Lf)]) ⟨by simp only; omega, by simp only [List.length_append, List.length_cons, List.length_nil]; omega⟩ (by simp only; omega)
    · refine sx ?_
      refine s_set1g (y := (⟨a1, c1, ys⟩ : SLf)) rfl rfl (by exact at_) rfl (by omega) ?_
      refine sx ?_
      refine s_kn (φ := ∃ ad, ya = some ad) (fun w hw => own_gA (c := yc) (Sat.ownOf (c' := ol 39 ya yc Y2) (by exact at_) hw) (by omega)) ?_
      rintro ⟨ad, rfl⟩
      refine sx ?_; refine s_drH (.hb W 30 [.slice la (ls.map DL.pd).length lc, .slice ra (ls.map DL.pr).length rc, .slice pa p.length pc, .slice qa q.length qc, .slice xa x.length xc, .slice (some ad) y.length yc, .int .i64 n] :: ol 39 xa xc (X2.set i (⟨a1, c1, ys⟩ : SLf)) :: H) (.one true 0 (.one true 1 (.one true 2 (.one true 3 (.one true 4 (.one true 6 (.one false 5 (.one false 7 (.one true 8 (.one false 9 .nil)))))))))) mixed (by kernel_rfl) ?_; refine sx ?_
      refine s_bsl ([] : List Lf) rfl rfl fun bq => ?_
      refine sx ?_
      refine s_app (ys := ys) ?_
      intro a2 c2
      refine sx ?_
      refine s_set1 (y := (⟨a2, c2, ys⟩ : SLf)) rfl rfl (by exact at_) rfl (by omega) ?_
      rw [List.nil_append]
      refine sx ?_
      refine s_again (i + 1, X2.set i (⟨a1, c1, ys⟩ : SLf), Y2.set i (⟨a2, c2, ys⟩ : SLf)) ⟨by simp only; omega, ⟨by simp only [List.length_set]; exact hX2, by simp only [List.length_set]; exact hY2, map_set2 hn2 rfl⟩, ?_⟩ (by simp only; omega) (he := ?_)
      · simp only
        intro u v hu hv
        rw [List.getElem?_set_ne (by omega)] at hv
        exact hd2 u v (by omega) hv
      · simp only
        refine Ent.cons (by exact rm) (Ent.cons (by exact rm) (Ent.cons (by exact rm) ?_))
        refine Ent.trans (H' := Row.ck 34 (⟨a1, c1, ys⟩ : SLf) :: fam 34 (X2.eraseIdx i) :: fam 34 Y2 :: Row.ck 34 (⟨a2, c2, ys⟩ : SLf) :: ol 47 qa qc Q2 :: ol 47 pa pc P2 :: fam 3 P2 :: fam 3 Q2 :: H) ?_ (fam_two_put hil ht)
        refine Ent.cons (by exact rm) (Ent.cons (by exact rm) (Ent.cons (by exact rm) (Ent.cons (by exact rm) (by exact ent))))
  obtain rfl : i = x.length := by omega
  refine sx ?_
  clear hi t1 hd2 hn1 hd1
  refine s_loop (fun m : Nat => [(0, .pointer (some ⟨W, 0, none⟩)), (15, .int .i64 m)]) (fun _ => .hb W 30 [.slice la (ls.map DL.pd).length lc, .slice ra (ls.map DL.pr).length rc, .slice pa p.length pc, .slice qa q.length qc, .slice xa x.length xc, .slice ya y.length yc, .int .i64 n] :: ol 47 qa qc Q2 :: ol 47 pa pc P2 :: fam 3 P2 :: fam 3 Q2 :: ol 39 ya yc Y2 :: ol 39 xa xc X2 :: fam 34 X2 :: fam 34 Y2 :: H) (fun _ => True) (fun m => p.length - m) 0 trivial ?_ (he := Ent.head (Ent.perm (by have h := (List.perm_append_comm (l₁ := [ol 39 ya yc Y2, ol 39 xa xc X2, fam 34 X2, fam 34 Y2]) (l₂ := [ol 47 qa qc Q2, ol 47 pa pc P2, fam 3 P2, fam 3 Q2])).append_right H; simpa only [List.cons_append, List.nil_append] using h)))
  rintro i -
  refine sx ?_
  refine s_if rfl (fun t1 => ?_) (fun t1 => ?_)
  · have hm := hm2
    obtain ⟨s, hs⟩ := get_lt P2 i (by omega)
    obtain ⟨t, ht⟩ := get_lt Q2 i (by omega)
    have hst : s.xs = t.xs := by
      have h1 := congrArg (·[i]?) hm
      simp only [List.getElem?_map, hs, ht, Option.map_some, Option.some.injEq] at h1
      exact h1
    refine sx ?_; refine s_dr (.one true 0 (.one true 1 (.one true 2 (.one true 3 (.one true 4 (.one true 5 (.one true 6 (.one true 7 (.one true 8 (.one true 9 (.one true 10 (.one true 11 (.one true 12 (.one true 13 (.one false 14 (.one true 15 .nil)))))))))))))))) mixed (by kernel_rfl) ?_; refine sx ?_
    refine s_callV rfl (sameI_s (xs := s.xs) (ys := t.xs) (by repeat (first | exact fam_sl (List.mem_of_getElem? hs) | apply RSl.tl)) (by repeat (first | exact fam_sl (List.mem_of_getElem? ht) | apply RSl.tl))) ?_
    rw [decide_eq_true hst]
    refine sx ?_
    exact s_again (i + 1) trivial (by omega)
  refine sx ?_
  refine s_loop (fun m : Nat => [(0, .pointer (some ⟨W, 0, none⟩)), (17, .int .i64 m)]) (fun _ => .hb W 30 [.slice la (ls.map DL.pd).length lc, .slice ra (ls.map DL.pr).length rc, .slice pa p.length pc, .slice qa q.length qc, .slice xa x.length xc, .slice ya y.length yc, .int .i64 n] :: ol 39 ya yc Y2 :: ol 39 xa xc X2 :: fam 34 X2 :: fam 34 Y2 :: ol 47 qa qc Q2 :: ol 47 pa pc P2 :: fam 3 P2 :: fam 3 Q2 :: H) (fun _ => True) (fun m => x.length - m) 0 trivial ?_ (he := Ent.head (Ent.perm (by have h := (List.perm_append_comm (l₁ := [ol 47 qa qc Q2, ol 47 pa pc P2, fam 3 P2, fam 3 Q2]) (l₂ := [ol 39 ya yc Y2, ol 39 xa xc X2, fam 34 X2, fam 34 Y2])).append_right H; simpa only [List.cons_append, List.nil_append] using h)))
  rintro i -
  refine sx ?_
  refine s_if rfl (fun t1 => ?_) (fun t1 => ?_)
  · have hm := hn2
    obtain ⟨s, hs⟩ := get_lt X2 i (by omega)
    obtain ⟨t, ht⟩ := get_lt Y2 i (by omega)
    have hst : s.xs = t.xs := by
      have h1 := congrArg (·[i]?) hm
      simp only [List.getElem?_map, hs, ht, Option.map_some, Option.some.injEq] at h1
      exact h1
    refine sx ?_; refine s_dr (.one true 0 (.one true 1 (.one true 2 (.one true 3 (.one true 4 (.one true 5 (.one true 6 (.one true 7 (.one true 8 (.one true 9 (.one true 10 (.one true 11 (.one true 12 (.one true 13 (.one false 14 (.one true 15 .nil)))))))))))))))) mixed (by kernel_rfl) ?_; refine sx ?_
    refine s_callV rfl (sameL_s (xs := s.xs) (ys := t.xs) (by repeat (first | exact fam_sl (List.mem_of_getElem? hs) | apply RSl.tl)) (by repeat (first | exact fam_sl (List.mem_of_getElem? ht) | apply RSl.tl))) ?_
    rw [decide_eq_true hst]
    refine sx ?_
    exact s_again (i + 1) trivial (by omega)
  refine sx ?_
  exact s_ret1 rfl rfl ⟨rfl, rfl⟩ (he := Ent.tl (Ent.tl (Ent.tl (Ent.tl (Ent.tl (Ent.tl (Ent.tl (Ent.tl (Ent.tl Ent.refl)))))))))
end Go.Sx
