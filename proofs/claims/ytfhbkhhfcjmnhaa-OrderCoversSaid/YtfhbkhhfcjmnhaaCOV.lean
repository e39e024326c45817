/- Part of a proof: OrderRanges, walked. -/
import Derived.Test.YtfhbkhhfcjmnhaaCOU
namespace Go.Sx
open Go Go.Proofs
set_option maxRecDepth 10000
variable {w0 : World} {H : List Ck}
theorem dq_me {a b : T3} (h1 : Dq a) (h2 : Dq b) : Dq (meR a b) := by
  unfold meR
  split
  · exact ⟨Nat.zero_le _, Nat.zero_le _⟩
  refine dq_fo ?_
  refine ⟨?_, ?_⟩
  · simp only
    split
    · exact h2.1
    · exact h1.1
  · simp only
    repeat' split
    all_goals first | exact h1.2 | exact h2.2 | exact Nat.zero_le _
theorem dq_mi {a b : T3} (h1 : Dq a) (h2 : Dq b) : Dq (miR a b).1 ∧ Dq (miR a b).2 := by
  unfold miR
  split
  · exact ⟨dq_fo h1, ⟨Nat.zero_le _, Nat.zero_le _⟩⟩
  · refine ⟨dq_me h1 ⟨Nat.zero_le _, h2.1⟩, ?_⟩
    simp only
    split
    · exact ⟨Nat.zero_le _, Nat.zero_le _⟩
    · exact dq_me h1 ⟨h2.2, Nat.zero_le _⟩
theorem fl_d {x r : Rg} (h : x.d = r.d) : (({ x with lo := x.lo.map fl, hi := x.hi.map fl } : Rg)).d = (r.lo.map fl, r.hi.map fl, r.all) := by
  obtain ⟨xa, xc, xlo, ya, yc, xhi, xall⟩ := x
  simp only [Rg.d, Prod.mk.injEq] at h ⊢
  exact ⟨by rw [h.1], by rw [h.2.1], h.2.2⟩
theorem fl_cells {x : Rg} : (Value.agg x.cells.toArray) = .agg (({ x with lo := x.lo.map fl, hi := x.hi.map fl } : Rg)).cells.toArray := by simp [Rg.cells]
abbrev flR (r : Rg) : Rg := { r with lo := r.lo.map fl, hi := r.hi.map fl }
set_option maxHeartbeats 2000000 in
theorem oranges_s {r q : Rg} {key : Bs} {a : Option Addr} {c : Nat} (hr : RRg w0 H r) (hq : RRg w0 H q) (hk : RBy w0 H a c key) (lr : Lq r) (lq : Lq q) (lk : key.length ≤ 140737488351232) : FnV Try.prog w0 H 9 #[.agg r.cells.toArray, .agg q.cells.toArray, .slice a key.length c] (.bool true) := by
  refine fns_enter Try.func9 rfl rfl rfl ?_
  refine sx ?_
  refine s_boxA rfl fun b3 => ?_
  refine sx ?_
  refine s_boxA rfl fun b4 => ?_
  refine sx ?_
  refine s_callV rfl awake_s ?_
  refine sx ?_
  refine s_boxA (cs := [vn0, vn0, vn0, vn0]) rfl fun b8 => ?_
  refine sx ?_
  refine s_call rfl (lentR_s (r := r) (by exact rrg) lr) ?_
  rintro _ _ ⟨x, rfl, ex, rfl⟩
  refine ⟨chk_seq, ?_⟩
  refine sx ?_
  refine s_alloc fun b9 => ?_
  refine sx ?_
  refine s_call rfl (lentR_s (r := q) (by exact rrg) lq) ?_
  rintro _ _ ⟨y, rfl, ey, rfl⟩
  refine ⟨chk_seq, ?_⟩
  refine sx ?_
  refine s_alloc fun b10 => ?_
  refine sx ?_
  refine s_call rfl (lent_s (xs := key) (by exact rby) lk) ?_
  rintro _ _ ⟨ka, kc, rfl, rfl⟩
  refine ⟨chk_seq, ?_⟩
  have lx : Lq x := lq_d ex lr
  have ly : Lq y := lq_d ey lq
  have dm : Dq (meR x.d y.d) := dq_me lx ly
  obtain ⟨d1, d2⟩ := dq_mi (a := x.d) (b := y.d) lx ly
  have xr : ∀ H0, RRg w0 (lR x :: H0) x := fun H0 => lR_rrg
  have yr : ∀ H0, RRg w0 (lR y :: H0) y := fun H0 => lR_rrg
  refine sx ?_
  refine s_entL ((ob0 b8).ck :: lR x :: lR y :: ob ka kc (lm key) :: .hb b10 26 y.cells :: .hb b9 26 x.cells :: .hb b4 26 q.cells :: .hb b3 26 r.cells :: H) (Ent.trans (H' := .hb b8 34 [vn0, vn0, vn0, vn0] :: lR x :: lR y :: ob ka kc (lm key) :: .hb b10 26 y.cells :: .hb b9 26 x.cells :: .hb b4 26 q.cells :: .hb b3 26 r.cells :: H) (Ent.cons (by exact rm) (Ent.cons (by exact rm) (Ent.cons (by exact rm) (Ent.cons (by exact rm) (Ent.cons (by exact rm) (Ent.cons (by exact rm) Ent.refl)))))) ob0_ent) ?_
  have k1 := ranges_s (w0 := w0) (B := ob0 b8) (n := 0) (H := lR x :: lR y :: ob ka kc (lm key) :: .hb b10 26 y.cells :: .hb b9 26 x.cells :: .hb b4 26 q.cells :: .hb b3 26 r.cells :: H) (x := x) (y := y) (u := r) (v := q) (key := key) (a := ka) (c := kc) (a' := a) (c' := c) (ob0_ok b8) (by omega) (xr _) (yr _).tl lm_by.tl.tl (by exact rrg) (by exact rrg) (by exact rby) ex ey lx ly lr lq dm d1 d2
  refine s_call rfl k1 ?_
  rintro _ _ ⟨rfl, B1, rfl, e1, p1, q1, ok1⟩
  refine ⟨chk_seq, ?_⟩
  refine sx ?_
  have k2 := ranges_s (w0 := w0) (B := B1) (n := 0 + 6) (H := lR x :: lR y :: ob ka kc (lm key) :: .hb b10 26 y.cells :: .hb b9 26 x.cells :: .hb b4 26 q.cells :: .hb b3 26 r.cells :: H) (x := x) (y := y) (u := r) (v := q) (key := key) (a := ka) (c := kc) (a' := a) (c' := c) ok1 (by omega) (xr _) (yr _).tl lm_by.tl.tl (by exact rrg) (by exact rrg) (by exact rby) ex ey lx ly lr lq dm d1 d2
  rw [e1] at k2
  refine s_call rfl k2 ?_
  rintro _ _ ⟨rfl, B2, rfl, e2, p2, q2, ok2⟩
  refine ⟨chk_seq, ?_⟩
  refine sx ?_
  refine s_call rfl (FnS.ent (keptR_s (x := x) (r := r) (H := lR y :: ob ka kc (lm key) :: B2.ck :: .hb b10 26 y.cells :: .hb b9 26 x.cells :: .hb b4 26 q.cells :: .hb b3 26 r.cells :: H) (by exact rrg) ex) (Ent.cons (by exact rm) (Ent.cons (by exact rm) (Ent.cons (by exact rm) (Ent.cons (by exact rm) Ent.refl))))) ?_
  rintro _ _ ⟨rfl, rfl⟩
  refine ⟨chk_seq, ?_⟩
  refine sx ?_
  refine s_call rfl (FnS.ent (keptR_s (x := y) (r := q) (H := lR (flR x) :: ob ka kc (lm key) :: B2.ck :: .hb b10 26 y.cells :: .hb b9 26 x.cells :: .hb b4 26 q.cells :: .hb b3 26 r.cells :: H) (by exact rrg) ey) (Ent.cons (by exact rm) (Ent.cons (by exact rm) (Ent.cons (by exact rm) (Ent.cons (by exact rm) Ent.refl))))) ?_
  rintro _ _ ⟨rfl, rfl⟩
  refine ⟨chk_seq, ?_⟩
  refine sx ?_
  refine s_call rfl (FnS.ent (kept_s (xs := key) (a' := ka) (c' := kc) (H := lR (flR y) :: lR (flR x) :: B2.ck :: .hb b10 26 y.cells :: .hb b9 26 x.cells :: .hb b4 26 q.cells :: .hb b3 26 r.cells :: H) (by exact rby)) (Ent.cons (by exact rm) (Ent.cons (by exact rm) (Ent.cons (by exact rm) (Ent.cons (by exact rm) Ent.refl))))) ?_
  rintro _ _ ⟨rfl, rfl⟩
  refine ⟨chk_seq, ?_⟩
  refine sx ?_
  have fx := fl_d ex
  have fy := fl_d ey
  have lfx : Lq (flR x) := ⟨by show (x.lo.map fl).length ≤ _; rw [List.length_map]; exact lx.1, by show (x.hi.map fl).length ≤ _; rw [List.length_map]; exact lx.2⟩
  have lfy : Lq (flR y) := ⟨by show (y.lo.map fl).length ≤ _; rw [List.length_map]; exact ly.1, by show (y.hi.map fl).length ≤ _; rw [List.length_map]; exact ly.2⟩
  refine sx ?_; refine s_drR (B2.ck) (by exact rm) (.one true 0 (.one true 1 (.one true 2 (.one true 3 (.one true 4 (.one true 6 (.one true 8 (.one false 5 (.one false 7 (.one false 9 (.one false 10 (.one true 11 .nil)))))))))))) mixed (by kernel_rfl) ?_; refine sx ?_
  refine s_call rfl (turnedR_s (r := r) (by exact rrg) lr) ?_
  rintro _ _ ⟨tx, rfl, etx, rfl⟩
  refine ⟨chk_held (by exact ent), ?_⟩
  refine sx ?_
  refine s_call rfl (turnedR_s (r := q) (by exact rrg) lq) ?_
  rintro _ _ ⟨ty, rfl, ety, rfl⟩
  refine ⟨chk_held (by exact ent), ?_⟩
  refine sx ?_
  refine s_call rfl (turned_s (xs := key) (by exact rby) lk) ?_
  rintro _ _ ⟨ta, tc, rfl, rfl⟩
  refine ⟨chk_held (by exact ent), ?_⟩
  refine sx ?_
  refine s_rw (t := 54) rfl (fl_cells (x := x)) ?_
  refine s_rw (t := 55) rfl (fl_cells (x := y)) ?_
  refine s_rw (t := 56) (v' := .slice ka (key.map fl).length kc) rfl (by rw [List.length_map]) ?_
  obtain ⟨d3, d4⟩ := dq_mi (a := (flR x).d) (b := (flR y).d) lfx lfy
  have k3 := ranges_s (w0 := w0) (B := B2) (n := 0 + 6 + 6) (H := ob ta tc (lm (key.map fl)) :: lR ty :: lR tx :: ob ka kc (lm (key.map fl)) :: lR (flR y) :: lR (flR x) :: .hb b10 26 y.cells :: .hb b9 26 x.cells :: .hb b4 26 q.cells :: .hb b3 26 r.cells :: H) (x := flR x) (y := flR y) (u := tx) (v := ty) (key := key.map fl) (a := ka) (c := kc) (a' := ta) (c' := tc) ok2 (by omega) lR_rrg.tl.tl.tl.tl.tl lR_rrg.tl.tl.tl.tl lm_by.tl.tl.tl lR_rrg.tl.tl lR_rrg.tl lm_by (fx.trans etx.symm) (fy.trans ety.symm) lfx lfy (lq_d (etx.trans fx.symm) lfx) (lq_d (ety.trans fy.symm) lfy) (dq_me lfx lfy) d3 d4
  rw [e2, e1] at k3
  refine s_call rfl (FnS.ent k3 (Ent.cons (by exact rm) (Ent.cons (by exact rm) (Ent.cons (by exact rm) (Ent.cons (by exact rm) (Ent.cons (by exact rm) (Ent.cons (by exact rm) (Ent.cons (by exact rm) Ent.refl)))))))) ?_
  rintro _ _ ⟨rfl, B3, rfl, e3, p3, q3, ok3⟩
  refine ⟨chk_held (by exact ent), ?_⟩
  refine sx ?_
  obtain ⟨K, p, q', la, lc, ls, wa, wc, ws⟩ := B3
  have ek : K = b8 := e3.trans (e2.trans e1)
  have ep : p = vn0 := p3.trans (p2.trans p1)
  have eq : q' = vn0 := q3.trans (q2.trans q1)
  subst ek
  subst ep
  subst eq
  refine s_entL (.hb K 34 [vn0, vn0, .slice la ls.length lc, .slice wa ws.length wc] :: ol 24 la lc ls :: fam 5 ls :: ol 9 wa wc ws :: H) (Ob.open.trans (Ent.head (Ent.head (Ent.cons (by exact rm) (Ent.cons (by exact rm) (Ent.tl (Ent.tl (Ent.tl (Ent.tl (Ent.tl (Ent.tl (Ent.tl (Ent.tl (Ent.tl (Ent.tl Ent.refl))))))))))))))) ?_
  have hlen := ok3.len
  refine s_call rfl (lends0_s (by simp only at hlen; omega) ok3.small ok3.same) ?_
  rintro _ _ ⟨rfl, rfl⟩
  refine ⟨chk_seq, ?_⟩
  refine sx ?_
  exact s_ret1 rfl rfl ⟨rfl, rfl⟩
end Go.Sx
