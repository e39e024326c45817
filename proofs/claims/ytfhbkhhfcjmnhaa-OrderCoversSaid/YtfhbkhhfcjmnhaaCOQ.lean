/- Part of a proof: OrderKeys, walked. -/
import Derived.Test.YtfhbkhhfcjmnhaaCOP
namespace Go.Sx
open Go Go.Proofs
set_option maxRecDepth 10000
variable {w0 : World} {H : List Ck}
theorem lm_by {xs : Bs} {a : Option Addr} {c : Nat} : RBy w0 (ob a c (lm xs) :: H) a c xs := by
  have := (RBy.hd (w0 := w0) (E := 5) (a := a) (c := c) (xs := lm xs) (H := H)).take (k := xs.length) (by simp)
  rwa [lm, List.take_left] at this
abbrev ob0 (k : Nat) : Ob := ⟨k, vn0, vn0, none, 0, [], none, 0, []⟩
theorem ob0_ok (k : Nat) : (ob0 k).Ok 0 := ⟨rfl, Nat.le_refl _, fun s h => by cases h⟩
theorem ob0_ent {k : Nat} : Ent (.hb k 34 [vn0, vn0, vn0, vn0] :: H) ((ob0 k).ck :: H) := by
  refine Ent.trans ?_ Ob.shut
  refine Ent.head ?_
  refine Ent.trans (H' := fam 5 ([] : List SB) :: H) fam_nil ?_
  refine Ent.trans (H' := ol 9 none 0 ([] : List St) :: fam 5 ([] : List SB) :: H) Ent.nilS ?_
  exact Ent.nilS
set_option maxHeartbeats 1000000 in
theorem okeys_s {xs ys : Bs} {a a' : Option Addr} {c c' : Nat} (ha : RBy w0 H a c xs) (hc : RBy w0 H a' c' ys) (hx : xs.length ≤ 140737488351232) (hy : ys.length ≤ 140737488351232) : FnV Try.prog w0 H 7 #[.slice a xs.length c, .slice a' ys.length c'] (.bool true) := by
  refine fns_enter Try.func7 rfl rfl rfl ?_
  refine sx ?_
  refine s_callV rfl awake_s ?_
  refine sx ?_
  refine s_boxA (cs := [vn0, vn0, vn0, vn0]) rfl fun b6 => ?_
  refine sx ?_
  refine s_call rfl (lent_s (xs := xs) (by exact rby) hx) ?_
  rintro _ _ ⟨a7, c7, rfl, rfl⟩
  refine ⟨chk_seq, ?_⟩
  refine sx ?_
  refine s_call rfl (lent_s (xs := ys) (by exact rby) hy) ?_
  rintro _ _ ⟨a8, c8, rfl, rfl⟩
  refine ⟨chk_seq, ?_⟩
  refine sx ?_
  refine s_entL ((ob0 b6).ck :: ob a8 c8 (lm ys) :: ob a7 c7 (lm xs) :: H) (Ent.trans (H' := .hb b6 34 [vn0, vn0, vn0, vn0] :: ob a8 c8 (lm ys) :: ob a7 c7 (lm xs) :: H) (by exact ent) ob0_ent) ?_
  have k1 := keys_s (w0 := w0) (B := ob0 b6) (n := 0) (H := ob a8 c8 (lm ys) :: ob a7 c7 (lm xs) :: H) (a1 := a7) (c1 := c7) (a2 := a8) (c2 := c8) (ob0_ok b6) (by omega) lm_by.tl lm_by ha.tl.tl hc.tl.tl hx hy
  refine s_call rfl k1 ?_
  rintro _ _ ⟨rfl, B1, rfl, e1, p1, q1, ok1⟩
  refine ⟨chk_seq, ?_⟩
  refine sx ?_
  have k2 := keys_s (w0 := w0) (B := B1) (n := 0 + 2) (H := ob a8 c8 (lm ys) :: ob a7 c7 (lm xs) :: H) (a1 := a7) (c1 := c7) (a2 := a8) (c2 := c8) ok1 (by omega) lm_by.tl lm_by ha.tl.tl hc.tl.tl hx hy
  rw [e1] at k2
  refine s_call rfl k2 ?_
  rintro _ _ ⟨rfl, B2, rfl, e2, p2, q2, ok2⟩
  refine ⟨chk_seq, ?_⟩
  refine sx ?_
  refine s_entL (ob a7 c7 (lm xs) :: ob a8 c8 (lm ys) :: B2.ck :: H) (Ent.cons (by exact rm) (Ent.cons (by exact rm) (Ent.cons (by exact rm) Ent.refl))) ?_
  refine s_call rfl (kept_s (xs := xs) (H := ob a8 c8 (lm ys) :: B2.ck :: H) (a' := a7) (c' := c7) ha.tl.tl) ?_
  rintro _ _ ⟨rfl, rfl⟩
  refine ⟨chk_seq, ?_⟩
  refine sx ?_
  refine s_entL (ob a8 c8 (lm ys) :: ob a7 c7 (lm (xs.map fl)) :: B2.ck :: H) (Ent.cons (by exact rm) (Ent.cons (by exact rm) (Ent.cons (by exact rm) Ent.refl))) ?_
  refine s_call rfl (kept_s (xs := ys) (H := ob a7 c7 (lm (xs.map fl)) :: B2.ck :: H) (a' := a8) (c' := c8) hc.tl.tl) ?_
  rintro _ _ ⟨rfl, rfl⟩
  refine ⟨chk_seq, ?_⟩
  refine sx ?_
  refine s_call rfl (turned_s (xs := xs) ha.tl.tl.tl hx) ?_
  rintro _ _ ⟨ax, cx, rfl, rfl⟩
  refine ⟨chk_seq, ?_⟩
  refine sx ?_
  refine s_call rfl (turned_s (xs := ys) hc.tl.tl.tl.tl hy) ?_
  rintro _ _ ⟨ay, cy, rfl, rfl⟩
  refine ⟨chk_seq, ?_⟩
  refine sx ?_
  refine s_rw (t := 41) (v' := .slice a7 (xs.map fl).length c7) rfl (by rw [List.length_map]) ?_
  refine s_rw (t := 42) (v' := .slice a8 (ys.map fl).length c8) rfl (by rw [List.length_map]) ?_
  refine s_entL (B2.ck :: ob ay cy (lm (ys.map fl)) :: ob ax cx (lm (xs.map fl)) :: ob a8 c8 (lm (ys.map fl)) :: ob a7 c7 (lm (xs.map fl)) :: H) (Ent.cons (by exact rm) (Ent.cons (by exact rm) (Ent.cons (by exact rm) (Ent.cons (by exact rm) (Ent.cons (by exact rm) Ent.refl))))) ?_
  have k3 := keys_s (w0 := w0) (B := B2) (n := 0 + 2 + 2) (xs := xs.map fl) (ys := ys.map fl) (H := ob ay cy (lm (ys.map fl)) :: ob ax cx (lm (xs.map fl)) :: ob a8 c8 (lm (ys.map fl)) :: ob a7 c7 (lm (xs.map fl)) :: H) (a1 := a7) (c1 := c7) (a2 := a8) (c2 := c8) (a3 := ax) (c3 := cx) (a4 := ay) (c4 := cy) ok2 (by omega) lm_by.tl.tl.tl lm_by.tl.tl lm_by.tl lm_by (by rw [List.length_map]; exact hx) (by rw [List.length_map]; exact hy)
  rw [e2, e1] at k3
  refine s_call rfl k3 ?_
  rintro _ _ ⟨rfl, B3, rfl, e3, p3, q3, ok3⟩
  refine ⟨chk_seq, ?_⟩
  refine sx ?_
  obtain ⟨K, p, q, la, lc, ls, wa, wc, ws⟩ := B3
  have ek : K = b6 := e3.trans (e2.trans e1)
  have ep : p = vn0 := p3.trans (p2.trans p1)
  have eq : q = vn0 := q3.trans (q2.trans q1)
  subst ek
  subst ep
  subst eq
  refine s_entL (.hb K 34 [vn0, vn0, .slice la ls.length lc, .slice wa ws.length wc] :: ol 24 la lc ls :: fam 5 ls :: ol 9 wa wc ws :: H) (Ob.open.trans (Ent.head (Ent.head (Ent.cons (by exact rm) (Ent.cons (by exact rm) (Ent.tl (Ent.tl (Ent.tl (Ent.tl Ent.refl))))))))) ?_
  have hlen := ok3.len
  refine s_call rfl (lends0_s (by simp only at hlen; omega) ok3.small ok3.same) ?_
  rintro _ _ ⟨rfl, rfl⟩
  refine ⟨chk_seq, ?_⟩
  refine sx ?_
  exact s_ret1 rfl rfl ⟨rfl, rfl⟩
end Go.Sx
