/- Part of a proof: what is asked of two ranges and a key. -/
import Derived.Test.YtfhbkhhfcjmnhaaCOT
namespace Go.Sx
open Go Go.Proofs
set_option maxRecDepth 10000
variable {w0 : World} {H : List Ck}
theorem lq_lr {r : Rg} (h : Lq r) : Lr r := ⟨by have := h.1; omega, by have := h.2; omega⟩
theorem lq_d {r : Rg} {d : T3} (h : r.d = d) (h1 : d.1.length ≤ 140737488351232 ∧ d.2.1.length ≤ 140737488351232) : Lq r := by
  subst h
  exact h1
abbrev Dq (d : T3) : Prop := d.1.length ≤ 140737488351232 ∧ d.2.1.length ≤ 140737488351232
theorem dq_fo {d : T3} (h : Dq d) : Dq (foR d) := by
  unfold foR
  split
  · exact ⟨Nat.zero_le _, Nat.zero_le _⟩
  split
  · exact ⟨h.1, Nat.zero_le _⟩
  · exact h
set_option maxHeartbeats 2000000 in
theorem ranges_s {B : Ob} {n : Nat} {x y u v : Rg} {key : Bs} {a a' : Option Addr} {c c' : Nat} (hB : B.Ok n) (hn : n ≤ 800) (hx : RRg w0 H x) (hy : RRg w0 H y) (hk : RBy w0 H a c key) (hu : RRg w0 H u) (hv : RRg w0 H v) (hk' : RBy w0 H a' c' key)
    (e1 : x.d = u.d) (e2 : y.d = v.d) (lx : Lq x) (ly : Lq y) (lu : Lq u) (lv : Lq v) (dm : Dq (meR x.d y.d)) (d1 : Dq (miR x.d y.d).1) (d2 : Dq (miR x.d y.d).2) :
    FnS Try.prog w0 (B.ck :: H) 31 #[.pointer (some ⟨B.k, 0, none⟩), .agg x.cells.toArray, .agg y.cells.toArray, .slice a key.length c, .agg u.cells.toArray, .agg v.cells.toArray, .slice a' key.length c'] (KeysR B (n + 6) H) := by
  have lx := lq_lr lx
  have ly := lq_lr ly
  have lu := lq_lr lu
  have lv := lq_lr lv
  refine fns_enter Try.func31 rfl rfl rfl ?_
  refine sx ?_
  refine s_boxA rfl fun b8 => ?_
  refine sx ?_
  refine s_boxA rfl fun b9 => ?_
  refine sx ?_
  refine s_boxA rfl fun b11 => ?_
  refine sx ?_
  refine s_boxA rfl fun b12 => ?_
  refine sx ?_
  refine s_call rfl (omeet_s (r := x) (q := y) (by exact rrg) (by exact rrg) lx ly) ?_
  rintro _ _ ⟨m, rfl, hm, rfl⟩
  refine ⟨chk_seq, ?_⟩
  refine sx ?_
  refine s_alloc fun b15 => ?_
  refine sx ?_
  refine s_call rfl (qmeet_s (r := u) (q := v) (by exact rrg) (by exact rrg) lu lv) ?_
  rintro _ _ ⟨m', rfl, hm', rfl⟩
  refine ⟨chk_seq, ?_⟩
  refine sx ?_
  refine s_alloc fun b16 => ?_
  refine sx ?_
  refine s_call rfl (ominus_s (r := x) (q := y) (by exact rrg) (by exact rrg) lx ly) ?_
  rintro _ _ ⟨o, p, rfl, ho, hp, rfl⟩
  refine ⟨chk_seq, ?_⟩
  refine sx ?_
  refine s_alloc fun b17 => ?_
  refine sx ?_
  refine s_alloc fun b18 => ?_
  refine sx ?_
  refine s_call rfl (qminus_s (r := u) (q := v) (by exact rrg) (by exact rrg) lu lv) ?_
  rintro _ _ ⟨o', p', rfl, ho', hp', rfl⟩
  refine ⟨chk_seq, ?_⟩
  refine sx ?_
  refine s_alloc fun b19 => ?_
  refine sx ?_
  refine s_alloc fun b20 => ?_
  rw [← e1, ← e2] at hm' ho' hp'
  refine sx ?_
  refine s_call rfl (FnS.ent (range1_s (B := B) (r := m) (q := m') hB (by omega) ?_ (hm.trans hm'.symm) (lq_d hm dm)) (Ent.cons (by exact rm) (Ent.cons (by exact rm) Ent.refl))) ?_
  · exact rrg
  rintro _ _ ⟨rfl, B1, rfl, k1, p1, q1, ok1⟩
  refine ⟨chk_seq, ?_⟩
  refine sx ?_
  have g2 := fun R2 h => range1_s (w0 := w0) (H := R2) (B := B1) (r := o) (q := o') ok1 (by omega) h (ho.trans ho'.symm) (lq_d ho d1)
  rw [k1] at g2
  refine s_call rfl (FnS.ent (g2 _ ?_) (Ent.cons (by exact rm) (Ent.cons (by exact rm) Ent.refl))) ?_
  · exact rrg
  rintro _ _ ⟨rfl, B2, rfl, k2, p2, q2, ok2⟩
  refine ⟨chk_seq, ?_⟩
  refine sx ?_
  have g3 := fun R2 h => range1_s (w0 := w0) (H := R2) (B := B2) (r := p) (q := p') ok2 (by omega) h (hp.trans hp'.symm) (lq_d hp d2)
  rw [k2, k1] at g3
  refine s_call rfl (FnS.ent (g3 _ ?_) (Ent.cons (by exact rm) (Ent.cons (by exact rm) Ent.refl))) ?_
  · exact rrg
  rintro _ _ ⟨rfl, B3, rfl, k3, p3, q3, ok3⟩
  refine ⟨chk_seq, ?_⟩
  refine sx ?_
  refine sx ?_; refine s_dr (.one true 0 (.one true 1 (.one true 2 (.one true 3 (.one true 4 (.one true 5 (.one true 6 (.one true 7 (.one true 8 (.one true 10 (.one false 9 (.one false 11 (.one true 12 (.one true 13 (.one true 14 (.one true 15 (.one true 16 (.one true 18 (.one true 19 (.one false 17 (.one false 20 (.one true 21 (.one true 22 (.one true 23 (.one true 24 (.one true 25 (.one true 27 (.one true 28 (.one false 26 (.one false 29 (.one true 30 (.one true 31 (.one true 32 .nil))))))))))))))))))))))))))))))))) mixed (by kernel_rfl) ?_; refine sx ?_
  refine s_callV rfl (oempty_s (r := x) (by exact rrg)) ?_
  refine sx ?_
  refine s_callV rfl (qempty_s (r := u) (by exact rrg)) ?_
  rw [← e1]
  refine sx ?_
  refine s_gT rfl (by simp) ?_
  refine sx ?_
  refine s_callV rfl (ohas_s (r := x) (key := key) (by exact rrg) (by exact rby)) ?_
  refine sx ?_
  refine s_callV rfl (qhas_s (r := u) (key := key) (by exact rrg) (by exact rby)) ?_
  rw [← e1]
  refine sx ?_
  refine s_gT rfl (by simp) ?_
  refine sx ?_
  refine s_callV rfl (oinside_s (r := x) (q := y) (by exact rrg) (by exact rrg)) ?_
  refine sx ?_
  refine s_callV rfl (qinside_s (r := u) (q := v) (by exact rrg) (by exact rrg) lu lv) ?_
  rw [← e1, ← e2]
  refine sx ?_
  refine s_ret1 rfl rfl ⟨by simp, B3, rfl, by rw [k3, k2, k1], by rw [p3, p2, p1], by rw [q3, q2, q1], ok3⟩ ?_
  refine Ent.head ?_
  exact ent
end Go.Sx
