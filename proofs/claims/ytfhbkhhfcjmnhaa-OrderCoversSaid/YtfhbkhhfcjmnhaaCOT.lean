/- Part of a proof: a range that came out is kept. -/
import Derived.Test.YtfhbkhhfcjmnhaaCOS
namespace Go.Sx
open Go Go.Proofs
set_option maxRecDepth 10000
variable {w0 : World} {H : List Ck}
theorem range1_s {B : Ob} {n : Nat} {r q : Rg} (hB : B.Ok n) (hn : n ≤ 900) (hq : RRg w0 H q) (he : r.d = q.d) (hl : Lq r) :
    FnS Try.prog w0 (oR r :: B.ck :: H) 41 #[.pointer (some ⟨B.k, 0, none⟩), .agg r.cells.toArray, .agg q.cells.toArray] (KeysR B (n + 2) H) := by
  have h3 := hq.lo
  have h4 := hq.hi
  obtain ⟨la, lc, lo, ha, hc, hi, all⟩ := r
  obtain ⟨qa, qc, qlo, qha, qhc, qhi, qall⟩ := q
  simp only [Rg.d, Prod.mk.injEq] at he
  obtain ⟨rfl, rfl, rfl⟩ := he
  simp only at h3 h4 hl
  obtain ⟨hl1, hl2⟩ := hl
  simp only at hl1 hl2
  refine fns_enter Try.func41 rfl rfl rfl ?_
  refine s_ent (ob la lc lo :: ob ha hc hi :: B.ck :: H) (Ent.open Ent.refl) ?_
  refine sx ?_
  refine s_boxA rfl fun b4 => ?_
  refine sx ?_
  refine s_boxA rfl fun b5 => ?_
  refine sx ?_; refine s_drH (.hb b5 26 (Rg.cells ⟨qa, qc, lo, qha, qhc, hi, all⟩) :: .hb b4 26 (Rg.cells ⟨la, lc, lo, ha, hc, hi, all⟩) :: H) (.one true 0 (.one true 1 (.one true 2 (.one true 3 (.one true 4 (.one true 5 (.one true 6 (.one false 7 .nil)))))))) mixed (by kernel_rfl) ?_; refine sx ?_
  refine s_entL (ob la lc lo :: B.ck :: .hb b5 26 (Rg.cells ⟨qa, qc, lo, qha, qhc, hi, all⟩) :: .hb b4 26 (Rg.cells ⟨la, lc, lo, ha, hc, hi, all⟩) :: ob ha hc hi :: H) (by exact ent) ?_
  have g1 := holdB_s (w0 := w0) (B := B) (n := n) (H := .hb b5 26 (Rg.cells ⟨qa, qc, lo, qha, qhc, hi, all⟩) :: .hb b4 26 (Rg.cells ⟨la, lc, lo, ha, hc, hi, all⟩) :: ob ha hc hi :: H) (a := la) (c := lc) (a2 := qa) (c2 := qc) (xs := lo) hB (by omega) (by omega) h3.tl.tl.tl
  refine s_call rfl g1 ?_
  rintro _ _ ⟨B1, rfl, k1, p1, q1, ok1, _, m1⟩
  refine ⟨chk_held (by exact ent), ?_⟩
  refine sx ?_
  refine sx ?_; refine s_drH (.hb b5 26 (Rg.cells ⟨qa, qc, lo, qha, qhc, hi, all⟩) :: .hb b4 26 (Rg.cells ⟨la, lc, lo, ha, hc, hi, all⟩) :: H) (.one true 0 (.one true 1 (.one true 2 (.one true 3 (.one true 4 (.one true 5 (.one true 6 (.one false 7 .nil)))))))) mixed (by kernel_rfl) ?_; refine sx ?_
  refine s_entL (ob ha hc hi :: B1.ck :: .hb b5 26 (Rg.cells ⟨qa, qc, lo, qha, qhc, hi, all⟩) :: .hb b4 26 (Rg.cells ⟨la, lc, lo, ha, hc, hi, all⟩) :: H) (by exact ent) ?_
  have g2 := holdB_s (w0 := w0) (B := B1) (n := n + 1) (H := .hb b5 26 (Rg.cells ⟨qa, qc, lo, qha, qhc, hi, all⟩) :: .hb b4 26 (Rg.cells ⟨la, lc, lo, ha, hc, hi, all⟩) :: H) (a := ha) (c := hc) (a2 := qha) (c2 := qhc) (xs := hi) ok1 (by omega) (by omega) h4.tl.tl
  rw [k1] at g2
  refine s_call rfl g2 ?_
  rintro _ _ ⟨B2, rfl, k2, p2, q2, ok2, in2, m2⟩
  refine ⟨chk_held (by exact ent), ?_⟩
  refine sx ?_
  refine s_callV rfl (lsame_s (r := ⟨la, lc, lo, ha, hc, hi, all⟩) (q := ⟨qa, qc, lo, qha, qhc, hi, all⟩) ⟨ob_by (in2 _ m1), ob_by m2⟩ ⟨h3.tl.tl.tl, h4.tl.tl.tl⟩) ?_
  rw [decide_eq_true rfl]
  refine sx ?_
  refine s_ret1 rfl rfl ⟨rfl, B2, rfl, by rw [k2, k1], by rw [p2, p1], by rw [q2, q1], ok2⟩ ?_
  exact Ent.head (Ent.tl (Ent.tl Ent.refl))
end Go.Sx
