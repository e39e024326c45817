/- Part of a proof: ranges that are lent; a range that came out is kept. -/
import Derived.Test.YtfhbkhhfcjmnhaaCOQ
namespace Go.Sx
open Go Go.Proofs
set_option maxRecDepth 10000
variable {w0 : World} {H : List Ck}
/-- A range whose bytes have marks behind them. -/
abbrev lR (r : Rg) : Ck := .star [ob r.la r.lc (lm r.lo), ob r.ha r.hc (lm r.hi)]
abbrev Lq (r : Rg) : Prop := r.lo.length ≤ 140737488351232 ∧ r.hi.length ≤ 140737488351232
theorem lR_rrg {r : Rg} : RRg w0 (lR r :: H) r := ⟨RBy.ent lm_by (Ent.mem' (c := ob r.la r.lc (lm r.lo)) (by simp)), RBy.ent lm_by (Ent.mem' (c := ob r.ha r.hc (lm r.hi)) (by simp))⟩
theorem lentR_s {r : Rg} (hr : RRg w0 H r) (hl : Lq r) : FnS Try.prog w0 H 12 #[.agg r.cells.toArray] (fun v H' => ∃ x : Rg, v = .agg x.cells.toArray ∧ x.d = r.d ∧ H' = lR x :: H) := by
  have h1 := hr.lo
  have h2 := hr.hi
  obtain ⟨la, lc, lo, ha, hc, hi, all⟩ := r
  simp only at h1 h2 hl
  refine fns_enter Try.func12 rfl rfl rfl ?_
  refine sx ?_
  refine s_boxA rfl fun b1 => ?_
  refine sx ?_
  refine s_alloc fun b2 => ?_
  refine sx ?_; refine s_drR (.hb b2 26 [.slice none 0 0, .slice none 0 0, .bool false]) (by exact rm) (.one true 0 (.one true 1 (.one true 3 (.one true 4 (.one true 6 (.one true 7 (.one false 2 (.one false 5 (.one true 8 (.one false 9 .nil)))))))))) mixed (by kernel_rfl) ?_; refine sx ?_
  refine s_call rfl (lent_s (xs := lo) h1.tl.tl hl.1) ?_
  rintro _ _ ⟨a1, c1, rfl, rfl⟩
  refine ⟨chk_held (by exact ent), ?_⟩
  refine sx ?_
  refine s_call rfl (lent_s (xs := hi) h2.tl.tl.tl hl.2) ?_
  rintro _ _ ⟨a2, c2, rfl, rfl⟩
  refine ⟨chk_held (by exact ent), ?_⟩
  refine sx ?_
  refine s_retc rfl rfl (by exact at_) rfl ⟨⟨a1, c1, lo, a2, c2, hi, all⟩, rfl, rfl, rfl⟩ ?_
  refine Ent.star ?_
  exact Ent.cons (by exact rm) (Ent.cons (by exact rm) (by exact ent))
theorem turnedR_s {r : Rg} (hr : RRg w0 H r) (hl : Lq r) : FnS Try.prog w0 H 13 #[.agg r.cells.toArray] (fun v H' => ∃ x : Rg, v = .agg x.cells.toArray ∧ x.d = (r.lo.map fl, r.hi.map fl, r.all) ∧ H' = lR x :: H) := by
  have h1 := hr.lo
  have h2 := hr.hi
  obtain ⟨la, lc, lo, ha, hc, hi, all⟩ := r
  simp only at h1 h2 hl
  refine fns_enter Try.func13 rfl rfl rfl ?_
  refine sx ?_
  refine s_boxA rfl fun b1 => ?_
  refine sx ?_
  refine s_alloc fun b2 => ?_
  refine sx ?_; refine s_drR (.hb b2 26 [.slice none 0 0, .slice none 0 0, .bool false]) (by exact rm) (.one true 0 (.one true 1 (.one true 3 (.one true 4 (.one true 6 (.one true 7 (.one false 2 (.one false 5 (.one true 8 (.one false 9 .nil)))))))))) mixed (by kernel_rfl) ?_; refine sx ?_
  refine s_call rfl (turned_s (xs := lo) h1.tl.tl hl.1) ?_
  rintro _ _ ⟨a1, c1, rfl, rfl⟩
  refine ⟨chk_held (by exact ent), ?_⟩
  refine sx ?_
  refine s_call rfl (turned_s (xs := hi) h2.tl.tl.tl hl.2) ?_
  rintro _ _ ⟨a2, c2, rfl, rfl⟩
  refine ⟨chk_held (by exact ent), ?_⟩
  refine sx ?_
  refine s_retc rfl rfl (by exact at_) rfl ⟨⟨a1, c1, lo.map fl, a2, c2, hi.map fl, all⟩, rfl, rfl, rfl⟩ ?_
  refine Ent.star ?_
  exact Ent.cons (by exact rm) (Ent.cons (by exact rm) (by exact ent))
theorem keptR_s {x r : Rg} (hr : RRg w0 H r) (h : x.d = r.d) : FnS Try.prog w0 (lR x :: H) 17 #[.agg x.cells.toArray, .agg r.cells.toArray] (fun v H' => v = .bool true ∧ H' = lR { x with lo := x.lo.map fl, hi := x.hi.map fl } :: H) := by
  have h1 := hr.lo
  have h2 := hr.hi
  obtain ⟨la, lc, lo, ha, hc, hi, all⟩ := r
  obtain ⟨xa, xc, xlo, ya, yc, xhi, xall⟩ := x
  simp only [Rg.d, Prod.mk.injEq] at h
  obtain ⟨rfl, rfl, rfl⟩ := h
  simp only at h1 h2
  refine fns_enter Try.func17 rfl rfl rfl ?_
  refine s_ent (ob xa xc (lm xlo) :: ob ya yc (lm xhi) :: H) (Ent.open Ent.refl) ?_
  refine sx ?_
  refine s_boxA rfl fun b1 => ?_
  refine sx ?_
  refine s_boxA rfl fun b2 => ?_
  refine sx ?_
  refine s_entL (ob xa xc (lm xlo) :: ob ya yc (lm xhi) :: .hb b2 26 (Rg.cells ⟨la, lc, xlo, ha, hc, xhi, xall⟩) :: .hb b1 26 (Rg.cells ⟨xa, xc, xlo, ya, yc, xhi, xall⟩) :: H) (by exact ent) ?_
  refine s_call rfl (kept_s (xs := xlo) (a' := xa) (c' := xc) h1.tl.tl.tl) ?_
  rintro _ _ ⟨rfl, rfl⟩
  refine ⟨chk_seq, ?_⟩
  refine sx ?_
  refine s_entL (ob ya yc (lm xhi) :: ob xa xc (lm (xlo.map fl)) :: .hb b2 26 (Rg.cells ⟨la, lc, xlo, ha, hc, xhi, xall⟩) :: .hb b1 26 (Rg.cells ⟨xa, xc, xlo, ya, yc, xhi, xall⟩) :: H) (by exact ent) ?_
  refine s_call rfl (kept_s (xs := xhi) (a' := ya) (c' := yc) h2.tl.tl.tl) ?_
  rintro _ _ ⟨rfl, rfl⟩
  refine ⟨chk_seq, ?_⟩
  refine sx ?_
  refine s_ret1 rfl rfl ⟨rfl, rfl⟩ ?_
  refine Ent.star ?_
  exact Ent.cons (by exact rm) (Ent.cons (by exact rm) (by exact ent))
end Go.Sx
