/- Part of a proof: ranges: Has, Inside, Minus, by the program and by the document, walked. -/
import Derived.Test.YtfhbkhhfcjmnhaaCOA
namespace Go.Sx
open Go Go.Proofs
set_option maxRecDepth 10000
variable {w0 : World} {H : List Ck}
abbrev Lr (r : Rg) : Prop := r.lo.length ≤ 140737488355328 ∧ r.hi.length ≤ 140737488355328
theorem ohas_s {r : Rg} {a : Option Addr} {c : Nat} {key : Bs} (hr : RRg w0 H r) (ha : RBy w0 H a c key) : FnV Try.prog w0 H 23 #[.agg r.cells.toArray, .slice a key.length c] (.bool (hasB r.d key)) := by
  have h1 := hr.lo
  have h2 := hr.hi
  obtain ⟨la, lc, lo, ha', hc, hi, all⟩ := r
  refine fns_enter Try.func23 rfl rfl rfl ?_
  refine sx ?_
  refine s_boxA rfl fun b => ?_
  refine sx ?_
  refine s_callV rfl (compare_s (xs := key) (ys := lo) (by exact rby) (by exact rby)) ?_
  refine sx ?_
  refine s_lif rfl (fun t1 => ?_) (fun t1 => ?_)
  · cases all
    · refine sx ?_
      refine s_callV rfl (compare_s (xs := key) (ys := hi) (by exact rby) (by exact rby)) ?_
      refine sx ?_
      exact s_ret1 rfl rfl ⟨by simp [hasB]; omega, rfl⟩
    · refine sx ?_
      exact s_ret1 rfl rfl ⟨by simp [hasB]; omega, rfl⟩
  · refine sx ?_
    exact s_ret1 rfl rfl ⟨by simp [hasB]; omega, rfl⟩
theorem oinside_s {r q : Rg} (hr : RRg w0 H r) (hq : RRg w0 H q) : FnV Try.prog w0 H 34 #[.agg r.cells.toArray, .agg q.cells.toArray] (.bool (inR r.d q.d)) := by
  have h1 := hr.lo
  have h3 := hq.lo
  refine fns_enter Try.func34 rfl rfl rfl ?_
  refine sx ?_
  refine s_boxA rfl fun b2 => ?_
  refine sx ?_
  refine s_boxA rfl fun b3 => ?_
  refine sx ?_
  refine s_callV rfl (oempty_s (r := r) (by exact rrg)) ?_
  refine sx ?_
  refine s_lsp rfl (fun t1 => ?_) (fun t1 => ?_)
  · refine sx ?_
    exact s_ret1 rfl rfl ⟨by simp [inR, t1], rfl⟩
  refine sx ?_
  refine s_callV rfl (oempty_s (r := q) (by exact rrg)) ?_
  refine sx ?_
  refine s_lsp rfl (fun t2 => ?_) (fun t2 => ?_)
  · refine sx ?_
    refine s_callV rfl (compare_s (xs := r.lo) (ys := q.lo) (by exact rby) (by exact rby)) ?_
    refine sx ?_
    refine s_lif rfl (fun t3 => ?_) (fun t3 => ?_)
    · refine sx ?_
      refine s_callV rfl (obelow_s (r := q) (q := r) (by exact rrg) (by exact rrg)) ?_
      refine sx ?_
      refine s_ret1 rfl rfl ⟨?_, rfl⟩
      have t2 : emR q.d = false := by simpa using t2
      simp [inR, t1, t2, t3]
    · refine sx ?_
      refine s_ret1 rfl rfl ⟨?_, rfl⟩
      simp [inR, t1, t3]
  · refine sx ?_
    refine s_ret1 rfl rfl ⟨?_, rfl⟩
    have t2 : emR q.d = true := by simpa using t2
    simp [inR, t1, t2]
theorem qsame_s {a a' : Option Addr} {c c' : Nat} {xs ys : Bs} (ha : RBy w0 H a c xs) (hb : RBy w0 H a' c' ys) : FnV Try.prog w0 H 75 #[.slice a xs.length c, .slice a' ys.length c'] (.bool (decide (xs = ys))) := by
  refine fns_enter Try.func75 rfl rfl rfl ?_
  refine sx ?_
  refine s_callV rfl (qcmp_s ha hb) ?_
  refine sx ?_
  exact s_ret1 rfl rfl ⟨by rw [decide_eq_decide.2 (cmp_eq xs ys)], rfl⟩
theorem qsameR_s {r q : Rg} (hr : RRg w0 H r) (hq : RRg w0 H q) : FnV Try.prog w0 H 63 #[.agg r.cells.toArray, .agg q.cells.toArray] (.bool (decide (r.d = q.d))) := by
  have h1 := hr.lo
  have h2 := hr.hi
  have h3 := hq.lo
  have h4 := hq.hi
  obtain ⟨la, lc, lo, ha, hc, hi, all⟩ := r
  obtain ⟨la', lc', lo', ha', hc', hi', all'⟩ := q
  refine fns_enter Try.func63 rfl rfl rfl ?_
  refine sx ?_
  refine s_boxA rfl fun b2 => ?_
  refine sx ?_
  refine s_boxA rfl fun b3 => ?_
  refine sx ?_
  refine s_callV rfl (qsame_s (xs := lo) (ys := lo') (by exact rby) (by exact rby)) ?_
  refine sx ?_
  refine s_callV rfl (qsame_s (xs := hi) (ys := hi') (by exact rby) (by exact rby)) ?_
  refine sx ?_
  refine s_lif rfl (fun t1 => ?_) (fun t1 => ?_)
  · refine sx ?_
    refine s_lif rfl (fun t2 => ?_) (fun t2 => ?_)
    · refine sx ?_
      refine s_ret1 rfl rfl ⟨?_, rfl⟩
      subst t1; subst t2
      cases all <;> cases all' <;> simp
    · refine sx ?_
      exact s_ret1 rfl rfl ⟨by simp [t2], rfl⟩
  · refine sx ?_
    exact s_ret1 rfl rfl ⟨by simp [t1], rfl⟩
theorem qinside_s {r q : Rg} (hr : RRg w0 H r) (hq : RRg w0 H q) (hl : Lr r) (hl' : Lr q) : FnV Try.prog w0 H 57 #[.agg r.cells.toArray, .agg q.cells.toArray] (.bool (inR r.d q.d)) := by
  refine fns_enter Try.func57 rfl rfl rfl ?_
  refine sx ?_
  refine s_boxA rfl fun b2 => ?_
  refine sx ?_
  refine s_boxA rfl fun b3 => ?_
  refine sx ?_
  refine s_call rfl (qmeet_s (r := r) (q := q) (by exact rrg) (by exact rrg) hl hl') ?_
  rintro _ _ ⟨x, rfl, hx, rfl⟩
  refine ⟨chk_seq, ?_⟩
  refine sx ?_
  refine s_alloc fun b5 => ?_
  refine sx ?_; refine s_dr (.one true 0 (.one true 1 (.one false 2 (.one false 3 (.one true 4 .nil))))) mixed (by kernel_rfl) ?_; refine sx ?_
  refine s_call rfl (qform_s (r := r) (by exact rrg) hl) ?_
  rintro _ _ ⟨y, rfl, hy, rfl⟩
  refine ⟨chk_held (by exact ent), ?_⟩
  refine sx ?_
  refine s_callV rfl (qsameR_s (r := x) (q := y) (by exact rrg) (by exact rrg)) ?_
  refine sx ?_
  refine s_ret1 rfl rfl ⟨?_, rfl⟩
  rw [hx, hy, Bool.eq_iff_iff.2 (by rw [decide_eq_true_eq]; exact me_in : decide (meR r.d q.d = foR r.d) = true ↔ inR r.d q.d = true)]
theorem ominus_s {r q : Rg} (hr : RRg w0 H r) (hq : RRg w0 H q) (hl : Lr r) (hl' : Lr q) : FnS Try.prog w0 H 33 #[.agg r.cells.toArray, .agg q.cells.toArray]
    (fun v H' => ∃ x y : Rg, v = .tuple #[.agg x.cells.toArray, .agg y.cells.toArray] ∧ x.d = (miR r.d q.d).1 ∧ y.d = (miR r.d q.d).2 ∧ H' = oR x :: oR y :: H) := by
  have h3 := hq.lo
  have h4 := hq.hi
  have hq' := hq
  obtain ⟨la, lc, lo, ha, hc, hi, all⟩ := q
  simp only at h3 h4
  refine fns_enter Try.func33 rfl rfl rfl ?_
  refine sx ?_
  refine s_boxA rfl fun b2 => ?_
  refine sx ?_
  refine s_boxA rfl fun b3 => ?_
  refine sx ?_
  refine s_alloc fun b4 => ?_
  refine sx ?_
  refine s_alloc fun b5 => ?_
  refine sx ?_
  refine s_callV rfl (oempty_s (r := ⟨la, lc, lo, ha, hc, hi, all⟩) (by exact rrg)) ?_
  refine sx ?_
  refine s_cond rfl (fun t1 => ?_) (fun t1 => ?_)
  · refine sx ?_
    refine s_call rfl (oform_s (r := r) (by exact rrg) hl) ?_
    rintro _ _ ⟨x, rfl, hx, rfl⟩
    refine ⟨chk_seq, ?_⟩
    refine sx ?_
    refine s_retcc (vs := x.cells) (vs' := rg0.cells) rfl rfl rfl (by exact at_) rfl (by exact at_) rfl ⟨x, rg0, rfl, ?_, ?_, rfl⟩ ?_
    · rw [hx, miR, if_pos t1]
    · rw [miR, if_pos t1]
    · refine Ent.trans (H' := oR x :: H) (by exact ent) ?_
      exact Ent.head hnilR
  refine sx ?_
  refine s_call rfl (omeet_s (r := r) (q := ⟨none, 0, [], la, lc, lo, false⟩) (by exact rrg) ⟨RBy.nil, by exact rby⟩ hl ⟨Nat.zero_le _, hl'.1⟩) ?_
  rintro _ _ ⟨x, rfl, hx, rfl⟩
  refine ⟨chk_seq, ?_⟩
  refine sx ?_
  refine s_alloc fun b6 => ?_
  refine sx ?_
  cases all
  · refine sx ?_
    refine sx ?_; refine s_drH (oR x :: .hb b6 26 x.cells :: .hb b3 26 (Rg.cells ⟨la, lc, lo, ha, hc, hi, false⟩) :: .hb b2 26 r.cells :: H) (.one true 0 (.one true 1 (.one true 2 (.one true 3 (.one true 4 (.one false 5 (.one false 6 (.one false 7 .nil)))))))) mixed (by kernel_rfl) ?_; refine sx ?_
    refine s_call rfl (omeet_s (r := r) (q := ⟨ha, hc, hi, none, 0, [], true⟩) (by exact rrg) ⟨by exact rby, RBy.nil⟩ hl ⟨hl'.2, Nat.zero_le _⟩) ?_
    rintro _ _ ⟨y, rfl, hy, rfl⟩
    refine ⟨chk_held (by exact ent), ?_⟩
    refine sx ?_
    refine s_retcc (vs := x.cells) (vs' := y.cells) rfl rfl rfl (by exact at_) rfl (by exact at_) rfl ⟨x, y, rfl, ?_, ?_, rfl⟩ (by exact ent)
    · rw [hx, miR, if_neg (by rw [t1]; decide)]
    · rw [hy, miR, if_neg (by rw [t1]; decide)]; rfl
  · refine sx ?_
    refine s_retcc (vs := x.cells) (vs' := rg0.cells) rfl rfl rfl (by exact at_) rfl (by exact at_) rfl ⟨x, rg0, rfl, ?_, ?_, rfl⟩ ?_
    · rw [hx, miR, if_neg (by rw [t1]; decide)]
    · rw [miR, if_neg (by rw [t1]; decide)]; rfl
    · refine Ent.trans (H' := oR x :: H) (by exact ent) ?_
      exact Ent.head hnilR
theorem qminus_s {r q : Rg} (hr : RRg w0 H r) (hq : RRg w0 H q) (hl : Lr r) (hl' : Lr q) : FnS Try.prog w0 H 55 #[.agg r.cells.toArray, .agg q.cells.toArray]
    (fun v H' => ∃ x y : Rg, v = .tuple #[.agg x.cells.toArray, .agg y.cells.toArray] ∧ x.d = (miR r.d q.d).1 ∧ y.d = (miR r.d q.d).2 ∧ H' = oR x :: oR y :: H) := by
  have h3 := hq.lo
  have h4 := hq.hi
  have hq' := hq
  obtain ⟨la, lc, lo, ha, hc, hi, all⟩ := q
  simp only at h3 h4
  refine fns_enter Try.func55 rfl rfl rfl ?_
  refine sx ?_
  refine s_boxA rfl fun b2 => ?_
  refine sx ?_
  refine s_boxA rfl fun b3 => ?_
  refine sx ?_
  refine s_alloc fun b4 => ?_
  refine sx ?_
  refine s_alloc fun b5 => ?_
  refine sx ?_
  refine s_callV rfl (qempty_s (r := ⟨la, lc, lo, ha, hc, hi, all⟩) (by exact rrg)) ?_
  refine sx ?_
  refine s_cond rfl (fun t1 => ?_) (fun t1 => ?_)
  · refine sx ?_
    refine s_call rfl (qform_s (r := r) (by exact rrg) hl) ?_
    rintro _ _ ⟨x, rfl, hx, rfl⟩
    refine ⟨chk_seq, ?_⟩
    refine sx ?_
    refine s_retcc (vs := x.cells) (vs' := rg0.cells) rfl rfl rfl (by exact at_) rfl (by exact at_) rfl ⟨x, rg0, rfl, ?_, ?_, rfl⟩ ?_
    · rw [hx, miR, if_pos t1]
    · rw [miR, if_pos t1]
    · refine Ent.trans (H' := oR x :: H) (by exact ent) ?_
      exact Ent.head hnilR
  refine sx ?_
  refine s_call rfl (qmeet_s (r := r) (q := ⟨none, 0, [], la, lc, lo, false⟩) (by exact rrg) ⟨RBy.nil, by exact rby⟩ hl ⟨Nat.zero_le _, hl'.1⟩) ?_
  rintro _ _ ⟨x, rfl, hx, rfl⟩
  refine ⟨chk_seq, ?_⟩
  refine sx ?_
  refine s_alloc fun b6 => ?_
  refine sx ?_
  cases all
  · refine sx ?_
    refine sx ?_; refine s_drH (oR x :: .hb b6 26 x.cells :: .hb b3 26 (Rg.cells ⟨la, lc, lo, ha, hc, hi, false⟩) :: .hb b2 26 r.cells :: H) (.one true 0 (.one true 1 (.one true 2 (.one true 3 (.one true 4 (.one false 5 (.one false 6 (.one false 7 .nil)))))))) mixed (by kernel_rfl) ?_; refine sx ?_
    refine s_call rfl (qmeet_s (r := r) (q := ⟨ha, hc, hi, none, 0, [], true⟩) (by exact rrg) ⟨by exact rby, RBy.nil⟩ hl ⟨hl'.2, Nat.zero_le _⟩) ?_
    rintro _ _ ⟨y, rfl, hy, rfl⟩
    refine ⟨chk_held (by exact ent), ?_⟩
    refine sx ?_
    refine s_retcc (vs := x.cells) (vs' := y.cells) rfl rfl rfl (by exact at_) rfl (by exact at_) rfl ⟨x, y, rfl, ?_, ?_, rfl⟩ (by exact ent)
    · rw [hx, miR, if_neg (by rw [t1]; decide)]
    · rw [hy, miR, if_neg (by rw [t1]; decide)]; rfl
  · refine sx ?_
    refine s_retcc (vs := x.cells) (vs' := rg0.cells) rfl rfl rfl (by exact at_) rfl (by exact at_) rfl ⟨x, rg0, rfl, ?_, ?_, rfl⟩ ?_
    · rw [hx, miR, if_neg (by rw [t1]; decide)]
    · rw [miR, if_neg (by rw [t1]; decide)]; rfl
    · refine Ent.trans (H' := oR x :: H) (by exact ent) ?_
      exact Ent.head hnilR
end Go.Sx
