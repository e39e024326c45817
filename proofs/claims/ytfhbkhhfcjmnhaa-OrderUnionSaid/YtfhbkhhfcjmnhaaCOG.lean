/- Part of a proof: OrderSets, walked. -/
import Derived.Test.YtfhbkhhfcjmnhaaCOE
namespace Go.Sx
open Go Go.Proofs
set_option maxRecDepth 10000
variable {w0 : World} {H : List Ck}
theorem form_t {r : Rg} (hr : RRg w0 H r) (h : foR r.d = r.d) : FnV Try.prog w0 H 21 #[.agg r.cells.toArray] (.bool true) := by
  have := form_s hr
  have e : (if r.all = true then decide (r.hi = []) else (decide (r.lo = [] ∧ r.hi = []) || decide (cmp r.lo r.hi < 0))) = true := by
    have g := fo_law h
    by_cases ha : r.all = true
    · rw [if_pos (show r.d.2.2 = true from ha)] at g
      rw [if_pos ha]
      exact decide_eq_true g
    · rw [if_neg (show ¬ r.d.2.2 = true from ha)] at g
      rw [if_neg ha, Bool.or_eq_true, decide_eq_true_eq, decide_eq_true_eq]
      exact g
  rwa [e] at this
set_option maxHeartbeats 1000000 in
theorem sets_s {r q : Rg} {key : Bs} {a : Option Addr} {c : Nat} (hr : RRg w0 H r) (hq : RRg w0 H q) (hk : RBy w0 H a c key) (hl : Lr r) (hl' : Lr q) : FnV Try.prog w0 H 10 #[.agg r.cells.toArray, .agg q.cells.toArray, .slice a key.length c] (.bool true) := by
  refine fns_enter Try.func10 rfl rfl rfl ?_
  refine sx ?_
  refine s_boxA rfl fun b3 => ?_
  refine sx ?_
  refine s_boxA rfl fun b4 => ?_
  refine sx ?_
  refine s_callV rfl awake_s ?_
  refine sx ?_
  refine s_call rfl (omeet_s (r := r) (q := q) (by exact rrg) (by exact rrg) hl hl') ?_
  rintro _ _ ⟨m, rfl, hm, rfl⟩
  refine ⟨chk_seq, ?_⟩
  refine sx ?_
  refine s_alloc fun b8 => ?_
  refine sx ?_
  refine s_call rfl (ominus_s (r := r) (q := q) (by exact rrg) (by exact rrg) hl hl') ?_
  rintro _ _ ⟨x, y, rfl, hx, hy, rfl⟩
  refine ⟨chk_seq, ?_⟩
  refine sx ?_
  refine s_alloc fun b9 => ?_
  refine sx ?_
  refine s_alloc fun b10 => ?_
  refine sx ?_
  refine s_callV rfl (ohas_s (r := r) (key := key) (by exact rrg) (by exact rby)) ?_
  refine sx ?_
  refine s_callV rfl (ohas_s (r := q) (key := key) (by exact rrg) (by exact rby)) ?_
  refine sx ?_
  refine s_callV rfl (ohas_s (r := m) (key := key) (by exact rrg) (by exact rby)) ?_
  refine sx ?_
  refine s_callV rfl (ohas_s (r := x) (key := key) (by exact rrg) (by exact rby)) ?_
  refine sx ?_
  refine s_callV rfl (ohas_s (r := y) (key := key) (by exact rrg) (by exact rby)) ?_
  refine s_yS rfl rfl rfl (y_assign rfl) ?_
  refine s_nil ?_
  refine s_next ?_
  repeat (refine s_seq ?_)
  have f1 : hasB m.d key = (hasB r.d key && hasB q.d key) := by
    rw [Bool.eq_iff_iff, Bool.and_eq_true, hm]
    exact has_me
  have f2 := has_mi (a := r.d) (b := q.d) (key := key)
  have f3 := mi_apart (a := r.d) (b := q.d) (key := key)
  rw [← hx, ← hy] at f2 f3
  refine s_cut (fun _ : Unit => [(2, .slice a key.length c), (3, .pointer (some ⟨b3, 0, none⟩)), (4, .pointer (some ⟨b4, 0, none⟩)), (7, .bool true), (8, .pointer (some ⟨b8, 0, none⟩)), (9, .pointer (some ⟨b9, 0, none⟩)), (10, .pointer (some ⟨b10, 0, none⟩)), (11, .bool (hasB r.d key)), (12, .bool (hasB q.d key)), (76, .bool false)])
    (fun _ => .hb b10 26 y.cells :: .hb b9 26 x.cells :: oR x :: oR y :: .hb b8 26 m.cells :: oR m :: .hb b4 26 q.cells :: .hb b3 26 r.cells :: H) (fun _ => True) ?_ ?_
  · rw [f1]
    generalize hasB r.d key = A at f2 f3 ⊢
    generalize hasB q.d key = B at f2 f3 ⊢
    generalize hasB x.d key = X at f2 f3 ⊢
    generalize hasB y.d key = Y at f2 f3 ⊢
    clear f1
    cases A <;> cases B <;> cases X <;> cases Y <;> first | (exfalso; revert f2 f3; decide) | (refine sx ?_; exact s_mid () trivial)
  rintro ⟨⟩ -
  refine s_cF rfl rfl ?_
  refine s_skip ?_
  refine s_next ?_
  repeat (refine s_seq ?_)
  refine s_cut (fun _ : Unit => [(2, .slice a key.length c), (3, .pointer (some ⟨b3, 0, none⟩)), (4, .pointer (some ⟨b4, 0, none⟩)), (7, .bool true), (8, .pointer (some ⟨b8, 0, none⟩)), (9, .pointer (some ⟨b9, 0, none⟩)), (10, .pointer (some ⟨b10, 0, none⟩)), (11, .bool (hasB r.d key)), (93, .bool false)])
    (fun _ => .hb b10 26 y.cells :: .hb b9 26 x.cells :: oR x :: oR y :: .hb b8 26 m.cells :: oR m :: .hb b4 26 q.cells :: .hb b3 26 r.cells :: H) (fun _ => True) ?_ ?_
  · have g1 : inR r.d q.d = true → hasB r.d key = true → hasB q.d key = true := fun h => inR_iff.1 h key
    have g2 : emR r.d = true → ¬ hasB r.d key = true := fun h => has_em h
    refine sx ?_
    refine s_callV rfl (oinside_s (r := r) (q := q) (by exact rrg) (by exact rrg)) ?_
    have ce := oempty_s (w0 := w0) (H := .hb b10 26 y.cells :: .hb b9 26 x.cells :: oR x :: oR y :: .hb b8 26 m.cells :: oR m :: .hb b4 26 q.cells :: .hb b3 26 r.cells :: H) (r := r) (by exact rrg)
    generalize hasB r.d key = A at g1 g2 ⊢
    generalize hasB q.d key = B at g1 ⊢
    generalize inR r.d q.d = I at g1 ⊢
    generalize emR r.d = E at g2 ce
    clear f1 f2 f3
    cases I <;> cases A <;> cases B <;> cases E <;> first | (exfalso; revert g1 g2; decide) | (refine sx ?_; refine s_callV rfl ce ?_; refine sx ?_; exact s_mid () trivial)
  rintro ⟨⟩ -
  refine s_cF rfl rfl ?_
  refine sx ?_
  refine s_call rfl (omeet_s (r := q) (q := r) (by exact rrg) (by exact rrg) hl' hl) ?_
  rintro _ _ ⟨o, rfl, ho, rfl⟩
  refine ⟨chk_seq, ?_⟩
  refine sx ?_
  refine s_alloc fun b16 => ?_
  refine sx ?_
  refine s_call rfl (omeet_s (r := r) (q := r) (by exact rrg) (by exact rrg) hl hl) ?_
  rintro _ _ ⟨p, rfl, hp, rfl⟩
  refine ⟨chk_seq, ?_⟩
  refine sx ?_
  refine s_alloc fun b17 => ?_
  refine sx ?_
  refine s_callV rfl (form_t (r := m) (by exact rrg) (by rw [hm, fo_me])) ?_
  refine sx ?_
  refine s_callV rfl (form_t (r := x) (by exact rrg) (by rw [hx, mi_fo1])) ?_
  refine sx ?_
  refine s_callV rfl (form_t (r := y) (by exact rrg) (by rw [hy, mi_fo2])) ?_
  refine sx ?_
  refine s_callV rfl (form_t (r := p) (by exact rrg) (by rw [hp, fo_me])) ?_
  refine sx ?_
  refine s_callV rfl (lsame_s (r := m) (q := o) (by exact rrg) (by exact rrg)) ?_
  rw [decide_eq_true (show m.d = o.d by rw [hm, ho, me_comm])]
  have f4 := mi_in (a := r.d) (b := q.d)
  rw [← hx, ← hy] at f4
  have f5 : hasB p.d key = hasB r.d key := by
    rw [Bool.eq_iff_iff, hp, has_me]
    simp
  refine sx ?_
  refine sx ?_; refine s_dr (.one true 0 (.one true 1 (.one true 3 (.one false 2 (.one false 4 (.one true 5 (.one true 6 (.one false 7 (.one true 8 (.one true 9 (.one true 10 .nil))))))))))) mixed (by kernel_rfl) ?_; refine sx ?_
  refine s_callV rfl (oinside_s (r := r) (q := q) (by exact rrg) (by exact rrg)) ?_
  refine sx ?_
  refine s_callV rfl (oempty_s (r := x) (by exact rrg)) ?_
  refine sx ?_
  refine s_lsp rfl (fun t1 => ?_) (fun t1 => ?_)
  focus
    refine sx ?_
    refine s_callV rfl (oempty_s (r := y) (by exact rrg)) ?_
  all_goals
    refine sx ?_
    refine s_gT rfl (by rw [f4, t1]; simp) ?_
    refine sx ?_
    refine s_callV rfl (ohas_s (r := p) (key := key) (by exact rrg) (by exact rby)) ?_
    rw [f5]
    refine sx ?_
    refine s_ret1 rfl rfl ⟨congrArg Value.bool (by simp), rfl⟩
end Go.Sx
