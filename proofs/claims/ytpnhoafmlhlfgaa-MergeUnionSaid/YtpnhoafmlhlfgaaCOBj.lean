/- Part of a proof: several parts of a walk, one behind the other. -/
import Derived.Test.YtpnhoafmlhlfgaaCGAj
import Derived.Test.YtpnhoafmlhlfgaaCQC
import Derived.Test.YtpnhoafmlhlfgaaCZGj
namespace Go.Sx
open Go Go.Proofs
set_option maxRecDepth 10000
variable {w0 : World} {H : List Ck}
theorem onext_s {a : Option Addr} {c : Nat} {xs : Bs} (ha : RBy w0 H a c xs) (hx : xs.length ≤ 140737488355327) : FnS Try.prog w0 H 119 #[.slice a xs.length c] (fun v H' => ∃ a' c', v = .slice a' (xs ++ [0]).length c' ∧ H' = ob a' c' (xs ++ [0]) :: H) := by
  refine fns_enter Try.func119 rfl rfl rfl ?_
  refine sx ?_
  refine s_rw (t := 6) (v' := .int .i64 ((xs.length + 1 : Nat) : Int)) rfl (ci (by omega)) ?_
  refine s_make rfl rfl (by omega) fun b => ?_
  refine sx ?_
  refine s_copy rfl rfl ?_ (ys := xs) (hk0 := by simp)
  have e : xs.take (List.replicate (xs.length + 1) (0 : UInt8)).length ++ (List.replicate (xs.length + 1) (0 : UInt8)).drop xs.length = xs ++ [0] := by
    rw [List.length_replicate, List.take_of_length_le (by omega), List.drop_replicate, show xs.length + 1 - xs.length = 1 by omega]
    rfl
  rw [e]
  refine sx ?_
  exact s_ret1 rfl rfl ⟨some b, xs.length + 1, by simp, rfl⟩
/-- What is told of two keys: what is between them. -/
def betK (a b : Bs) : Bs := if cmp a b < 0 then btw a b else []
def betE (a b : Bs) : Int := if cmp a b < 0 then 0 else 41
end Go.Sx
namespace Go.Sx
open Go Go.Proofs
set_option maxRecDepth 10000
variable {w0 : World} {H : List Ck}
abbrev Lr (r : Rg) : Prop := r.lo.length ≤ 140737488355328 ∧ r.hi.length ≤ 140737488355328
theorem ohas_s {r : Rg} {a : Option Addr} {c : Nat} {key : Bs} (hr : RRg w0 H r) (ha : RBy w0 H a c key) : FnV Try.prog w0 H 62 #[.agg r.cells.toArray, .slice a key.length c] (.bool (hasB r.d key)) := by
  have h1 := hr.lo
  have h2 := hr.hi
  obtain ⟨la, lc, lo, ha', hc, hi, all⟩ := r
  refine fns_enter Try.func62 rfl rfl rfl ?_
  refine sx ?_
  refine s_boxA rfl fun b => ?_
  refine sx ?_
  refine s_callV rfl (compare_s (xs := key) (ys := lo) (by exact rby) (by exact rby)) ?_
  refine sx ?_
  refine s_lif rfl (fun t1 => ?_) (fun t1 => ?_)
  · cases all
    · refine sx ?_
      refine s_callV rfl (compare_s (xs := key) (ys := hi) (by exact rby) (by exact rby)) ?_
      refine sx ?_
      exact s_ret1 rfl rfl ⟨by simp [hasB]; omega, rfl⟩
    · refine sx ?_
      exact s_ret1 rfl rfl ⟨by simp [hasB]; omega, rfl⟩
  · refine sx ?_
    exact s_ret1 rfl rfl ⟨by simp [hasB]; omega, rfl⟩
theorem qsame_s {a a' : Option Addr} {c c' : Nat} {xs ys : Bs} (ha : RBy w0 H a c xs) (hb : RBy w0 H a' c' ys) : FnV Try.prog w0 H 30 #[.slice a xs.length c, .slice a' ys.length c'] (.bool (decide (xs = ys))) := by
  refine fns_enter Try.func30 rfl rfl rfl ?_
  refine sx ?_
  refine s_callV rfl (qcmp_s ha hb) ?_
  refine sx ?_
  exact s_ret1 rfl rfl ⟨by rw [decide_eq_decide.2 (cmp_eq xs ys)], rfl⟩
theorem ominus_s {r q : Rg} (hr : RRg w0 H r) (hq : RRg w0 H q) (hl : Lr r) (hl' : Lr q) : FnS Try.prog w0 H 65 #[.agg r.cells.toArray, .agg q.cells.toArray]
    (fun v H' => ∃ x y : Rg, v = .tuple #[.agg x.cells.toArray, .agg y.cells.toArray] ∧ x.d = (miR r.d q.d).1 ∧ y.d = (miR r.d q.d).2 ∧ H' = oR x :: oR y :: H) := by
  have h3 := hq.lo
  have h4 := hq.hi
  have hq' := hq
  obtain ⟨la, lc, lo, ha, hc, hi, all⟩ := q
  simp only at h3 h4
  refine fns_enter Try.func65 rfl rfl rfl ?_
  refine sx ?_
  refine s_boxA rfl fun b2 => ?_
  refine sx ?_
  refine s_boxA rfl fun b3 => ?_
  refine sx ?_
  refine s_alloc fun b4 => ?_
  refine sx ?_
  refine s_alloc fun b5 => ?_
  refine sx ?_
  refine s_callV rfl (oempty_s (r := ⟨la, lc, lo, ha, hc, hi, all⟩) (by exact rrg)) ?_
  refine sx ?_
  refine s_cond rfl (fun t1 => ?_) (fun t1 => ?_)
  · refine sx ?_
    refine s_call rfl (oform_s (r := r) (by exact rrg) hl) ?_
    rintro _ _ ⟨x, rfl, hx, rfl⟩
    refine ⟨chk_seq, ?_⟩
    refine sx ?_
    refine s_retcc (vs := x.cells) (vs' := rg0.cells) rfl rfl rfl (by exact at_) rfl (by exact at_) rfl ⟨x, rg0, rfl, ?_, ?_, rfl⟩ ?_
    · rw [hx, miR, if_pos t1]
    · rw [miR, if_pos t1]
    · refine Ent.trans (H' := oR x :: H) (by exact ent) ?_
      exact Ent.head hnilR
  refine sx ?_
  refine s_call rfl (omeet_s (r := r) (q := ⟨none, 0, [], la, lc, lo, false⟩) (by exact rrg) ⟨RBy.nil, by exact rby⟩ hl ⟨Nat.zero_le _, hl'.1⟩) ?_
  rintro _ _ ⟨x, rfl, hx, rfl⟩
  refine ⟨chk_seq, ?_⟩
  refine sx ?_
  refine s_alloc fun b6 => ?_
  refine sx ?_
  cases all
  · refine sx ?_
    refine sx ?_; refine s_drH (oR x :: .hb b6 82 x.cells :: .hb b3 82 (Rg.cells ⟨la, lc, lo, ha, hc, hi, false⟩) :: .hb b2 82 r.cells :: H) (.one true 0 (.one true 1 (.one true 2 (.one true 3 (.one true 4 (.one false 5 (.one false 6 (.one false 7 .nil)))))))) mixed (by kernel_rfl) ?_; refine sx ?_
    refine s_call rfl (omeet_s (r := r) (q := ⟨ha, hc, hi, none, 0, [], true⟩) (by exact rrg) ⟨by exact rby, RBy.nil⟩ hl ⟨hl'.2, Nat.zero_le _⟩) ?_
    rintro _ _ ⟨y, rfl, hy, rfl⟩
    refine ⟨chk_held (by exact ent), ?_⟩
    refine sx ?_
    refine s_retcc (vs := x.cells) (vs' := y.cells) rfl rfl rfl (by exact at_) rfl (by exact at_) rfl ⟨x, y, rfl, ?_, ?_, rfl⟩ (by exact ent)
    · rw [hx, miR, if_neg (by rw [t1]; decide)]
    · rw [hy, miR, if_neg (by rw [t1]; decide)]; rfl
  · refine sx ?_
    refine s_retcc (vs := x.cells) (vs' := rg0.cells) rfl rfl rfl (by exact at_) rfl (by exact at_) rfl ⟨x, rg0, rfl, ?_, ?_, rfl⟩ ?_
    · rw [hx, miR, if_neg (by rw [t1]; decide)]
    · rw [miR, if_neg (by rw [t1]; decide)]; rfl
    · refine Ent.trans (H' := oR x :: H) (by exact ent) ?_
      exact Ent.head hnilR
end Go.Sx
