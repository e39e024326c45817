/- Part of a proof: OrderTotal and OrderNear, walked. -/
import Derived.Test.YtfhbkhhfcjmnhaaCOD
namespace Go.Sx
open Go Go.Proofs
set_option maxRecDepth 10000
section
variable {P : Program} {n : Nat} {ds : List Deferred} {Q : Exit → Act → World → Prop} {l l' : List (Nat × Value)} {w0 : World} {H : List Ck} {M : Md} {ops : Array Oper} {rest : Tr} {b : Bool} {ty : TypeId} {pos : String} {af : Array Edge} {g : Option (Nat × Bool)} {op : Op}
/-- What a guard asks is so; is not so. -/
theorem s_gT {d j dj : Nat} {t t' : Bool} (hg : gd ops l j = some (dj, t')) (h : t' = true)
    (k : SL M P n ds ops Q (.one b ⟨some d, op, ty, pos, af, some (j, t)⟩ rest) ((dj, .bool true) :: l) w0 H) : SL M P n ds ops Q (.one b ⟨some d, op, ty, pos, af, some (j, t)⟩ rest) l w0 H :=
  s_lsp hg (fun _ => k) (fun e => by rw [h] at e; cases e)
theorem s_gF {d j dj : Nat} {t t' : Bool} (hg : gd ops l j = some (dj, t')) (h : t' = false)
    (k : SL M P n ds ops Q (.one b ⟨some d, op, ty, pos, af, some (j, t)⟩ rest) ((dj, .bool false) :: l) w0 H) : SL M P n ds ops Q (.one b ⟨some d, op, ty, pos, af, some (j, t)⟩ rest) l w0 H :=
  s_lsp hg (fun e => by rw [h] at e; cases e) (fun _ => k)
/-- Which way it goes is known. -/
theorem s_cT {c : Operand} {x y : Code} {t : Bool} (hc : ev l c = some (.bool t)) (h : t = true) (k : SC P n ds x Q l w0 H) : SC P n ds (.cond c x y) Q l w0 H := s_cond hc (fun _ => k) (fun e => by rw [h] at e; cases e)
theorem s_cF {c : Operand} {x y : Code} {t : Bool} (hc : ev l c = some (.bool t)) (h : t = false) (k : SC P n ds y Q l w0 H) : SC P n ds (.cond c x y) Q l w0 H := s_cond hc (fun e => by rw [h] at e; cases e) (fun _ => k)
end
variable {w0 : World} {H : List Ck}
theorem cmp_rng (x y : Bs) : -1 ≤ cmp x y ∧ cmp x y ≤ 1 := by
  rw [cmp_common]
  split
  · omega
  split
  · omega
  split <;> omega
set_option maxHeartbeats 1000000 in
theorem total_s {xs ys zs : Bs} {a a' a2 : Option Addr} {c c' c2 : Nat} (ha : RBy w0 H a c xs) (hb : RBy w0 H a' c' ys) (hc : RBy w0 H a2 c2 zs) : FnV Try.prog w0 H 5 #[.slice a xs.length c, .slice a' ys.length c', .slice a2 zs.length c2] (.bool true) := by
  have r1 := cmp_rng xs ys
  have r2 := cmp_rng ys zs
  have r3 := cmp_rng xs zs
  have an := cmp_anti xs ys
  have eq := cmp_eq xs ys
  have tr := cmp_lt_trans xs ys zs
  have cl := common_le xs ys
  have htl : (xs.take (common xs ys)).length = common xs ys := by rw [List.length_take]; omega
  have htl' : (ys.take (common xs ys)).length = common xs ys := by rw [List.length_take]; omega
  have hat := ha.take (k := common xs ys) (by omega)
  have hbt := hb.take (k := common xs ys) (by omega)
  refine fns_enter Try.func5 rfl rfl rfl ?_
  refine s_kn (Kn.by ha) fun l1 => s_kn (Kn.by hb) fun l2 => ?_
  simp only [maxLen] at l1 l2
  refine sx ?_
  refine s_callV rfl awake_s ?_
  refine sx ?_
  refine s_callV rfl (compare_s ha hb) ?_
  refine sx ?_
  refine s_callV rfl (compare_s hb hc) ?_
  refine sx ?_
  refine s_callV rfl (compare_s ha hc) ?_
  refine sx ?_
  refine s_callV rfl (common_s ha hb) ?_
  refine sx ?_
  refine s_callV rfl (compare_s hb ha) ?_
  refine sx ?_
  refine s_gF rfl (by simp [an]) ?_
  refine sx ?_
  refine s_gF rfl (by simp [eq]) ?_
  refine sx ?_
  refine s_callV rfl (common_s hb ha) ?_
  refine sx ?_
  refine s_cF rfl (by rw [common_anti xs ys]; simp) ?_
  refine sx ?_
  refine s_lif rfl (fun x0 => ?_) (fun x0 => ?_)
  focus
    refine sx ?_
    refine s_lif rfl (fun y0 => ?_) (fun y0 => ?_)
    focus
      have tr := tr x0 y0
      refine sx ?_
      refine s_gF rfl (by rw [decide_eq_false]; omega) ?_
      refine sx ?_
      refine s_lif rfl (fun z0 => ?_) (fun z0 => ?_)
      focus
        refine sx ?_
        refine s_gF rfl (by rw [decide_eq_true]; rfl; omega) ?_
        refine sx ?_
        refine s_gF rfl (by rw [decide_eq_true]; rfl; omega) ?_
  all_goals
    refine sx ?_
    refine s_gF rfl (by rw [decide_eq_false]; omega) ?_
    refine sx ?_
    refine s_cF rfl (by rw [decide_eq_false]; omega) ?_
    refine s_rwC (t := 11) (v' := .int .i64 (((xs.take (common xs ys)).length : Nat) : Int)) rfl (ci (by omega)) ?_
    refine sx ?_; refine s_dr (.one true 0 (.one true 1 (.one true 2 (.one true 3 (.one true 4 (.one true 5 (.one true 6 (.one true 7 (.one true 8 (.one true 9 (.one true 10 (.one true 11 (.one true 12 (.one true 13 (.one true 14 (.one true 15 (.one true 16 (.one true 17 (.one true 18 (.one true 19 (.one true 20 .nil))))))))))))))))))))) mixed (by kernel_rfl) ?_; refine sx ?_
    refine s_gF rfl (by rw [decide_eq_false]; omega) ?_
    refine sx ?_
    refine s_gF rfl (by rw [decide_eq_false]; omega) ?_
    refine sx ?_
    refine s_rw (t := 99) (v' := .slice a' (ys.take (common xs ys)).length c') rfl (by rw [htl, htl']) ?_
    refine sx ?_
    refine s_cF rfl (by rw [common_take xs ys]; simp) ?_
    refine s_rwC (t := 11) (v' := .int .i64 ((common xs ys : Nat) : Int)) rfl (ci (by omega)) ?_
    refine sx ?_
    refine s_lif rfl (fun e1 => ?_) (fun e1 => ?_)
    focus
      obtain ⟨b1, b2⟩ := cmp_beg (x := xs) (y := ys) (.inl (by omega))
      refine sx ?_
      refine s_gT rfl (by rw [beq_iff_eq, decide_eq_decide]; omega) ?_
      refine sx ?_
      refine s_ret1 rfl rfl ⟨congrArg Value.bool ?_, rfl⟩
      rw [beq_iff_eq, decide_eq_decide]; omega
    focus
      refine sx ?_
      refine s_if rfl (fun e2 => ?_) (fun e2 => ?_)
      focus
        obtain ⟨b1, b2⟩ := cmp_beg (x := xs) (y := ys) (.inr (by omega))
        refine sx ?_
        refine s_gT rfl (by rw [beq_iff_eq, decide_eq_decide]; omega) ?_
        refine sx ?_
        refine s_ret1 rfl rfl ⟨congrArg Value.bool ?_, rfl⟩
        rw [beq_iff_eq, decide_eq_decide]; omega
      focus
        have b1 := cmp_part (x := xs) (y := ys) (by omega) (by omega)
        have b2 := common_ne xs ys (by omega) (by omega)
        clear hat hbt
        refine sx ?_; refine s_dr (.one true 0 (.one true 1 (.one true 2 (.one true 3 (.one true 4 (.one true 5 (.one true 6 (.one true 7 (.one true 8 (.one true 9 (.one true 10 (.one true 11 (.one true 12 (.one true 13 (.one true 14 (.one true 15 (.one true 16 (.one true 17 (.one true 18 (.one true 19 (.one true 20 (.one true 21 (.one true 22 (.one true 23 .nil)))))))))))))))))))))))) mixed (by kernel_rfl) ?_; refine sx ?_
        refine s_gT rfl (by simpa using b2) ?_
        refine sx ?_
        refine s_ret1 rfl rfl ⟨congrArg Value.bool ?_, rfl⟩
        rw [beq_iff_eq, decide_eq_decide]
        exact b1
end Go.Sx
