/- Part of a proof: several parts of a walk, one behind the other. -/
import Derived.Test.YtkcabddbeclokaaGreatCB0j
namespace Go.Sx
open Go Go.Proofs
set_option maxRecDepth 10000
instance celRg : Cel Rg := ⟨3, fun r => r.cells, fun _ => rfl, fun _ => rfl, by decide⟩
abbrev T3 := Bs × Bs × Bool
abbrev Rg.d (r : Rg) : T3 := (r.lo, r.hi, r.all)
def emR (d : T3) : Bool := !d.2.2 && decide (cmp d.2.1 d.1 ≤ 0)
def beR (a b : T3) : Bool := !a.2.2 && (b.2.2 || decide (cmp a.2.1 b.2.1 < 0))
abbrev t30 : T3 := ([], [], false)
def foR (d : T3) : T3 := if emR d = true then t30 else if d.2.2 = true then (d.1, [], true) else d
def meR (a b : T3) : T3 := if (emR a || emR b) = true then t30 else foR (if 0 < cmp b.1 a.1 then b.1 else a.1, if beR b a = true then b.2.1 else a.2.1, if beR b a = true then b.2.2 else a.2.2)
abbrev rg0 : Rg := ⟨none, 0, [], none, 0, [], false⟩
variable {w0 : World} {H : List Ck}
structure RRg (w0 : World) (H : List Ck) (r : Rg) : Prop where
  lo : RBy w0 H r.la r.lc r.lo
  hi : RBy w0 H r.ha r.hc r.hi
theorem RRg.tl {r : Rg} {d : Ck} (h : RRg w0 H r) : RRg w0 (d :: H) r := ⟨h.lo.tl, h.hi.tl⟩
theorem RRg.ent {r : Rg} {H' : List Ck} (h : RRg w0 H' r) (e : Ent H H') : RRg w0 H r := ⟨h.lo.ent e, h.hi.ent e⟩
@[reducible] def oR (r : Rg) : Ck := .star [ob r.la r.lc r.lo, ob r.ha r.hc r.hi]
theorem RRg.oR {r : Rg} : RRg w0 (oR r :: H) r := ⟨RBy.ent RBy.hd (Ent.mem' (c := ob r.la r.lc r.lo) (by simp)), RBy.ent RBy.hd (Ent.mem' (c := ob r.ha r.hc r.hi) (by simp))⟩
theorem rrg {r : Rg} (h : RRg w0 H r := by (repeat (first | assumption | exact RRg.oR | apply RRg.tl)); first | done | fail) : RRg w0 H r := h
theorem Ent.oR {r : Rg} {R1 R2 H' : List Ck} (h1 : Rm (ob r.la r.lc r.lo) H R1) (h2 : Rm (ob r.ha r.hc r.hi) R1 R2) (h : Ent R2 H') : Ent H (Sx.oR r :: H') := by
  refine Ent.trans (H' := ob r.la r.lc r.lo :: ob r.ha r.hc r.hi :: H') ?_ (Ent.star (L := [ob r.la r.lc r.lo, ob r.ha r.hc r.hi]) Ent.refl)
  exact Ent.cons h1 (Ent.cons h2 h)
theorem hnilR {H : List Ck} : Ent H (oR rg0 :: H) := Ent.nilS.trans ((Ent.head Ent.nilS).trans (Ent.oR (r := rg0) Rm.hd Rm.hd Ent.refl))
theorem bclone_s {a : Option Addr} {c : Nat} {xs : Bs} (ha : RBy w0 H a c xs) (hx : xs.length ≤ 140737488355328) : FnS Tryz.prog w0 H 38 #[.slice a xs.length c] (fun v H' => ∃ a' c', v = .slice a' xs.length c' ∧ H' = ob a' c' xs :: H) := by
  refine fns_enter Tryz.func38 rfl rfl rfl ?_
  refine sx ?_
  refine s_cond rfl (fun t1 => ?_) (fun t1 => ?_)
  · refine s_kn (φ := xs = []) (fun w hw => ?_) fun e => ?_
    · have h := ha w hw
      have h1 := h.nil (by simpa using t1)
      exact List.eq_nil_of_length_eq_zero (by have := h.le; omega)
    subst e
    refine sx ?_
    exact s_ret1 rfl rfl ⟨none, 0, rfl, rfl⟩ Ent.nilS
  refine sx ?_
  refine s_bsl ([] : List UInt8) rfl rfl fun b1 => ?_
  refine sx ?_
  refine s_app (ys := xs) ?_
  intro a1 c1
  refine sx ?_
  exact s_ret1 rfl rfl ⟨a1, c1, rfl, rfl⟩
theorem clip_s {a : Option Addr} {c : Nat} {xs : Bs} : FnS Tryz.prog w0 (ob a c xs :: H) 58 #[.slice a xs.length c] (fun v H' => v = .slice a xs.length xs.length ∧ H' = ob a xs.length xs :: H) := by
  refine fns_enter Tryz.func58 rfl rfl rfl ?_
  refine s_kn (Kn.by (RBy.hd : RBy w0 (ob a c xs :: H) a c xs)) fun l1 => ?_
  refine sx ?_
  refine s_yS rfl rfl rfl (y_slU rfl rfl rfl (by omega)) ?_
  refine sx ?_
  exact s_ret1 rfl rfl ⟨rfl, rfl⟩ (Ent.clip (Nat.le_refl _) (by omega))
abbrev FoR (d : T3) (H : List Ck) : Value → List Ck → Prop := fun v H' => ∃ r' : Rg, v = .agg r'.cells.toArray ∧ r'.d = d ∧ H' = oR r' :: H
end Go.Sx
namespace Go.Sx
open Go Go.Proofs
set_option maxRecDepth 10000
variable {w0 : World} {H : List Ck}
theorem qcmp_s {a a' : Option Addr} {c c' : Nat} {xs ys : Bs} (ha : RBy w0 H a c xs) (hb : RBy w0 H a' c' ys) : FnV Tryz.prog w0 H 104 #[.slice a xs.length c, .slice a' ys.length c'] (.int .i64 (cmp xs ys)) := by
  refine fns_enter Tryz.func104 rfl rfl rfl ?_
  refine s_kn (Kn.by ha) fun l1 => s_kn (Kn.by hb) fun l2 => ?_
  simp only [maxLen] at l1 l2
  have hc := cmp_common xs ys
  refine sx ?_
  refine s_loop (fun k : Nat => [(0, .slice a xs.length c), (1, .slice a' ys.length c'), (5, .int .i64 ((min xs.length ys.length : Nat) : Int)), (6, .int .i64 k)]) (fun _ => H) (fun k => k ≤ xs.length ∧ k ≤ ys.length ∧ ∀ i, i < k → xs.getD i 0 = ys.getD i 0) (fun k => xs.length - k) 0 ⟨Nat.zero_le _, Nat.zero_le _, fun i hi => absurd hi (Nat.not_lt_zero _)⟩ ?_
  rintro k ⟨h1, h2, h3⟩
  refine sx ?_
  refine s_if rfl (fun t1 => ?_) (fun t1 => ?_)
  · refine sx ?_; refine s_dr (.one true 0 (.one true 1 (.one true 2 (.one true 3 (.one true 4 (.one true 5 (.one true 6 (.one true 7 (.one true 8 .nil))))))))) mixed (by kernel_rfl) ?_; refine sx ?_
    refine s_if rfl (fun t2 => ?_) (fun t2 => ?_)
    · have hne : xs.getD k 0 ≠ ys.getD k 0 := fun e => by rw [e] at t2; exact absurd t2 (by simp)
      have hk := common_eq xs ys k (by omega) (by omega) h3 (.inr (.inr hne))
      refine sx ?_
      refine s_ret1 rfl rfl ⟨?_, rfl⟩
      rw [hc, hk, if_neg (by omega), if_neg (by omega), if_neg]
      rintro (h | h)
      · omega
      · exact absurd (UInt8.lt_asymm h) (by simpa [UInt8.lt_iff_toNat_lt] using t2)
    refine sx ?_; refine s_dr (.one true 0 (.one true 1 (.one true 2 (.one true 3 (.one true 4 (.one true 5 (.one true 6 (.one true 7 (.one true 8 .nil))))))))) mixed (by kernel_rfl) ?_; refine sx ?_
    refine s_if rfl (fun t3 => ?_) (fun t3 => ?_)
    · have hne : xs.getD k 0 ≠ ys.getD k 0 := fun e => by rw [e] at t3; exact absurd t3 (by simp)
      have hk := common_eq xs ys k (by omega) (by omega) h3 (.inr (.inr hne))
      refine sx ?_
      refine s_ret1 rfl rfl ⟨?_, rfl⟩
      rw [hc, hk, if_neg (by omega), if_neg (by omega), if_pos (.inr (by simpa [UInt8.lt_iff_toNat_lt] using t3))]
    · have he : xs.getD k 0 = ys.getD k 0 := by
        apply UInt8.toNat_inj.1
        simp only [UInt8.lt_iff_toNat_lt] at t2 t3
        omega
      refine sx ?_
      refine s_again (k + 1) ⟨by omega, by omega, fun i hi => ?_⟩ (by omega)
      rcases Nat.lt_or_eq_of_le (Nat.lt_succ_iff.1 hi) with h | rfl
      · exact h3 i h
      · exact he
  have hk := common_eq xs ys k (by omega) (by omega) h3 (by omega)
  refine sx ?_
  refine s_if rfl (fun t2 => ?_) (fun t2 => ?_)
  · refine sx ?_
    refine s_ret1 rfl rfl ⟨?_, rfl⟩
    rw [hc, hk, if_neg (by omega), if_pos (by omega)]
  refine sx ?_
  refine s_if rfl (fun t3 => ?_) (fun t3 => ?_)
  · refine sx ?_
    refine s_ret1 rfl rfl ⟨?_, rfl⟩
    rw [hc, hk, if_neg (by omega), if_neg (by omega), if_pos (.inl (by omega))]
  · refine sx ?_
    refine s_ret1 rfl rfl ⟨?_, rfl⟩
    rw [hc, hk, if_pos (by omega)]
theorem qless_s {a a' : Option Addr} {c c' : Nat} {xs ys : Bs} (ha : RBy w0 H a c xs) (hb : RBy w0 H a' c' ys) : FnV Tryz.prog w0 H 103 #[.slice a xs.length c, .slice a' ys.length c'] (.bool (decide (cmp xs ys < 0))) := by
  refine fns_enter Tryz.func103 rfl rfl rfl ?_
  refine sx ?_
  refine s_callV rfl (qcmp_s ha hb) ?_
  refine sx ?_
  exact s_ret1 rfl rfl ⟨rfl, rfl⟩
theorem qcopy_s {a : Option Addr} {c : Nat} {xs : Bs} (ha : RBy w0 H a c xs) (hx : xs.length ≤ 140737488355328) : FnS Tryz.prog w0 H 99 #[.slice a xs.length c] (fun v H' => ∃ a' , v = .slice a' xs.length xs.length ∧ H' = ob a' xs.length xs :: H) := by
  refine fns_enter Tryz.func99 rfl rfl rfl ?_
  refine sx ?_
  refine s_make rfl rfl (by omega) fun b => ?_
  refine sx ?_
  refine s_copy rfl rfl ?_ (ys := xs) (hk0 := by simp)
  have e : xs.take (List.replicate xs.length (0 : UInt8)).length ++ (List.replicate xs.length (0 : UInt8)).drop xs.length = xs := by simp
  rw [e]
  refine sx ?_
  exact s_ret1 rfl rfl ⟨_, rfl, rfl⟩
end Go.Sx
