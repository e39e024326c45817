/- Part of a proof: keys and ranges by the document: Compare, Less, Copy, Empty, Has, Form, Meet. -/
import Derived.Test.YtpnhoafmlhlfgaaGreatCO2j
namespace Go.Sx
open Go Go.Proofs
set_option maxRecDepth 10000
variable {w0 : World} {H : List Ck}
theorem qcmp_s {a a' : Option Addr} {c c' : Nat} {xs ys : Bs} (ha : RBy w0 H a c xs) (hb : RBy w0 H a' c' ys) : FnV Tryz.prog w0 H 67 #[.slice a xs.length c, .slice a' ys.length c'] (.int .i64 (cmp xs ys)) := by
  refine fns_enter Tryz.func67 rfl rfl rfl ?_
  refine s_kn (Kn.by ha) fun l1 => s_kn (Kn.by hb) fun l2 => ?_
  simp only [maxLen] at l1 l2
  have hc := cmp_common xs ys
  refine sx ?_
  refine s_loop (fun k : Nat => [(0, .slice a xs.length c), (1, .slice a' ys.length c'), (5, .int .i64 ((min xs.length ys.length : Nat) : Int)), (6, .int .i64 k)]) (fun _ => H) (fun k => k ≤ xs.length ∧ k ≤ ys.length ∧ ∀ i, i < k → xs.getD i 0 = ys.getD i 0) (fun k => xs.length - k) 0 ⟨Nat.zero_le _, Nat.zero_le _, fun i hi => absurd hi (Nat.not_lt_zero _)⟩ ?_
  rintro k ⟨h1, h2, h3⟩
  refine sx ?_
  refine s_if rfl (fun t1 => ?_) (fun t1 => ?_)
  · refine sx ?_; refine s_dr (.one true 0 (.one true 1 (.one true 2 (.one true 3 (.one true 4 (.one true 5 (.one true 6 (.one true 7 (.one true 8 .nil))))))))) mixed (by kernel_rfl) ?_; refine sx ?_
    refine s_if rfl (fun t2 => ?_) (fun t2 => ?_)
    · have hne : xs.getD k 0 ≠ ys.getD k 0 := fun e => by rw [e] at t2; exact absurd t2 (by simp)
      have hk := common_eq xs ys k (by omega) (by omega) h3 (.inr (.inr hne))
      refine sx ?_
      refine s_ret1 rfl rfl ⟨?_, rfl⟩
      rw [hc, hk, if_neg (by omega), if_neg (by omega), if_neg]
      rintro (h | h)
      · omega
      · exact absurd (UInt8.lt_asymm h) (by simpa [UInt8.lt_iff_toNat_lt] using t2)
    refine sx ?_; refine s_dr (.one true 0 (.one true 1 (.one true 2 (.one true 3 (.one true 4 (.one true 5 (.one true 6 (.one true 7 (.one true 8 .nil))))))))) mixed (by kernel_rfl) ?_; refine sx ?_
    refine s_if rfl (fun t3 => ?_) (fun t3 => ?_)
    · have hne : xs.getD k 0 ≠ ys.getD k 0 := fun e => by rw [e] at t3; exact absurd t3 (by simp)
      have hk := common_eq xs ys k (by omega) (by omega) h3 (.inr (.inr hne))
      refine sx ?_
      refine s_ret1 rfl rfl ⟨?_, rfl⟩
      rw [hc, hk, if_neg (by omega), if_neg (by omega), if_pos (.inr (by simpa [UInt8.lt_iff_toNat_lt] using t3))]
    · have he : xs.getD k 0 = ys.getD k 0 := by
        apply UInt8.toNat_inj.1
        simp only [UInt8.lt_iff_toNat_lt] at t2 t3
        omega
      refine sx ?_
      refine s_again (k + 1) ⟨by omega, by omega, fun i hi => ?_⟩ (by omega)
      rcases Nat.lt_or_eq_of_le (Nat.lt_succ_iff.1 hi) with h | rfl
      · exact h3 i h
      · exact he
  have hk := common_eq xs ys k (by omega) (by omega) h3 (by omega)
  refine sx ?_
  refine s_if rfl (fun t2 => ?_) (fun t2 => ?_)
  · refine sx ?_
    refine s_ret1 rfl rfl ⟨?_, rfl⟩
    rw [hc, hk, if_neg (by omega), if_pos (by omega)]
  refine sx ?_
  refine s_if rfl (fun t3 => ?_) (fun t3 => ?_)
  · refine sx ?_
    refine s_ret1 rfl rfl ⟨?_, rfl⟩
    rw [hc, hk, if_neg (by omega), if_neg (by omega), if_pos (.inl (by omega))]
  · refine sx ?_
    refine s_ret1 rfl rfl ⟨?_, rfl⟩
    rw [hc, hk, if_pos (by omega)]
theorem qless_s {a a' : Option Addr} {c c' : Nat} {xs ys : Bs} (ha : RBy w0 H a c xs) (hb : RBy w0 H a' c' ys) : FnV Tryz.prog w0 H 89 #[.slice a xs.length c, .slice a' ys.length c'] (.bool (decide (cmp xs ys < 0))) := by
  refine fns_enter Tryz.func89 rfl rfl rfl ?_
  refine sx ?_
  refine s_callV rfl (qcmp_s ha hb) ?_
  refine sx ?_
  exact s_ret1 rfl rfl ⟨rfl, rfl⟩
theorem qcopy_s {a : Option Addr} {c : Nat} {xs : Bs} (ha : RBy w0 H a c xs) (hx : xs.length ≤ 140737488355328) : FnS Tryz.prog w0 H 27 #[.slice a xs.length c] (fun v H' => ∃ a' , v = .slice a' xs.length xs.length ∧ H' = ob a' xs.length xs :: H) := by
  refine fns_enter Tryz.func27 rfl rfl rfl ?_
  refine sx ?_
  refine s_make rfl rfl (by omega) fun b => ?_
  refine sx ?_
  refine s_copy rfl rfl ?_ (ys := xs) (hk0 := by simp)
  have e : xs.take (List.replicate xs.length (0 : UInt8)).length ++ (List.replicate xs.length (0 : UInt8)).drop xs.length = xs := by simp
  rw [e]
  refine sx ?_
  exact s_ret1 rfl rfl ⟨_, rfl, rfl⟩
theorem qempty_s {r : Rg} (hr : RRg w0 H r) : FnV Tryz.prog w0 H 115 #[.agg r.cells.toArray] (.bool (emR r.d)) := by
  have h1 := hr.lo
  have h2 := hr.hi
  obtain ⟨la, lc, lo, ha, hc, hi, all⟩ := r
  have hx := cmp_anti lo hi
  refine fns_enter Tryz.func115 rfl rfl rfl ?_
  refine sx ?_
  refine s_boxA rfl fun b => ?_
  refine sx ?_
  refine s_callV rfl (qcmp_s (by exact rby) (by exact rby)) ?_
  refine sx ?_
  cases all
  · refine sx ?_
    refine s_ret1 rfl rfl ⟨?_, rfl⟩
    simp only [emR, Bool.not_false, Bool.true_and]
    congr 1
    exact decide_eq_decide.2 (by omega)
  · refine sx ?_
    exact s_ret1 rfl rfl ⟨by simp [emR], rfl⟩
def hasB (d : T3) (key : Bs) : Bool := !decide (cmp key d.1 < 0) && (d.2.2 || decide (cmp key d.2.1 < 0))
theorem qhas_s {r : Rg} {a : Option Addr} {c : Nat} {key : Bs} (hr : RRg w0 H r) (ha : RBy w0 H a c key) : FnV Tryz.prog w0 H 69 #[.agg r.cells.toArray, .slice a key.length c] (.bool (hasB r.d key)) := by
  have h1 := hr.lo
  have h2 := hr.hi
  obtain ⟨la, lc, lo, ha', hc, hi, all⟩ := r
  refine fns_enter Tryz.func69 rfl rfl rfl ?_
  refine sx ?_
  refine s_boxA rfl fun b => ?_
  refine sx ?_
  refine s_callV rfl (qless_s (xs := key) (ys := lo) (by exact rby) (by exact rby)) ?_
  refine sx ?_
  refine s_callV rfl (qless_s (xs := key) (ys := hi) (by exact rby) (by exact rby)) ?_
  refine sx ?_
  refine s_lifn rfl (fun t1 => ?_) (fun t1 => ?_)
  · cases all
    · refine sx ?_
      exact s_ret1 rfl rfl ⟨by simp [hasB, t1], rfl⟩
    · refine sx ?_
      exact s_ret1 rfl rfl ⟨by simp [hasB, t1], rfl⟩
  · refine sx ?_
    exact s_ret1 rfl rfl ⟨by simp [hasB, t1], rfl⟩
theorem qform_s {r : Rg} (hr : RRg w0 H r) (hl : r.lo.length ≤ 140737488355328 ∧ r.hi.length ≤ 140737488355328) : FnS Tryz.prog w0 H 134 #[.agg r.cells.toArray] (FoR (foR r.d) H) := by
  have h1 := hr.lo
  have h2 := hr.hi
  obtain ⟨la, lc, lo, ha, hc, hi, all⟩ := r
  simp only at h1 h2 hl
  refine fns_enter Tryz.func134 rfl rfl rfl ?_
  refine sx ?_
  refine s_boxA rfl fun b1 => ?_
  refine sx ?_
  refine s_alloc fun b2 => ?_
  refine sx ?_
  refine s_callV rfl (qempty_s (r := ⟨la, lc, lo, ha, hc, hi, all⟩) (by exact rrg)) ?_
  refine sx ?_
  refine s_cond rfl (fun t1 => ?_) (fun t1 => ?_)
  · refine sx ?_
    refine s_retc rfl rfl (by exact at_) rfl ⟨rg0, rfl, by rw [foR, if_pos t1], rfl⟩ ?_
    exact Ent.trans (H' := H) (by exact ent) hnilR
  cases all
  · refine sx ?_
    refine sx ?_; refine s_drR (.hb b2 57 _) (by exact rm) (.one true 0 (.one true 1 (.one true 3 (.one true 4 (.one false 2 (.one false 5 (.one true 6 (.one false 7 .nil)))))))) mixed (by kernel_rfl) ?_; refine sx ?_
    refine s_call rfl (qcopy_s (xs := lo) (by exact rby) (by omega)) ?_
    rintro _ _ ⟨a5, rfl, rfl⟩
    refine ⟨chk_held (by exact ent), ?_⟩
    refine sx ?_
    refine s_call rfl (qcopy_s (xs := hi) (by exact rby) (by omega)) ?_
    rintro _ _ ⟨a4, rfl, rfl⟩
    refine ⟨chk_held (by exact ent), ?_⟩
    refine sx ?_
    refine s_retc rfl rfl (by exact at_) rfl ⟨⟨a5, lo.length, lo, a4, hi.length, hi, false⟩, rfl, by rw [foR, if_neg (by rw [t1]; simp), if_neg (by simp)], rfl⟩ ?_
    exact Ent.oR (by exact rm) (by exact rm) (by exact ent)
  · refine sx ?_
    refine s_call rfl (qcopy_s (xs := lo) (by exact rby) (by omega)) ?_
    rintro _ _ ⟨a5, rfl, rfl⟩
    refine ⟨chk_seq, ?_⟩
    refine sx ?_
    refine s_retc rfl rfl (by exact at_) rfl ⟨⟨a5, lo.length, lo, none, 0, [], true⟩, rfl, by rw [foR, if_neg (by rw [t1]; simp), if_pos rfl], rfl⟩ ?_
    refine Ent.trans ?_ (Ent.head Ent.nilS |>.trans (Ent.oR (r := ⟨a5, lo.length, lo, none, 0, [], true⟩) Rm.hd Rm.hd Ent.refl))
    exact ent
/-- What both have, as the document says it. -/
def rmeR (a b : T3) : T3 := foR (if cmp a.1 b.1 < 0 then b.1 else a.1, if (a.2.2 && b.2.2) = true then [] else if a.2.2 = true then b.2.1 else if b.2.2 = true then a.2.1 else if cmp b.2.1 a.2.1 < 0 then b.2.1 else a.2.1, a.2.2 && b.2.2)
theorem emR_mono {lo lo' hi hi' : Bs} (h : cmp hi lo ≤ 0) (h1 : cmp lo lo' ≤ 0) (h2 : cmp hi' hi ≤ 0) : emR (lo', hi', false) = true := by
  have := (cmp_lt_trans hi' lo lo' (cmp_lt_trans hi' hi lo h2 h).1 h1).1
  simp [emR, this]
theorem cmp_self (x : Bs) : cmp x x = 0 := (cmp_eq x x).2 rfl
theorem foR_em {d : T3} (h : emR d = true) : foR d = t30 := by rw [foR, if_pos h]
theorem rmeR_eq (a b : T3) : rmeR a b = meR a b := by
  obtain ⟨alo, ahi, aal⟩ := a
  obtain ⟨blo, bhi, bal⟩ := b
  have e1 : (0 < cmp blo alo) ↔ (cmp alo blo < 0) := by have := cmp_anti alo blo; omega
  have l1 : cmp alo (if cmp alo blo < 0 then blo else alo) ≤ 0 := by split <;> rename_i h <;> first | omega | rw [cmp_self]; omega
  have l2 : cmp blo (if cmp alo blo < 0 then blo else alo) ≤ 0 := by
    have := cmp_anti alo blo
    split <;> rename_i h
    · rw [cmp_self]; omega
    · omega
  have h1 : cmp (if cmp bhi ahi < 0 then bhi else ahi) ahi ≤ 0 := by split <;> rename_i h <;> first | omega | rw [cmp_self]; omega
  have h2 : cmp (if cmp bhi ahi < 0 then bhi else ahi) bhi ≤ 0 := by
    have := cmp_anti ahi bhi
    split <;> rename_i h
    · rw [cmp_self]; omega
    · omega
  have hrf : ∀ x : Bs, cmp x x ≤ 0 := fun x => by rw [cmp_self]; omega
  unfold meR rmeR
  simp only [e1]
  generalize (if cmp alo blo < 0 then blo else alo) = lo at *
  by_cases h : (emR (alo, ahi, aal) || emR (blo, bhi, bal)) = true
  · rw [if_pos h]
    rw [Bool.or_eq_true] at h
    apply foR_em
    rcases h with h | h
    · simp only [emR, Bool.and_eq_true, Bool.not_eq_true', decide_eq_true_eq] at h
      obtain ⟨h3, h4⟩ := h
      subst h3
      cases bal
      · simpa using emR_mono h4 l1 h1
      · simpa using emR_mono h4 l1 (hrf ahi)
    · simp only [emR, Bool.and_eq_true, Bool.not_eq_true', decide_eq_true_eq] at h
      obtain ⟨h3, h4⟩ := h
      subst h3
      cases aal
      · simpa using emR_mono h4 l2 h2
      · simpa using emR_mono h4 l2 (hrf bhi)
  · rw [if_neg h]
    cases aal <;> cases bal
    · simp [beR]
    · simp [beR]
    · simp [beR]
    · simp [beR, foR, emR]
end Go.Sx
