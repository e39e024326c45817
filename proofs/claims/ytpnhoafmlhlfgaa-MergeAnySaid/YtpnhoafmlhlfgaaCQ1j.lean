/- Part of a proof: several parts of a walk, one behind the other. -/
import Derived.Test.YtpnhoafmlhlfgaaCKA
import Derived.Test.YtpnhoafmlhlfgaaCO2j
namespace Go.Sx
open Go
theorem common_anti : ∀ (x y : Bs), common y x = common x y
  | [], [] => rfl
  | [], _ :: _ => rfl
  | _ :: _, [] => rfl
  | a :: x, b :: y => by
    by_cases h : a = b
    · subst h; simp [common, common_anti x y]
    · have h' : ¬ b = a := fun e => h e.symm
      simp [common, h, h']
theorem common_take : ∀ (x y : Bs), x.take (common x y) = y.take (common x y)
  | [], _ => by simp [common]
  | _ :: _, [] => by simp [common]
  | a :: x, b :: y => by
    by_cases h : a = b
    · subst h; simp [common, common_take x y]
    · simp [common, h]
theorem common_ne : ∀ (x y : Bs), common x y < x.length → common x y < y.length → x.getD (common x y) 0 ≠ y.getD (common x y) 0
  | [], _, h, _ => by simp [common] at h
  | _ :: _, [], _, h => by simp [common] at h
  | a :: x, b :: y, h1, h2 => by
    by_cases h : a = b
    · subst h
      simp only [common, if_true, List.length_cons, List.getD_cons_succ] at *
      exact common_ne x y (by omega) (by omega)
    · simp only [common, if_neg h, List.getD_cons_zero]
      exact h
/-- Compare, where one is the other's beginning. -/
theorem cmp_beg {x y : Bs} (h : common x y = x.length ∨ common x y = y.length) : (cmp x y < 0 ↔ x.length < y.length) ∧ (cmp x y = 0 ↔ x.length = y.length) := by
  have h1 := cmp_common x y
  have h2 := common_le x y
  by_cases e1 : common x y = x.length <;> by_cases e2 : common x y = y.length
  · rw [if_pos ⟨e1, e2⟩] at h1; omega
  · rw [if_neg (fun g => e2 g.2), if_pos e1] at h1; omega
  · rw [if_neg (fun g => e1 g.1), if_neg e1, if_pos (.inl e2)] at h1; omega
  · exact absurd h (by rintro (g | g) <;> contradiction)
/-- Compare, where they part. -/
theorem cmp_part {x y : Bs} (h1 : common x y ≠ x.length) (h2 : common x y ≠ y.length) : (cmp x y < 0 ↔ x.getD (common x y) 0 < y.getD (common x y) 0) := by
  have h3 := common_le x y
  have hn := common_ne x y (by omega) (by omega)
  rw [cmp_common, if_neg (fun g => h1 g.1), if_neg h1]
  have hu : ∀ a b : UInt8, a ≠ b → (¬ b < a ↔ a < b) := fun a b e => by
    have : a.toNat ≠ b.toNat := fun g => e (UInt8.toNat_inj.1 g)
    simp only [UInt8.lt_iff_toNat_lt]
    omega
  by_cases hc : y.getD (common x y) 0 < x.getD (common x y) 0
  · rw [if_pos (.inr hc)]
    have := fun h => (hu _ _ hn).2 h hc
    constructor
    · intro g; omega
    · intro g; exact absurd g this
  · rw [if_neg (by rintro (g | g); exact h2 g; exact hc g)]
    exact ⟨fun _ => (hu _ _ hn).1 hc, fun _ => by omega⟩
/-- Nothing is between a key and the one with a nought behind it. -/
theorem cmp_next : ∀ (a : Bs), cmp a (a ++ [0]) = -1
  | [] => rfl
  | x :: a => by simp [cmp, cmp_next a]
theorem near_next : ∀ (a c : Bs), cmp a c < 0 → 0 ≤ cmp c (a ++ [0])
  | [], [], h => by simp [cmp] at h
  | [], z :: c, _ => by
    show 0 ≤ cmp (z :: c) [0]
    by_cases e : z = 0
    · subst e
      cases c <;> simp [cmp]
    · have h0 : (0 : UInt8) < z := by
        have : z.toNat ≠ 0 := fun g => e (UInt8.toNat_inj.1 (by simpa using g))
        simp only [UInt8.lt_iff_toNat_lt]
        show (0 : Nat) < _
        omega
      simp [cmp, e, h0]
  | x :: a, [], h => by simp [cmp] at h
  | x :: a, z :: c, h => by
    show 0 ≤ cmp (z :: c) (x :: (a ++ [0]))
    by_cases e : x = z
    · subst e
      simp only [cmp, if_true] at h ⊢
      exact near_next a c h
    · have e' : ¬ z = x := fun g => e g.symm
      simp only [cmp, if_neg e, if_neg e'] at h ⊢
      split at h
      · omega
      · rename_i g
        rw [if_pos (by
          have : x.toNat ≠ z.toNat := fun g => e (UInt8.toNat_inj.1 g)
          simp only [UInt8.lt_iff_toNat_lt] at *
          omega)]
        decide
/-- What is between two keys. -/
def btw (a b : Bs) : Bs := b.take (common a b + 1)
theorem btw_len : ∀ {a b : Bs}, cmp a b < 0 → common a b + 1 ≤ b.length
  | [], [], h => by simp [cmp] at h
  | [], _ :: _, _ => by simp [common]
  | _ :: _, [], h => by simp [cmp] at h
  | x :: a, y :: b, h => by
    by_cases e : x = y
    · subst e
      simp only [cmp, common, if_true, List.length_cons] at *
      have := btw_len h
      omega
    · simp [common, e]
theorem btw_above : ∀ {a b : Bs}, cmp a b < 0 → cmp a (btw a b) < 0
  | [], [], h => by simp [cmp] at h
  | [], y :: b, _ => by simp [btw, common, cmp]
  | _ :: _, [], h => by simp [cmp] at h
  | x :: a, y :: b, h => by
    by_cases e : x = y
    · subst e
      have := btw_above (a := a) (b := b) (by simpa [cmp] using h)
      simpa [btw, common, cmp] using this
    · simp only [cmp, if_neg e] at h
      simp only [btw, common, if_neg e, Nat.zero_add, List.take_succ_cons, List.take_zero, cmp]
      exact h
theorem take_le : ∀ (k : Nat) (b : Bs), cmp (b.take k) b ≤ 0
  | 0, [] => by simp [cmp]
  | 0, _ :: _ => by simp [cmp]
  | _ + 1, [] => by simp [cmp]
  | k + 1, x :: b => by simpa [cmp] using take_le k b
theorem btw_short : ∀ {a b c : Bs}, cmp a b < 0 → cmp a c < 0 → cmp c b ≤ 0 → common a b + 1 ≤ c.length
  | [], b, [], _, h, _ => by simp [cmp] at h
  | [], b, z :: c, _, _, _ => by simp [common]
  | x :: a, [], c, h, _, _ => by simp [cmp] at h
  | x :: a, y :: b, [], _, h, _ => by simp [cmp] at h
  | x :: a, y :: b, z :: c, h1, h2, h3 => by
    by_cases e : x = y
    · subst e
      by_cases e2 : x = z
      · subst e2
        simp only [cmp, common, if_true, List.length_cons] at *
        have := btw_short h1 h2 h3
        omega
      · exfalso
        have e2' : ¬ z = x := fun g => e2 g.symm
        simp only [cmp, if_neg e2, if_neg e2'] at h2 h3
        split at h2
        · omega
        · split at h3
          · omega
          · have : x.toNat ≠ z.toNat := fun g => e2 (UInt8.toNat_inj.1 g)
            simp only [UInt8.lt_iff_toNat_lt] at *
            omega
    · simp [common, e]
theorem btw_ahead : ∀ (a b : Bs), cmp (b.take (common a b)) a ≤ 0 := fun a b => by
  rw [← common_take a b]
  exact take_le _ _
theorem cmp_zero_iff {a b : Bs} : cmp a b = 0 ↔ a = b := cmp_eq a b
end Go.Sx
namespace Go.Sx
open Go Go.Proofs
set_option maxRecDepth 10000
variable {w0 : World} {H : List Ck}
theorem qcmp_s {a a' : Option Addr} {c c' : Nat} {xs ys : Bs} (ha : RBy w0 H a c xs) (hb : RBy w0 H a' c' ys) : FnV Try.prog w0 H 51 #[.slice a xs.length c, .slice a' ys.length c'] (.int .i64 (cmp xs ys)) := by
  refine fns_enter Try.func51 rfl rfl rfl ?_
  refine s_kn (Kn.by ha) fun l1 => s_kn (Kn.by hb) fun l2 => ?_
  simp only [maxLen] at l1 l2
  have hc := cmp_common xs ys
  refine sx ?_
  refine s_loop (fun k : Nat => [(0, .slice a xs.length c), (1, .slice a' ys.length c'), (5, .int .i64 ((min xs.length ys.length : Nat) : Int)), (6, .int .i64 k)]) (fun _ => H) (fun k => k ≤ xs.length ∧ k ≤ ys.length ∧ ∀ i, i < k → xs.getD i 0 = ys.getD i 0) (fun k => xs.length - k) 0 ⟨Nat.zero_le _, Nat.zero_le _, fun i hi => absurd hi (Nat.not_lt_zero _)⟩ ?_
  rintro k ⟨h1, h2, h3⟩
  refine sx ?_
  refine s_if rfl (fun t1 => ?_) (fun t1 => ?_)
  · refine sx ?_; refine s_dr (.one true 0 (.one true 1 (.one true 2 (.one true 3 (.one true 4 (.one true 5 (.one true 6 (.one true 7 (.one true 8 .nil))))))))) mixed (by kernel_rfl) ?_; refine sx ?_
    refine s_if rfl (fun t2 => ?_) (fun t2 => ?_)
    · have hne : xs.getD k 0 ≠ ys.getD k 0 := fun e => by rw [e] at t2; exact absurd t2 (by simp)
      have hk := common_eq xs ys k (by omega) (by omega) h3 (.inr (.inr hne))
      refine sx ?_
      refine s_ret1 rfl rfl ⟨?_, rfl⟩
      rw [hc, hk, if_neg (by omega), if_neg (by omega), if_neg]
      rintro (h | h)
      · omega
      · exact absurd (UInt8.lt_asymm h) (by simpa [UInt8.lt_iff_toNat_lt] using t2)
    refine sx ?_; refine s_dr (.one true 0 (.one true 1 (.one true 2 (.one true 3 (.one true 4 (.one true 5 (.one true 6 (.one true 7 (.one true 8 .nil))))))))) mixed (by kernel_rfl) ?_; refine sx ?_
    refine s_if rfl (fun t3 => ?_) (fun t3 => ?_)
    · have hne : xs.getD k 0 ≠ ys.getD k 0 := fun e => by rw [e] at t3; exact absurd t3 (by simp)
      have hk := common_eq xs ys k (by omega) (by omega) h3 (.inr (.inr hne))
      refine sx ?_
      refine s_ret1 rfl rfl ⟨?_, rfl⟩
      rw [hc, hk, if_neg (by omega), if_neg (by omega), if_pos (.inr (by simpa [UInt8.lt_iff_toNat_lt] using t3))]
    · have he : xs.getD k 0 = ys.getD k 0 := by
        apply UInt8.toNat_inj.1
        simp only [UInt8.lt_iff_toNat_lt] at t2 t3
        omega
      refine sx ?_
      refine s_again (k + 1) ⟨by omega, by omega, fun i hi => ?_⟩ (by omega)
      rcases Nat.lt_or_eq_of_le (Nat.lt_succ_iff.1 hi) with h | rfl
      · exact h3 i h
      · exact he
  have hk := common_eq xs ys k (by omega) (by omega) h3 (by omega)
  refine sx ?_
  refine s_if rfl (fun t2 => ?_) (fun t2 => ?_)
  · refine sx ?_
    refine s_ret1 rfl rfl ⟨?_, rfl⟩
    rw [hc, hk, if_neg (by omega), if_pos (by omega)]
  refine sx ?_
  refine s_if rfl (fun t3 => ?_) (fun t3 => ?_)
  · refine sx ?_
    refine s_ret1 rfl rfl ⟨?_, rfl⟩
    rw [hc, hk, if_neg (by omega), if_neg (by omega), if_pos (.inl (by omega))]
  · refine sx ?_
    refine s_ret1 rfl rfl ⟨?_, rfl⟩
    rw [hc, hk, if_pos (by omega)]
theorem qless_s {a a' : Option Addr} {c c' : Nat} {xs ys : Bs} (ha : RBy w0 H a c xs) (hb : RBy w0 H a' c' ys) : FnV Try.prog w0 H 41 #[.slice a xs.length c, .slice a' ys.length c'] (.bool (decide (cmp xs ys < 0))) := by
  refine fns_enter Try.func41 rfl rfl rfl ?_
  refine sx ?_
  refine s_callV rfl (qcmp_s ha hb) ?_
  refine sx ?_
  exact s_ret1 rfl rfl ⟨rfl, rfl⟩
theorem qcopy_s {a : Option Addr} {c : Nat} {xs : Bs} (ha : RBy w0 H a c xs) (hx : xs.length ≤ 140737488355328) : FnS Try.prog w0 H 29 #[.slice a xs.length c] (fun v H' => ∃ a' , v = .slice a' xs.length xs.length ∧ H' = ob a' xs.length xs :: H) := by
  refine fns_enter Try.func29 rfl rfl rfl ?_
  refine sx ?_
  refine s_make rfl rfl (by omega) fun b => ?_
  refine sx ?_
  refine s_copy rfl rfl ?_ (ys := xs) (hk0 := by simp)
  have e : xs.take (List.replicate xs.length (0 : UInt8)).length ++ (List.replicate xs.length (0 : UInt8)).drop xs.length = xs := by simp
  rw [e]
  refine sx ?_
  exact s_ret1 rfl rfl ⟨_, rfl, rfl⟩
def hasB (d : T3) (key : Bs) : Bool := !decide (cmp key d.1 < 0) && (d.2.2 || decide (cmp key d.2.1 < 0))
/-- What both have, as the document says it. -/
def rmeR (a b : T3) : T3 := foR (if cmp a.1 b.1 < 0 then b.1 else a.1, if (a.2.2 && b.2.2) = true then [] else if a.2.2 = true then b.2.1 else if b.2.2 = true then a.2.1 else if cmp b.2.1 a.2.1 < 0 then b.2.1 else a.2.1, a.2.2 && b.2.2)
theorem emR_mono {lo lo' hi hi' : Bs} (h : cmp hi lo ≤ 0) (h1 : cmp lo lo' ≤ 0) (h2 : cmp hi' hi ≤ 0) : emR (lo', hi', false) = true := by
  have := (cmp_lt_trans hi' lo lo' (cmp_lt_trans hi' hi lo h2 h).1 h1).1
  simp [emR, this]
theorem cmp_self (x : Bs) : cmp x x = 0 := (cmp_eq x x).2 rfl
theorem foR_em {d : T3} (h : emR d = true) : foR d = t30 := by rw [foR, if_pos h]
theorem rmeR_eq (a b : T3) : rmeR a b = meR a b := by
  obtain ⟨alo, ahi, aal⟩ := a
  obtain ⟨blo, bhi, bal⟩ := b
  have e1 : (0 < cmp blo alo) ↔ (cmp alo blo < 0) := by have := cmp_anti alo blo; omega
  have l1 : cmp alo (if cmp alo blo < 0 then blo else alo) ≤ 0 := by split <;> rename_i h <;> first | omega | rw [cmp_self]; omega
  have l2 : cmp blo (if cmp alo blo < 0 then blo else alo) ≤ 0 := by
    have := cmp_anti alo blo
    split <;> rename_i h
    · rw [cmp_self]; omega
    · omega
  have h1 : cmp (if cmp bhi ahi < 0 then bhi else ahi) ahi ≤ 0 := by split <;> rename_i h <;> first | omega | rw [cmp_self]; omega
  have h2 : cmp (if cmp bhi ahi < 0 then bhi else ahi) bhi ≤ 0 := by
    have := cmp_anti ahi bhi
    split <;> rename_i h
    · rw [cmp_self]; omega
    · omega
  have hrf : ∀ x : Bs, cmp x x ≤ 0 := fun x => by rw [cmp_self]; omega
  unfold meR rmeR
  simp only [e1]
  generalize (if cmp alo blo < 0 then blo else alo) = lo at *
  by_cases h : (emR (alo, ahi, aal) || emR (blo, bhi, bal)) = true
  · rw [if_pos h]
    rw [Bool.or_eq_true] at h
    apply foR_em
    rcases h with h | h
    · simp only [emR, Bool.and_eq_true, Bool.not_eq_true', decide_eq_true_eq] at h
      obtain ⟨h3, h4⟩ := h
      subst h3
      cases bal
      · simpa using emR_mono h4 l1 h1
      · simpa using emR_mono h4 l1 (hrf ahi)
    · simp only [emR, Bool.and_eq_true, Bool.not_eq_true', decide_eq_true_eq] at h
      obtain ⟨h3, h4⟩ := h
      subst h3
      cases aal
      · simpa using emR_mono h4 l2 h2
      · simpa using emR_mono h4 l2 (hrf bhi)
  · rw [if_neg h]
    cases aal <;> cases bal
    · simp [beR]
    · simp [beR]
    · simp [beR]
    · simp [beR, foR, emR]
end Go.Sx
