/- Part of a proof: keys and their order, in plain words: what is between two keys, the least one above a key. -/
import Derived.Test.YtpnhoafmlhlfgaaCKA
namespace Go.Sx
open Go
theorem common_anti : ∀ (x y : Bs), common y x = common x y
  | [], [] => rfl
  | [], _ :: _ => rfl
  | _ :: _, [] => rfl
  | a :: x, b :: y => by
    by_cases h : a = b
    · subst h; simp [common, common_anti x y]
    · have h' : ¬ b = a := fun e => h e.symm
      simp [common, h, h']
theorem common_take : ∀ (x y : Bs), x.take (common x y) = y.take (common x y)
  | [], _ => by simp [common]
  | _ :: _, [] => by simp [common]
  | a :: x, b :: y => by
    by_cases h : a = b
    · subst h; simp [common, common_take x y]
    · simp [common, h]
theorem common_ne : ∀ (x y : Bs), common x y < x.length → common x y < y.length → x.getD (common x y) 0 ≠ y.getD (common x y) 0
  | [], _, h, _ => by simp [common] at h
  | _ :: _, [], _, h => by simp [common] at h
  | a :: x, b :: y, h1, h2 => by
    by_cases h : a = b
    · subst h
      simp only [common, if_true, List.length_cons, List.getD_cons_succ] at *
      exact common_ne x y (by omega) (by omega)
    · simp only [common, if_neg h, List.getD_cons_zero]
      exact h
/-- Compare, where one is the other's beginning. -/
theorem cmp_beg {x y : Bs} (h : common x y = x.length ∨ common x y = y.length) : (cmp x y < 0 ↔ x.length < y.length) ∧ (cmp x y = 0 ↔ x.length = y.length) := by
  have h1 := cmp_common x y
  have h2 := common_le x y
  by_cases e1 : common x y = x.length <;> by_cases e2 : common x y = y.length
  · rw [if_pos ⟨e1, e2⟩] at h1; omega
  · rw [if_neg (fun g => e2 g.2), if_pos e1] at h1; omega
  · rw [if_neg (fun g => e1 g.1), if_neg e1, if_pos (.inl e2)] at h1; omega
  · exact absurd h (by rintro (g | g) <;> contradiction)
/-- Compare, where they part. -/
theorem cmp_part {x y : Bs} (h1 : common x y ≠ x.length) (h2 : common x y ≠ y.length) : (cmp x y < 0 ↔ x.getD (common x y) 0 < y.getD (common x y) 0) := by
  have h3 := common_le x y
  have hn := common_ne x y (by omega) (by omega)
  rw [cmp_common, if_neg (fun g => h1 g.1), if_neg h1]
  have hu : ∀ a b : UInt8, a ≠ b → (¬ b < a ↔ a < b) := fun a b e => by
    have : a.toNat ≠ b.toNat := fun g => e (UInt8.toNat_inj.1 g)
    simp only [UInt8.lt_iff_toNat_lt]
    omega
  by_cases hc : y.getD (common x y) 0 < x.getD (common x y) 0
  · rw [if_pos (.inr hc)]
    have := fun h => (hu _ _ hn).2 h hc
    constructor
    · intro g; omega
    · intro g; exact absurd g this
  · rw [if_neg (by rintro (g | g); exact h2 g; exact hc g)]
    exact ⟨fun _ => (hu _ _ hn).1 hc, fun _ => by omega⟩
/-- Nothing is between a key and the one with a nought behind it. -/
theorem cmp_next : ∀ (a : Bs), cmp a (a ++ [0]) = -1
  | [] => rfl
  | x :: a => by simp [cmp, cmp_next a]
theorem near_next : ∀ (a c : Bs), cmp a c < 0 → 0 ≤ cmp c (a ++ [0])
  | [], [], h => by simp [cmp] at h
  | [], z :: c, _ => by
    show 0 ≤ cmp (z :: c) [0]
    by_cases e : z = 0
    · subst e
      cases c <;> simp [cmp]
    · have h0 : (0 : UInt8) < z := by
        have : z.toNat ≠ 0 := fun g => e (UInt8.toNat_inj.1 (by simpa using g))
        simp only [UInt8.lt_iff_toNat_lt]
        show (0 : Nat) < _
        omega
      simp [cmp, e, h0]
  | x :: a, [], h => by simp [cmp] at h
  | x :: a, z :: c, h => by
    show 0 ≤ cmp (z :: c) (x :: (a ++ [0]))
    by_cases e : x = z
    · subst e
      simp only [cmp, if_true] at h ⊢
      exact near_next a c h
    · have e' : ¬ z = x := fun g => e g.symm
      simp only [cmp, if_neg e, if_neg e'] at h ⊢
      split at h
      · omega
      · rename_i g
        rw [if_pos (by
          have : x.toNat ≠ z.toNat := fun g => e (UInt8.toNat_inj.1 g)
          simp only [UInt8.lt_iff_toNat_lt] at *
          omega)]
        decide
/-- What is between two keys. -/
def btw (a b : Bs) : Bs := b.take (common a b + 1)
theorem btw_len : ∀ {a b : Bs}, cmp a b < 0 → common a b + 1 ≤ b.length
  | [], [], h => by simp [cmp] at h
  | [], _ :: _, _ => by simp [common]
  | _ :: _, [], h => by simp [cmp] at h
  | x :: a, y :: b, h => by
    by_cases e : x = y
    · subst e
      simp only [cmp, common, if_true, List.length_cons] at *
      have := btw_len h
      omega
    · simp [common, e]
theorem btw_above : ∀ {a b : Bs}, cmp a b < 0 → cmp a (btw a b) < 0
  | [], [], h => by simp [cmp] at h
  | [], y :: b, _ => by simp [btw, common, cmp]
  | _ :: _, [], h => by simp [cmp] at h
  | x :: a, y :: b, h => by
    by_cases e : x = y
    · subst e
      have := btw_above (a := a) (b := b) (by simpa [cmp] using h)
      simpa [btw, common, cmp] using this
    · simp only [cmp, if_neg e] at h
      simp only [btw, common, if_neg e, Nat.zero_add, List.take_succ_cons, List.take_zero, cmp]
      exact h
theorem take_le : ∀ (k : Nat) (b : Bs), cmp (b.take k) b ≤ 0
  | 0, [] => by simp [cmp]
  | 0, _ :: _ => by simp [cmp]
  | _ + 1, [] => by simp [cmp]
  | k + 1, x :: b => by simpa [cmp] using take_le k b
theorem btw_short : ∀ {a b c : Bs}, cmp a b < 0 → cmp a c < 0 → cmp c b ≤ 0 → common a b + 1 ≤ c.length
  | [], b, [], _, h, _ => by simp [cmp] at h
  | [], b, z :: c, _, _, _ => by simp [common]
  | x :: a, [], c, h, _, _ => by simp [cmp] at h
  | x :: a, y :: b, [], _, h, _ => by simp [cmp] at h
  | x :: a, y :: b, z :: c, h1, h2, h3 => by
    by_cases e : x = y
    · subst e
      by_cases e2 : x = z
      · subst e2
        simp only [cmp, common, if_true, List.length_cons] at *
        have := btw_short h1 h2 h3
        omega
      · exfalso
        have e2' : ¬ z = x := fun g => e2 g.symm
        simp only [cmp, if_neg e2, if_neg e2'] at h2 h3
        split at h2
        · omega
        · split at h3
          · omega
          · have : x.toNat ≠ z.toNat := fun g => e2 (UInt8.toNat_inj.1 g)
            simp only [UInt8.lt_iff_toNat_lt] at *
            omega
    · simp [common, e]
theorem btw_ahead : ∀ (a b : Bs), cmp (b.take (common a b)) a ≤ 0 := fun a b => by
  rw [← common_take a b]
  exact take_le _ _
theorem cmp_zero_iff {a b : Bs} : cmp a b = 0 ↔ a = b := cmp_eq a b
end Go.Sx
