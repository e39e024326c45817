/- Part of a proof: keys and ranges by the document: Compare, Less, Copy, Empty, Has, Form, Meet. -/
import Derived.Test.YtimakbpghggdfaaCO2
namespace Go.Sx
open Go Go.Proofs
set_option maxRecDepth 10000
variable {w0 : World} {H : List Ck}
def hasB (d : T3) (key : Bs) : Bool := !decide (cmp key d.1 < 0) && (d.2.2 || decide (cmp key d.2.1 < 0))
/-- What both have, as the document says it. -/
def rmeR (a b : T3) : T3 := foR (if cmp a.1 b.1 < 0 then b.1 else a.1, if (a.2.2 && b.2.2) = true then [] else if a.2.2 = true then b.2.1 else if b.2.2 = true then a.2.1 else if cmp b.2.1 a.2.1 < 0 then b.2.1 else a.2.1, a.2.2 && b.2.2)
theorem emR_mono {lo lo' hi hi' : Bs} (h : cmp hi lo ≤ 0) (h1 : cmp lo lo' ≤ 0) (h2 : cmp hi' hi ≤ 0) : emR (lo', hi', false) = true := by
  have := (cmp_lt_trans hi' lo lo' (cmp_lt_trans hi' hi lo h2 h).1 h1).1
  simp [emR, this]
theorem cmp_self (x : Bs) : cmp x x = 0 := (cmp_eq x x).2 rfl
theorem foR_em {d : T3} (h : emR d = true) : foR d = t30 := by rw [foR, if_pos h]
theorem rmeR_eq (a b : T3) : rmeR a b = meR a b := by
  obtain ⟨alo, ahi, aal⟩ := a
  obtain ⟨blo, bhi, bal⟩ := b
  have e1 : (0 < cmp blo alo) ↔ (cmp alo blo < 0) := by have := cmp_anti alo blo; omega
  have l1 : cmp alo (if cmp alo blo < 0 then blo else alo) ≤ 0 := by split <;> rename_i h <;> first | omega | rw [cmp_self]; omega
  have l2 : cmp blo (if cmp alo blo < 0 then blo else alo) ≤ 0 := by
    have := cmp_anti alo blo
    split <;> rename_i h
    · rw [cmp_self]; omega
    · omega
  have h1 : cmp (if cmp bhi ahi < 0 then bhi else ahi) ahi ≤ 0 := by split <;> rename_i h <;> first | omega | rw [cmp_self]; omega
  have h2 : cmp (if cmp bhi ahi < 0 then bhi else ahi) bhi ≤ 0 := by
    have := cmp_anti ahi bhi
    split <;> rename_i h
    · rw [cmp_self]; omega
    · omega
  have hrf : ∀ x : Bs, cmp x x ≤ 0 := fun x => by rw [cmp_self]; omega
  unfold meR rmeR
  simp only [e1]
  generalize (if cmp alo blo < 0 then blo else alo) = lo at *
  by_cases h : (emR (alo, ahi, aal) || emR (blo, bhi, bal)) = true
  · rw [if_pos h]
    rw [Bool.or_eq_true] at h
    apply foR_em
    rcases h with h | h
    · simp only [emR, Bool.and_eq_true, Bool.not_eq_true', decide_eq_true_eq] at h
      obtain ⟨h3, h4⟩ := h
      subst h3
      cases bal
      · simpa using emR_mono h4 l1 h1
      · simpa using emR_mono h4 l1 (hrf ahi)
    · simp only [emR, Bool.and_eq_true, Bool.not_eq_true', decide_eq_true_eq] at h
      obtain ⟨h3, h4⟩ := h
      subst h3
      cases aal
      · simpa using emR_mono h4 l2 h2
      · simpa using emR_mono h4 l2 (hrf bhi)
  · rw [if_neg h]
    cases aal <;> cases bal
    · simp [beR]
    · simp [beR]
    · simp [beR]
    · simp [beR, foR, emR]
end Go.Sx
