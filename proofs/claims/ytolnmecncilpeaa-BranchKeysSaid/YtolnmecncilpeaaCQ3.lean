/- Part of a proof: ranges, in plain words: keys, meets, covers. -/
import Derived.Test.YtolnmecncilpeaaCQ2
import Derived.Test.YtolnmecncilpeaaCBQ
namespace Go.Sx
open Go Go.Proofs
theorem lt_tr {x y z : Bs} (h1 : cmp x y < 0) (h2 : cmp y z ≤ 0) : cmp x z < 0 := (cmp_lt_trans x y z (by omega) h2).2 (.inl h1)
theorem tr_lt {x y z : Bs} (h1 : cmp x y ≤ 0) (h2 : cmp y z < 0) : cmp x z < 0 := (cmp_lt_trans x y z h1 (by omega)).2 (.inr h2)
theorem le_tr {x y z : Bs} (h1 : cmp x y ≤ 0) (h2 : cmp y z ≤ 0) : cmp x z ≤ 0 := (cmp_lt_trans x y z h1 h2).1
theorem nlt {x y : Bs} (h : ¬ cmp x y < 0) : cmp y x ≤ 0 := by have := cmp_anti x y; omega
theorem nle {x y : Bs} (h : ¬ cmp x y ≤ 0) : cmp y x < 0 := by have := cmp_anti x y; omega
theorem hasB_iff {d : T3} {key : Bs} : hasB d key = true ↔ cmp d.1 key ≤ 0 ∧ (d.2.2 = true ∨ cmp key d.2.1 < 0) := by
  have := cmp_anti d.1 key
  simp only [hasB, Bool.and_eq_true, Bool.or_eq_true, Bool.not_eq_true', decide_eq_false_iff_not, decide_eq_true_eq]
  constructor
  · rintro ⟨h1, h2⟩; exact ⟨by omega, h2⟩
  · rintro ⟨h1, h2⟩; exact ⟨by omega, h2⟩
theorem emR_iff {d : T3} : emR d = true ↔ d.2.2 = false ∧ cmp d.2.1 d.1 ≤ 0 := by simp [emR]
theorem has_em {d : T3} {key : Bs} (h : emR d = true) : ¬ hasB d key = true := by
  intro h2
  obtain ⟨h3, h4⟩ := emR_iff.1 h
  obtain ⟨h5, h6⟩ := hasB_iff.1 h2
  rcases h6 with h6 | h6
  · rw [h3] at h6; cases h6
  · have h7 := lt_tr h6 (le_tr h4 h5)
    have := cmp_self key
    omega
theorem emR_t30 : emR t30 = true := emR_iff.2 ⟨rfl, by rw [show t30.2.1 = t30.1 from rfl, cmp_self]; omega⟩
theorem has_fo {d : T3} {key : Bs} : hasB (foR d) key = true ↔ hasB d key = true := by
  unfold foR
  split
  · rename_i h
    exact ⟨fun g => absurd g (has_em emR_t30), fun g => absurd g (has_em h)⟩
  · split
    · rename_i h1 h2
      rw [hasB_iff, hasB_iff]
      simp [h2]
    · exact Iff.rfl
theorem has_me {a b : T3} {key : Bs} : hasB (meR a b) key = true ↔ hasB a key = true ∧ hasB b key = true := by
  unfold meR
  split
  · rename_i h
    rcases Bool.or_eq_true_iff.1 h with h | h
    · exact ⟨fun g => absurd g (has_em emR_t30), fun g => absurd g.1 (has_em h)⟩
    · exact ⟨fun g => absurd g (has_em emR_t30), fun g => absurd g.2 (has_em h)⟩
  · rw [has_fo, hasB_iff, hasB_iff, hasB_iff]
    simp only
    obtain ⟨al, ah, aa⟩ := a
    obtain ⟨bl, bh, ba⟩ := b
    simp only [beR]
    have e1 : cmp (if 0 < cmp bl al then bl else al) key ≤ 0 ↔ cmp al key ≤ 0 ∧ cmp bl key ≤ 0 := by
      split
      · rename_i h
        have := cmp_anti bl al
        exact ⟨fun g => ⟨le_tr (by omega) g, g⟩, fun g => g.2⟩
      · rename_i h
        exact ⟨fun g => ⟨g, le_tr (by omega) g⟩, fun g => g.1⟩
    rw [e1]
    cases ba <;> cases aa <;> simp only [Bool.not_true, Bool.not_false, Bool.true_and, Bool.false_and, Bool.true_or, Bool.false_or, Bool.false_eq_true, false_or, true_or, if_true, if_false, decide_eq_true_eq, and_true]
    · split
      · rename_i h
        simp only [Bool.false_eq_true, false_or]
        exact ⟨fun g => ⟨⟨g.1.1, lt_tr g.2 (by omega)⟩, g.1.2, g.2⟩, fun g => ⟨⟨g.1.1, g.2.1⟩, g.2.2⟩⟩
      · rename_i h
        simp only [Bool.false_eq_true, false_or]
        exact ⟨fun g => ⟨⟨g.1.1, g.2⟩, g.1.2, lt_tr g.2 (nlt h)⟩, fun g => ⟨⟨g.1.1, g.2.1⟩, g.1.2⟩⟩
    · exact ⟨fun g => ⟨g.1.1, g.1.2, g.2⟩, fun g => ⟨⟨g.1, g.2.1⟩, g.2.2⟩⟩
    · exact ⟨fun g => ⟨⟨g.1.1, g.2⟩, g.1.2⟩, fun g => ⟨⟨g.1.1, g.2⟩, g.1.2⟩⟩
end Go.Sx
