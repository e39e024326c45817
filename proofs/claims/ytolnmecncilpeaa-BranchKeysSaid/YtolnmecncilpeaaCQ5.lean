/- Part of a proof: the ranges of all children cover the range that was cut, in plain words. -/
import Derived.Test.YtolnmecncilpeaaCQ3
import Derived.Test.YtolnmecncilpeaaCQ4
namespace Go.Sx
open Go Go.Proofs
theorem emR_fo {d : T3} : emR (foR d) = emR d := by
  unfold foR
  split
  · rename_i h; rw [h]; exact emR_t30
  · rename_i h
    split
    · rename_i h2
      have : emR d = false := by simpa using h
      rw [this]
      simp [emR]
    · rfl
theorem fo_fo (d : T3) : foR (foR d) = foR d := by
  by_cases h : emR d = true
  · have e : foR d = t30 := by rw [foR, if_pos h]
    rw [e, foR, if_pos emR_t30]
  · by_cases h2 : d.2.2 = true
    · have e : foR d = (d.1, [], true) := by rw [foR, if_neg h, if_pos h2]
      rw [e]
      rfl
    · have e : foR d = d := by rw [foR, if_neg h, if_neg h2]
      rw [e, e]
theorem fo_me (a b : T3) : foR (meR a b) = meR a b := by
  unfold meR
  split
  · rw [foR, if_pos emR_t30]
  · exact fo_fo _
/-- What the keys of a range that has some are like. -/
theorem ne_has {d : T3} (h : ¬ emR d = true) : hasB d d.1 = true := by
  rw [hasB_iff, cmp_self]
  refine ⟨by omega, ?_⟩
  cases hd : d.2.2
  · right
    rw [emR_iff] at h
    exact nle fun g => h ⟨hd, g⟩
  · exact .inl rfl
theorem em_of {d : T3} (h : ∀ key, ¬ hasB d key = true) : emR d = true := by
  cases he : emR d
  · exact absurd (ne_has (d := d) (by rw [he]; decide)) (h _)
  · rfl
theorem form_ext {d e : T3} (hd : foR d = d) (he : foR e = e) (h : ∀ key, hasB d key = true ↔ hasB e key = true) : d = e := by
  by_cases h1 : emR d = true
  · have h2 : emR e = true := em_of fun key g => has_em h1 ((h key).2 g)
    rw [← hd, ← he, foR, foR, if_pos h1, if_pos h2]
  · have h2 : ¬ emR e = true := fun g => has_em g ((h _).1 (ne_has h1))
    have a1 := (hasB_iff.1 ((h _).1 (ne_has h1))).1
    have a2 := (hasB_iff.1 ((h _).2 (ne_has h2))).1
    have a3 := cmp_anti d.1 e.1
    have elo : d.1 = e.1 := (cmp_eq _ _).1 (by omega)
    obtain ⟨dl, dh, da⟩ := d
    obtain ⟨el, eh, ea⟩ := e
    simp only at elo
    subst elo
    have key : ∀ {x y : Bs} {b : Bool}, ¬ emR (dl, x, false) = true → (∀ key, hasB (dl, x, false) key = true ↔ hasB (dl, y, b) key = true) → b = false ∧ cmp y x ≤ 0 := by
      intro x y b hx hh
      have g1 : cmp dl x ≤ 0 := by
        rw [emR_iff] at hx
        have := nle fun g => hx ⟨rfl, g⟩
        have : cmp dl x < 0 := this
        omega
      have g2 : ¬ hasB (dl, x, false) x = true := by
        rw [hasB_iff]
        rintro ⟨_, g | g⟩
        · cases g
        · rw [cmp_self] at g; omega
      rw [hh, hasB_iff] at g2
      cases b
      · exact ⟨rfl, nlt fun g => g2 ⟨g1, .inr g⟩⟩
      · exact absurd ⟨g1, .inl rfl⟩ g2
    cases da <;> cases ea
    · have b1 := (key h1 h).2
      have b2 := (key h2 (fun k => (h k).symm)).2
      have b3 := cmp_anti dh eh
      rw [(cmp_eq dh eh).1 (by omega)]
    · have := (key h1 h).1
      cases this
    · have := (key h2 (fun k => (h k).symm)).1
      cases this
    · rw [foR, if_neg h1, if_pos rfl] at hd
      rw [foR, if_neg h2, if_pos rfl] at he
      rw [← hd, ← he]
theorem has_mid {w : T3} {x y z : Bs} (h1 : hasB w x = true) (h2 : hasB w z = true) (h3 : cmp x y ≤ 0) (h4 : cmp y z ≤ 0) : hasB w y = true := by
  rw [hasB_iff] at *
  refine ⟨le_tr h1.1 h3, ?_⟩
  rcases h2.2 with h | h
  · exact .inl h
  · exact .inr (tr_lt h4 h)
/-- A range, if it has a key. -/
def neL (d : T3) : List T3 := if emR d = true then [] else [d]
theorem cv_step {w c r f : T3} {b : Bs} {P : Bs → Prop} (fc : foR c = c) (fr : foR r = r) (ff : foR f = f) (hP : ∀ key, cmp key b < 0 → P key)
    (hc : ∀ key, hasB c key = true ↔ hasB w key = true ∧ cmp key b < 0) (hr : ∀ key, hasB r key = true ↔ hasB w key = true ∧ cmp b key ≤ 0 ∧ P key) (hf : ∀ key, hasB f key = true ↔ hasB w key = true ∧ P key) :
    (if emR r = true then neL c else cvS (neL c) r) = neL f := by
  have hcr : ∀ key, hasB f key = true ↔ hasB c key = true ∨ hasB r key = true := fun key => by
    rw [hc, hr, hf]
    constructor
    · rintro ⟨h1, h2⟩
      by_cases h3 : cmp key b < 0
      · exact .inl ⟨h1, h3⟩
      · exact .inr ⟨h1, nlt h3, h2⟩
    · rintro (⟨h1, h2⟩ | ⟨h1, h2, h3⟩)
      · exact ⟨h1, hP _ h2⟩
      · exact ⟨h1, h3⟩
  by_cases hre : emR r = true
  · rw [if_pos hre]
    have : c = f := form_ext fc ff fun key => by
      rw [hcr]
      exact ⟨.inl, fun h => h.resolve_right (has_em hre)⟩
    rw [this]
  · rw [if_neg hre]
    by_cases hce : emR c = true
    · have : r = f := form_ext fr ff fun key => by
        rw [hcr]
        exact ⟨.inr, fun h => h.resolve_left (has_em hce)⟩
      rw [neL, if_pos hce, ← this, neL, if_neg hre]
      show [foR r] = [r]
      rw [fr]
    · -- the two touch at b
      have r1 := ne_has hre
      have c1 := ne_has hce
      obtain ⟨rw1, rb, rP⟩ := (hr _).1 r1
      obtain ⟨cw1, cb⟩ := (hc _).1 c1
      have hbw : hasB w b = true := has_mid cw1 rw1 (by omega) rb
      have hbP : P b := by
        have : hasB f b = true := has_mid ((hf _).2 ⟨cw1, hP _ cb⟩) ((hf _).2 ⟨rw1, rP⟩) (by omega) rb
        exact ((hf _).1 this).2
      have hbr : hasB r b = true := (hr _).2 ⟨hbw, by rw [cmp_self]; omega, hbP⟩
      have erb : r.1 = b := (cmp_eq _ _).1 (by have := (hasB_iff.1 hbr).1; have := cmp_anti r.1 b; omega)
      have hbc : ¬ hasB c b = true := fun h => by have := ((hc _).1 h).2; rw [cmp_self] at this; omega
      have hca : c.2.2 = false := by
        cases h : c.2.2
        · rfl
        · exact absurd (hasB_iff.2 ⟨by omega, .inl h⟩) hbc
      have hch1 : cmp c.2.1 b ≤ 0 := nlt fun h => hbc (hasB_iff.2 ⟨by omega, .inr h⟩)
      have hcl : cmp c.1 c.2.1 < 0 := by
        rw [emR_iff] at hce
        exact nle fun g => hce ⟨hca, g⟩
      have ech : c.2.1 = b := by
        refine (cmp_eq _ _).1 ?_
        rcases Int.lt_or_le (cmp c.2.1 b) 0 with h | h
        · have h1 : hasB c c.2.1 = true := (hc _).2 ⟨has_mid cw1 hbw (by omega) (by omega), h⟩
          have h2 := (hasB_iff.1 h1).2
          rw [hca, cmp_self] at h2
          rcases h2 with h2 | h2
          · cases h2
          · omega
        · omega
      rw [neL, if_neg hce]
      have hne : ¬ emR f = true := fun g => has_em g ((hcr _).2 (.inl c1))
      rw [neL, if_neg hne]
      have e1 : cvS [c] r = [if r.2.2 = true ∧ c.2.2 = false then (c.1, [], true) else if c.2.2 = false ∧ cmp c.2.1 r.2.1 < 0 then (c.1, r.2.1, c.2.2) else c] := by
        simp only [cvS, List.getLast?_singleton]
        rw [if_pos (.inr (by rw [ech, erb, cmp_self]; omega))]
        rfl
      rw [e1]
      congr 1
      by_cases hra : r.2.2 = true
      · rw [if_pos ⟨hra, hca⟩]
        refine form_ext rfl ff fun key => ?_
        rw [hcr, hasB_iff, hasB_iff, hasB_iff]
        simp only [hca, ech, erb, hra, true_or, and_true, Bool.false_eq_true, false_or]
        constructor
        · intro h
          by_cases h3 : cmp key b < 0
          · exact .inl ⟨h, h3⟩
          · exact .inr (nlt h3)
        · rintro (h | h)
          · exact h.1
          · exact le_tr (by omega) h
      · have hra : r.2.2 = false := by simpa using hra
        have hrl : cmp b r.2.1 < 0 := by
          rw [emR_iff] at hre
          rw [← erb]
          exact nle fun g => hre ⟨hra, g⟩
        rw [if_neg (by rw [hra]; rintro ⟨h, _⟩; cases h), if_pos ⟨hca, by rw [ech]; exact hrl⟩, hca]
        have hcr2 : cmp c.1 r.2.1 < 0 := lt_tr cb (by omega)
        refine form_ext ?_ ff fun key => ?_
        · have hx : ¬ emR (c.1, r.2.1, false) = true := by
            rw [emR_iff]
            rintro ⟨_, h⟩
            have := cmp_anti c.1 r.2.1
            have h : cmp r.2.1 c.1 ≤ 0 := h
            omega
          rw [foR, if_neg hx, if_neg (by simp)]
        · rw [hcr, hasB_iff, hasB_iff, hasB_iff]
          simp only [hca, ech, erb, hra, Bool.false_eq_true, false_or]
          constructor
          · rintro ⟨h, h2⟩
            by_cases h3 : cmp key b < 0
            · exact .inl ⟨h, h3⟩
            · exact .inr ⟨nlt h3, h2⟩
          · rintro (h | h)
            · exact ⟨h.1, lt_tr h.2 (by omega)⟩
            · exact ⟨le_tr (by omega) h.1, h.2⟩
theorem nil_le (key : Bs) : cmp [] key ≤ 0 := by
  cases key with
  | nil => rw [cmp_self]; omega
  | cons x r =>
    have h := cmp_common [] (x :: r)
    have e : common [] (x :: r) = 0 := rfl
    rw [e] at h
    simp at h
    omega
theorem has_lt {b key : Bs} : hasB ([], b, false) key = true ↔ cmp key b < 0 := by
  rw [hasB_iff]
  simp [nil_le]
theorem sp_has {d : List Int × List Bs} {w : T3} {i : Nat} {key : Bs} (hr : risK d.2 = true) (hi : i ≤ d.2.length) : hasB (spR d w i) key = true ↔ hasB w key = true ∧ chl d.2 key = i := by
  rw [spR, has_me]
  refine and_congr_right fun _ => ?_
  rw [hasB_iff]
  simp only [Bool.not_eq_true', decide_eq_false_iff_not]
  constructor
  · rintro ⟨h1, h2⟩
    have hno : ∀ j x, j < i → d.2[j]? = some x → ¬ 0 < cmp x key := by
      intro j x hj hx
      rw [if_pos (by omega)] at h1
      obtain ⟨y, hy⟩ := get_lt d.2 (i - 1) (by omega)
      rw [List.getD_eq_getElem?_getD, hy] at h1
      have h1 : cmp y key ≤ 0 := h1
      rcases Nat.lt_or_ge j (i - 1) with h | h
      · have := ris_at hr h hx hy
        have := le_tr (x := x) (y := y) (z := key) (by omega) h1
        omega
      · have e : j = i - 1 := by omega
        rw [e, hy] at hx
        cases hx
        omega
    rcases Nat.lt_or_ge i d.2.length with h | h
    · obtain ⟨x, hx⟩ := get_lt d.2 i h
      rw [if_pos h, List.getD_eq_getElem?_getD, hx] at h2
      have h2 : cmp key x < 0 := h2.resolve_left (by omega)
      have := cmp_anti key x
      exact chl_eq hno hx (by omega)
    · have := chl_len d.2 key
      have := chl_ge (i := i) hno hi
      omega
  · rintro rfl
    constructor
    · split
      · rename_i h
        have := chl_len d.2 key
        obtain ⟨y, hy⟩ := get_lt d.2 (chl d.2 key - 1) (by omega)
        rw [List.getD_eq_getElem?_getD, hy]
        have := chl_no (ks := d.2) (key := key) (by omega) hy
        show cmp y key ≤ 0
        omega
      · exact nil_le _
    · rcases Nat.lt_or_ge (chl d.2 key) d.2.length with h | h
      · obtain ⟨x, hx⟩ := get_lt d.2 _ h
        right
        rw [if_pos h, List.getD_eq_getElem?_getD, hx]
        have := chl_yes hx
        have := cmp_anti x key
        show cmp key x < 0
        omega
      · exact .inl (by omega)
def cvN (d : List Int × List Bs) (w : T3) : Nat → List T3
  | 0 => []
  | i + 1 => if emR (spR d w i) = true then cvN d w i else cvS (cvN d w i) (spR d w i)
theorem sp_fo (d : List Int × List Bs) (w : T3) (i : Nat) : foR (spR d w i) = spR d w i := fo_me _ _
theorem cvN_mid {d : List Int × List Bs} {w : T3} (hr : risK d.2 = true) : ∀ (i : Nat) (k : Bs), d.2[i]? = some k → cvN d w (i + 1) = neL (meR w ([], k, false))
  | 0, k, hk => by
    have h0 := (List.getElem?_eq_some_iff.1 hk).1
    have e : spR d w 0 = meR w ([], k, false) := by
      rw [spR, if_neg (by omega), if_pos h0, List.getD_eq_getElem?_getD, hk, decide_eq_true h0]
      rfl
    rw [cvN, e, neL]
    split
    · rfl
    · show [foR _] = _
      rw [fo_me]
  | i + 1, k, hk => by
    have h0 := (List.getElem?_eq_some_iff.1 hk).1
    obtain ⟨b, hb⟩ := get_lt d.2 i (by omega)
    have hbk := risK_iff.1 hr i b k hb hk
    have e : spR d w (i + 1) = meR w (b, k, false) := by
      rw [spR, if_pos (by omega), if_pos h0, List.getD_eq_getElem?_getD, List.getD_eq_getElem?_getD, hk, show i + 1 - 1 = i by omega, hb, decide_eq_true h0]
      rfl
    rw [cvN, cvN_mid hr i b hb, e]
    refine cv_step (w := w) (b := b) (P := fun key => cmp key k < 0) (fo_me _ _) (fo_me _ _) (fo_me _ _) (fun key h => lt_tr h (by omega)) ?_ ?_ ?_
    · intro key; rw [has_me, has_lt]
    · intro key; rw [has_me, hasB_iff (d := (b, k, false))]; simp
    · intro key; rw [has_me, has_lt]
theorem cvN_all {d : List Int × List Bs} {w : T3} (hr : risK d.2 = true) (h1 : 1 ≤ d.2.length) (h2 : d.2.length + 1 = d.1.length) : cvN d w d.1.length = neL (foR w) := by
  obtain ⟨b, hb⟩ := get_lt d.2 (d.2.length - 1) (by omega)
  have hm := cvN_mid (w := w) hr (d.2.length - 1) b hb
  rw [show d.2.length - 1 + 1 = d.2.length by omega] at hm
  have e : spR d w d.2.length = meR w (b, [], true) := by
    rw [spR, if_pos (by omega), if_neg (by omega), List.getD_eq_getElem?_getD, hb, decide_eq_false (by omega)]
    rfl
  rw [← h2, cvN, hm, e]
  refine cv_step (w := w) (b := b) (P := fun _ => True) (fo_me _ _) (fo_me _ _) (fo_fo _) (fun _ _ => trivial) ?_ ?_ ?_
  · intro key; rw [has_me, has_lt]
  · intro key; rw [has_me, hasB_iff (d := (b, [], true))]; simp
  · intro key; rw [has_fo]; simp
end Go.Sx
