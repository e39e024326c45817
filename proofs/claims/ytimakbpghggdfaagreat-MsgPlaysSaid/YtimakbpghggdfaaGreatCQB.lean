/- Part of a proof: ranges of keys, in plain words: what is in them; covers have one form. -/
import Derived.Test.YtimakbpghggdfaaGreatCQ1j
namespace Go.Sx
open Go Go.Proofs
theorem lt_tr {x y z : Bs} (h1 : cmp x y < 0) (h2 : cmp y z ≤ 0) : cmp x z < 0 := (cmp_lt_trans x y z (by omega) h2).2 (.inl h1)
theorem tr_lt {x y z : Bs} (h1 : cmp x y ≤ 0) (h2 : cmp y z < 0) : cmp x z < 0 := (cmp_lt_trans x y z h1 (by omega)).2 (.inr h2)
theorem le_tr {x y z : Bs} (h1 : cmp x y ≤ 0) (h2 : cmp y z ≤ 0) : cmp x z ≤ 0 := (cmp_lt_trans x y z h1 h2).1
theorem nlt {x y : Bs} (h : ¬ cmp x y < 0) : cmp y x ≤ 0 := by have := cmp_anti x y; omega
theorem nle {x y : Bs} (h : ¬ cmp x y ≤ 0) : cmp y x < 0 := by have := cmp_anti x y; omega
theorem hasB_iff {d : T3} {key : Bs} : hasB d key = true ↔ cmp d.1 key ≤ 0 ∧ (d.2.2 = true ∨ cmp key d.2.1 < 0) := by
  have := cmp_anti d.1 key
  simp only [hasB, Bool.and_eq_true, Bool.or_eq_true, Bool.not_eq_true', decide_eq_false_iff_not, decide_eq_true_eq]
  constructor
  · rintro ⟨h1, h2⟩; exact ⟨by omega, h2⟩
  · rintro ⟨h1, h2⟩; exact ⟨by omega, h2⟩
theorem emR_iff {d : T3} : emR d = true ↔ d.2.2 = false ∧ cmp d.2.1 d.1 ≤ 0 := by simp [emR]
theorem has_em {d : T3} {key : Bs} (h : emR d = true) : ¬ hasB d key = true := by
  intro h2
  obtain ⟨h3, h4⟩ := emR_iff.1 h
  obtain ⟨h5, h6⟩ := hasB_iff.1 h2
  rcases h6 with h6 | h6
  · rw [h3] at h6; cases h6
  · have h7 := lt_tr h6 (le_tr h4 h5)
    have := cmp_self key
    omega
theorem emR_t30 : emR t30 = true := emR_iff.2 ⟨rfl, by rw [show t30.2.1 = t30.1 from rfl, cmp_self]; omega⟩
theorem has_fo {d : T3} {key : Bs} : hasB (foR d) key = true ↔ hasB d key = true := by
  unfold foR
  split
  · rename_i h
    exact ⟨fun g => absurd g (has_em emR_t30), fun g => absurd g (has_em h)⟩
  · split
    · rename_i h1 h2
      rw [hasB_iff, hasB_iff]
      simp [h2]
    · exact Iff.rfl
theorem has_me {a b : T3} {key : Bs} : hasB (meR a b) key = true ↔ hasB a key = true ∧ hasB b key = true := by
  unfold meR
  split
  · rename_i h
    rcases Bool.or_eq_true_iff.1 h with h | h
    · exact ⟨fun g => absurd g (has_em emR_t30), fun g => absurd g.1 (has_em h)⟩
    · exact ⟨fun g => absurd g (has_em emR_t30), fun g => absurd g.2 (has_em h)⟩
  · rw [has_fo, hasB_iff, hasB_iff, hasB_iff]
    simp only
    obtain ⟨al, ah, aa⟩ := a
    obtain ⟨bl, bh, ba⟩ := b
    simp only [beR]
    have e1 : cmp (if 0 < cmp bl al then bl else al) key ≤ 0 ↔ cmp al key ≤ 0 ∧ cmp bl key ≤ 0 := by
      split
      · rename_i h
        have := cmp_anti bl al
        exact ⟨fun g => ⟨le_tr (by omega) g, g⟩, fun g => g.2⟩
      · rename_i h
        exact ⟨fun g => ⟨g, le_tr (by omega) g⟩, fun g => g.1⟩
    rw [e1]
    cases ba <;> cases aa <;> simp only [Bool.not_true, Bool.not_false, Bool.true_and, Bool.false_and, Bool.true_or, Bool.false_or, Bool.false_eq_true, false_or, true_or, if_true, if_false, decide_eq_true_eq, and_true]
    · split
      · rename_i h
        simp only [Bool.false_eq_true, false_or]
        exact ⟨fun g => ⟨⟨g.1.1, lt_tr g.2 (by omega)⟩, g.1.2, g.2⟩, fun g => ⟨⟨g.1.1, g.2.1⟩, g.2.2⟩⟩
      · rename_i h
        simp only [Bool.false_eq_true, false_or]
        exact ⟨fun g => ⟨⟨g.1.1, g.2⟩, g.1.2, lt_tr g.2 (nlt h)⟩, fun g => ⟨⟨g.1.1, g.2.1⟩, g.1.2⟩⟩
    · exact ⟨fun g => ⟨g.1.1, g.1.2, g.2⟩, fun g => ⟨⟨g.1, g.2.1⟩, g.2.2⟩⟩
    · exact ⟨fun g => ⟨⟨g.1.1, g.2⟩, g.1.2⟩, fun g => ⟨⟨g.1.1, g.2⟩, g.1.2⟩⟩
theorem emR_fo {d : T3} : emR (foR d) = emR d := by
  unfold foR
  split
  · rename_i h; rw [h]; exact emR_t30
  · rename_i h
    split
    · rename_i h2
      have : emR d = false := by simpa using h
      rw [this]
      simp [emR]
    · rfl
theorem fo_fo (d : T3) : foR (foR d) = foR d := by
  by_cases h : emR d = true
  · have e : foR d = t30 := by rw [foR, if_pos h]
    rw [e, foR, if_pos emR_t30]
  · by_cases h2 : d.2.2 = true
    · have e : foR d = (d.1, [], true) := by rw [foR, if_neg h, if_pos h2]
      rw [e]
      rfl
    · have e : foR d = d := by rw [foR, if_neg h, if_neg h2]
      rw [e, e]
theorem fo_me (a b : T3) : foR (meR a b) = meR a b := by
  unfold meR
  split
  · rw [foR, if_pos emR_t30]
  · exact fo_fo _
/-- What the keys of a range that has some are like. -/
theorem ne_has {d : T3} (h : ¬ emR d = true) : hasB d d.1 = true := by
  rw [hasB_iff, cmp_self]
  refine ⟨by omega, ?_⟩
  cases hd : d.2.2
  · right
    rw [emR_iff] at h
    exact nle fun g => h ⟨hd, g⟩
  · exact .inl rfl
theorem em_of {d : T3} (h : ∀ key, ¬ hasB d key = true) : emR d = true := by
  cases he : emR d
  · exact absurd (ne_has (d := d) (by rw [he]; decide)) (h _)
  · rfl
theorem form_ext {d e : T3} (hd : foR d = d) (he : foR e = e) (h : ∀ key, hasB d key = true ↔ hasB e key = true) : d = e := by
  by_cases h1 : emR d = true
  · have h2 : emR e = true := em_of fun key g => has_em h1 ((h key).2 g)
    rw [← hd, ← he, foR, foR, if_pos h1, if_pos h2]
  · have h2 : ¬ emR e = true := fun g => has_em g ((h _).1 (ne_has h1))
    have a1 := (hasB_iff.1 ((h _).1 (ne_has h1))).1
    have a2 := (hasB_iff.1 ((h _).2 (ne_has h2))).1
    have a3 := cmp_anti d.1 e.1
    have elo : d.1 = e.1 := (cmp_eq _ _).1 (by omega)
    obtain ⟨dl, dh, da⟩ := d
    obtain ⟨el, eh, ea⟩ := e
    simp only at elo
    subst elo
    have key : ∀ {x y : Bs} {b : Bool}, ¬ emR (dl, x, false) = true → (∀ key, hasB (dl, x, false) key = true ↔ hasB (dl, y, b) key = true) → b = false ∧ cmp y x ≤ 0 := by
      intro x y b hx hh
      have g1 : cmp dl x ≤ 0 := by
        rw [emR_iff] at hx
        have := nle fun g => hx ⟨rfl, g⟩
        have : cmp dl x < 0 := this
        omega
      have g2 : ¬ hasB (dl, x, false) x = true := by
        rw [hasB_iff]
        rintro ⟨_, g | g⟩
        · cases g
        · rw [cmp_self] at g; omega
      rw [hh, hasB_iff] at g2
      cases b
      · exact ⟨rfl, nlt fun g => g2 ⟨g1, .inr g⟩⟩
      · exact absurd ⟨g1, .inl rfl⟩ g2
    cases da <;> cases ea
    · have b1 := (key h1 h).2
      have b2 := (key h2 (fun k => (h k).symm)).2
      have b3 := cmp_anti dh eh
      rw [(cmp_eq dh eh).1 (by omega)]
    · have := (key h1 h).1
      cases this
    · have := (key h2 (fun k => (h k).symm)).1
      cases this
    · rw [foR, if_neg h1, if_pos rfl] at hd
      rw [foR, if_neg h2, if_pos rfl] at he
      rw [← hd, ← he]
theorem nil_le (key : Bs) : cmp [] key ≤ 0 := by
  cases key with
  | nil => rw [cmp_self]; omega
  | cons x r =>
    have h := cmp_common [] (x :: r)
    have e : common [] (x :: r) = 0 := rfl
    rw [e] at h
    simp at h
    omega
theorem has_lt {b key : Bs} : hasB ([], b, false) key = true ↔ cmp key b < 0 := by
  rw [hasB_iff]
  simp [nil_le]
theorem beR_iff {a b : T3} : beR a b = true ↔ a.2.2 = false ∧ (b.2.2 = true ∨ cmp a.2.1 b.2.1 < 0) := by simp [beR]
/-- The keys of a that are ahead of b's, and those behind them. -/
def miR (a b : T3) : T3 × T3 := if emR b = true then (foR a, t30) else (meR a ([], b.1, false), if b.2.2 = true then t30 else meR a (b.2.1, [], true))
theorem has_t30 {key : Bs} : ¬ hasB t30 key = true := has_em emR_t30
theorem has_ge {b key : Bs} : hasB (b, [], true) key = true ↔ cmp b key ≤ 0 := by
  rw [hasB_iff]
  simp
theorem has_mi {a b : T3} {key : Bs} : (hasB (miR a b).1 key = true ∨ hasB (miR a b).2 key = true) ↔ hasB a key = true ∧ ¬ hasB b key = true := by
  unfold miR
  split
  · rename_i h
    simp only
    rw [has_fo]
    exact ⟨fun g => ⟨g.resolve_right has_t30, has_em h⟩, fun g => .inl g.1⟩
  · rename_i h
    simp only
    rw [has_me, has_lt, hasB_iff (d := b)]
    have k1 := cmp_anti b.1 key
    have k2 := cmp_anti b.2.1 key
    split
    · rename_i h2
      constructor
      · rintro (g | g)
        · exact ⟨g.1, fun g' => by omega⟩
        · exact absurd g has_t30
      · rintro ⟨g1, g2⟩
        refine .inl ⟨g1, ?_⟩
        have : ¬ cmp b.1 key ≤ 0 := fun g3 => g2 ⟨g3, .inl h2⟩
        omega
    · rename_i h2
      rw [has_me, has_ge]
      have h2' : b.2.2 = false := by simpa using h2
      constructor
      · rintro (g | g)
        · exact ⟨g.1, fun g' => by omega⟩
        · refine ⟨g.1, fun g' => ?_⟩
          rcases g'.2 with g3 | g3
          · exact h2 g3
          · omega
      · rintro ⟨g1, g2⟩
        by_cases g3 : cmp b.1 key ≤ 0
        · have : ¬ cmp key b.2.1 < 0 := fun g4 => g2 ⟨g3, .inr g4⟩
          exact .inr ⟨g1, by omega⟩
        · exact .inl ⟨g1, by omega⟩
theorem mi_fo1 (a b : T3) : foR (miR a b).1 = (miR a b).1 := by
  unfold miR
  split
  · exact fo_fo _
  · exact fo_me _ _
theorem fo_t30 : foR t30 = t30 := by rw [foR, if_pos emR_t30]
theorem mi_fo2 (a b : T3) : foR (miR a b).2 = (miR a b).2 := by
  unfold miR
  split
  · exact fo_t30
  · simp only
    split
    · exact fo_t30
    · exact fo_me _ _
/-! ### Covers -/
/-- Ranges that rise and do not touch, each with a key, in its form. -/
def SepR : List T3 → Prop
  | [] => True
  | [a] => foR a = a ∧ ¬ emR a = true
  | a :: b :: r => (foR a = a ∧ ¬ emR a = true) ∧ (a.2.2 = false ∧ cmp a.2.1 b.1 < 0) ∧ SepR (b :: r)
def inU (l : List T3) (key : Bs) : Prop := ∃ r ∈ l, hasB r key = true
theorem SepR.tail {a : T3} {l : List T3} (h : SepR (a :: l)) : SepR l := by
  cases l with
  | nil => trivial
  | cons b r => exact h.2.2
theorem SepR.head {a : T3} {l : List T3} (h : SepR (a :: l)) : foR a = a ∧ ¬ emR a = true := by
  cases l with
  | nil => exact h
  | cons b r => exact h.1
/-- All that is behind the first is above its end. -/
theorem SepR.above : ∀ {l : List T3} {a : T3}, SepR (a :: l) → ∀ b ∈ l, a.2.2 = false ∧ cmp a.2.1 b.1 < 0
  | [], _, _, b, hb => by simp at hb
  | c :: r, a, h, b, hb => by
    rcases List.mem_cons.1 hb with rfl | hb
    · exact h.2.1
    · have h1 := h.2.1
      have h2 := SepR.above h.2.2 b hb
      have h3 := h.2.2.head.2
      refine ⟨h1.1, ?_⟩
      rw [emR_iff] at h3
      have h4 := nle fun g => h3 ⟨h2.1, g⟩
      exact lt_tr (lt_tr h1.2 (by omega : cmp c.1 c.2.1 ≤ 0)) (by omega : cmp c.2.1 b.1 ≤ 0)
theorem sep_uniq : ∀ {l m : List T3}, SepR l → SepR m → (∀ key, inU l key ↔ inU m key) → l = m
  | [], [], _, _, _ => rfl
  | [], b :: m, _, hm, h => by
    obtain ⟨r, hr, _⟩ := (h b.1).2 ⟨b, by simp, ne_has hm.head.2⟩
    simp at hr
  | a :: l, [], hl, _, h => by
    obtain ⟨r, hr, _⟩ := (h a.1).1 ⟨a, by simp, ne_has hl.head.2⟩
    simp at hr
  | a :: l, b :: m, hl, hm, h => by
    have low : ∀ {a : T3} {l : List T3} {key : Bs}, SepR (a :: l) → inU (a :: l) key → cmp a.1 key ≤ 0 := by
      intro a l key hl ⟨r, hr, hk⟩
      rcases List.mem_cons.1 hr with rfl | hr
      · exact (hasB_iff.1 hk).1
      · have h1 := hl.above r hr
        have h2 := hl.head.2
        rw [emR_iff] at h2
        have h3 := nle fun g => h2 ⟨h1.1, g⟩
        have h4 := (hasB_iff.1 hk).1
        have h5 := lt_tr h3 (by omega : cmp a.2.1 r.1 ≤ 0)
        exact le_tr (by omega : cmp a.1 r.1 ≤ 0) h4
    have e1 : a.1 = b.1 := by
      have g1 := low hm ((h a.1).1 ⟨a, by simp, ne_has hl.head.2⟩)
      have g2 := low hl ((h b.1).2 ⟨b, by simp, ne_has hm.head.2⟩)
      have := cmp_anti a.1 b.1
      exact (cmp_eq _ _).1 (by omega)
    have key1 : ∀ {a b : T3} {l m : List T3}, SepR (a :: l) → SepR (b :: m) → (∀ key, inU (a :: l) key → inU (b :: m) key) → a.1 = b.1 → ∀ key, hasB a key = true → hasB b key = true := by
      intro a b l m hl hm h e key hk
      cases hb : hasB b key
      · exfalso
        have hk1 := hasB_iff.1 hk
        have hb1 : ¬ hasB b key = true := by rw [hb]; decide
        rw [hasB_iff] at hb1
        have hbf : b.2.2 = false := by
          cases g : b.2.2
          · rfl
          · exact absurd ⟨by rw [← e]; exact hk1.1, .inl g⟩ hb1
        have hbk : cmp b.2.1 key ≤ 0 := nlt fun g => hb1 ⟨by rw [← e]; exact hk1.1, .inr g⟩
        have hbn := hm.head.2
        rw [emR_iff] at hbn
        have hlo := nle fun g => hbn ⟨hbf, g⟩
        have hin : hasB a b.2.1 = true := hasB_iff.2 ⟨by rw [e]; omega, hk1.2.imp id fun g => tr_lt hbk g⟩
        obtain ⟨r, hr, hrk⟩ := h _ ⟨a, by simp, hin⟩
        rcases List.mem_cons.1 hr with rfl | hr
        · have := (hasB_iff.1 hrk).2
          rw [hbf, cmp_self] at this
          rcases this with g | g
          · cases g
          · omega
        · have g1 := (hm.above r hr).2
          have g2 := (hasB_iff.1 hrk).1
          have := cmp_anti b.2.1 r.1
          omega
      · rfl
    have e2 : a = b := form_ext hl.head.1 hm.head.1 fun key => ⟨key1 hl hm (fun k => (h k).1) e1 key, key1 hm hl (fun k => (h k).2) e1.symm key⟩
    subst e2
    have disj : ∀ {a : T3} {l : List T3} {key : Bs}, SepR (a :: l) → inU l key → ¬ hasB a key = true := by
      intro a l key hl ⟨r, hr, hk⟩ hak
      have g1 := hl.above r hr
      have g2 := (hasB_iff.1 hk).1
      have g3 := (hasB_iff.1 hak).2.resolve_left (by rw [g1.1]; decide)
      have g4 := lt_tr (lt_tr g3 (by omega : cmp a.2.1 r.1 ≤ 0)) g2
      rw [cmp_self] at g4
      omega
    rw [sep_uniq hl.tail hm.tail fun key => ?_]
    constructor
    · rintro ⟨r, hr, hk⟩
      obtain ⟨q, hq, hqk⟩ := (h key).1 ⟨r, by simp [hr], hk⟩
      rcases List.mem_cons.1 hq with rfl | hq
      · exact absurd hqk (disj hl ⟨r, hr, hk⟩)
      · exact ⟨q, hq, hqk⟩
    · rintro ⟨r, hr, hk⟩
      obtain ⟨q, hq, hqk⟩ := (h key).2 ⟨r, by simp [hr], hk⟩
      rcases List.mem_cons.1 hq with rfl | hq
      · exact absurd hqk (disj hm ⟨r, hr, hk⟩)
      · exact ⟨q, hq, hqk⟩
end Go.Sx

