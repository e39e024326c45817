/- Part of a proof: lives, in plain words: their order, what is put in, what is freed, what is held. -/
import Derived.Test.YtceandgmpcpmfaaCKB
namespace Go.Sx
open Go

/-- A life of a page. -/
structure Lf where
  p : Int
  b : Int
  d : Int
theorem Lf.ext' {x y : Lf} (h1 : x.p = y.p) (h2 : x.b = y.b) (h3 : x.d = y.d) : x = y := by
  cases x; cases y; simp only at h1 h2 h3; subst h1; subst h2; subst h3; rfl
instance : DecidableEq Lf := fun x y => decidable_of_iff (x.p = y.p ∧ x.b = y.b ∧ x.d = y.d) ⟨fun h => Lf.ext' h.1 h.2.1 h.2.2, fun h => by subst h; exact ⟨rfl, rfl, rfl⟩⟩
def Lf.cells (x : Lf) : List Value := [.int .i64 x.p, .int .u64 x.b, .int .u64 x.d]
instance : Cel Lf := ⟨3, Lf.cells, fun _ => rfl, fun _ => rfl, by decide⟩
/-- May it be? -/
abbrev Lf.bad (x : Lf) : Prop := x.p < 2 ∨ 65536 ≤ x.p ∨ x.d ≤ x.b
/-- Do two meet? -/
abbrev Lf.ov (y x : Lf) : Prop := y.p = x.p ∧ y.b < x.d ∧ x.b < y.d
abbrev Lf.lt (y x : Lf) : Prop := if y.p = x.p then y.b < x.b else y.p < x.p
abbrev Lf.need (g : Int) (x : Lf) : Prop := x.b ≤ g ∧ g < x.d
def sgn (a b : Int) : Int := if a < b then -1 else if b < a then 1 else 0
/-- The order in which they stand. -/
def Lf.cmp (y x : Lf) : Int := if y = x then 0 else if sgn y.p x.p ≠ 0 then sgn y.p x.p else if sgn y.b x.b ≠ 0 then sgn y.b x.b else sgn y.d x.d
theorem Lf.cmp_neg {y x : Lf} : Lf.cmp y x < 0 ↔ y.p < x.p ∨ y.p = x.p ∧ (y.b < x.b ∨ y.b = x.b ∧ y.d < x.d) := by
  unfold Lf.cmp sgn
  by_cases e : y = x
  · subst e; simp
  · have : ¬ (y.p = x.p ∧ y.b = x.b ∧ y.d = x.d) := fun h => e (Lf.ext' h.1 h.2.1 h.2.2)
    rw [if_neg e]
    split <;> (try split) <;> (try split) <;> (try split) <;> (try split) <;> (try split) <;> (try split) <;> omega
theorem Lf.cmp_zero {y x : Lf} : Lf.cmp y x = 0 ↔ y = x := by
  unfold Lf.cmp sgn
  by_cases e : y = x
  · subst e; simp
  · have : ¬ (y.p = x.p ∧ y.b = x.b ∧ y.d = x.d) := fun h => e (Lf.ext' h.1 h.2.1 h.2.2)
    rw [if_neg e]
    refine ⟨fun h => ?_, fun h => absurd h e⟩
    exfalso
    revert h
    split <;> (try split) <;> (try split) <;> (try split) <;> (try split) <;> (try split) <;> (try split) <;> omega
/-- Lists as they may be. -/
def Ahead (a b : Lf) : Prop := a.p < b.p ∨ a.p = b.p ∧ a.d ≤ b.b
def Srt (xs : List Lf) : Prop := xs.Pairwise Ahead ∧ ∀ x ∈ xs, ¬ x.bad
def putE (xs : List Lf) (x : Lf) : Int := if x.bad then 101 else if xs.any (fun y => decide (y.ov x)) then 102 else 0
def ins (xs : List Lf) (x : Lf) : List Lf := xs.takeWhile (fun y => decide (y.lt x)) ++ x :: xs.dropWhile (fun y => decide (y.lt x))
def putV (xs : List Lf) (x : Lf) : List Lf := if putE xs x = 0 then ins xs x else xs
theorem Srt.nil : Srt [] := ⟨.nil, by simp⟩
theorem mem_takeWhile {α : Type} {p : α → Bool} : ∀ {l : List α} {x : α}, x ∈ l.takeWhile p → p x = true ∧ x ∈ l
  | [], _, h => by simp at h
  | y :: l, x, h => by
    rw [List.takeWhile_cons] at h
    split at h
    · rename_i hy
      rcases List.mem_cons.1 h with rfl | h
      · exact ⟨hy, by simp⟩
      · have := mem_takeWhile h
        exact ⟨this.1, by simp [this.2]⟩
    · simp at h
theorem putE_0 {xs : List Lf} {x : Lf} (h : putE xs x = 0) : ¬ x.bad ∧ ∀ y ∈ xs, ¬ y.ov x := by
  unfold putE at h
  split at h
  · cases h
  · rename_i h1
    split at h
    · cases h
    · rename_i h2
      refine ⟨h1, fun y hy ho => h2 ?_⟩
      exact List.any_eq_true.2 ⟨y, hy, decide_eq_true ho⟩
/-- Of those that stand behind one that is not ahead, none is. -/
theorem Srt.tail {y : Lf} {xs : List Lf} (h : Srt (y :: xs)) : Srt xs := ⟨(List.pairwise_cons.1 h.1).2, fun x hx => h.2 x (by simp [hx])⟩
theorem ins_srt : ∀ {xs : List Lf} {x : Lf}, Srt xs → ¬ x.bad → (∀ y ∈ xs, ¬ y.ov x) → Srt (ins xs x)
  | [], x, _, hb, _ => ⟨by simp [ins], by simpa [ins] using hb⟩
  | y :: xs, x, h, hb, ho => by
    have hy := List.pairwise_cons.1 h.1
    have hyb := h.2 y (by simp)
    have hyo := ho y (by simp)
    by_cases hl : y.lt x
    · have ih := ins_srt h.tail hb (fun z hz => ho z (by simp [hz]))
      have e : ins (y :: xs) x = y :: ins xs x := by
        unfold ins
        rw [List.takeWhile_cons, List.dropWhile_cons, decide_eq_true hl]
        rfl
      rw [e]
      refine ⟨List.pairwise_cons.2 ⟨fun z hz => ?_, ih.1⟩, fun z hz => ?_⟩
      · have : z = x ∨ z ∈ xs := by
          unfold ins at hz
          rcases List.mem_append.1 hz with g | g
          · exact .inr (mem_takeWhile g).2
          · rcases List.mem_cons.1 g with g | g
            · exact .inl g
            · exact .inr (List.dropWhile_subset _ g)
        rcases this with rfl | g
        · show y.p < z.p ∨ y.p = z.p ∧ y.d ≤ z.b
          simp only [Lf.lt, Lf.ov, Lf.bad] at *
          split at hl <;> omega
        · exact hy.1 z g
      · rcases List.mem_cons.1 hz with rfl | hz
        · exact hyb
        · exact ih.2 z hz
    · have e : ins (y :: xs) x = x :: y :: xs := by
        unfold ins
        rw [List.takeWhile_cons, List.dropWhile_cons, decide_eq_false hl]
        rfl
      rw [e]
      refine ⟨List.pairwise_cons.2 ⟨fun z hz => ?_, h.1⟩, fun z hz => ?_⟩
      · have key : Ahead x y := by
          show x.p < y.p ∨ x.p = y.p ∧ x.d ≤ y.b
          simp only [Lf.lt, Lf.ov, Lf.bad] at *
          split at hl <;> omega
        rcases List.mem_cons.1 hz with rfl | hz
        · exact key
        · have h2 := hy.1 z hz
          unfold Ahead at key h2 ⊢
          simp only [Lf.bad] at *
          omega
      · rcases List.mem_cons.1 hz with rfl | hz
        · exact hb
        · exact h.2 z hz
theorem putV_srt {xs : List Lf} {x : Lf} (h : Srt xs) : Srt (putV xs x) := by
  unfold putV
  split
  · rename_i h0
    have := putE_0 h0
    exact ins_srt h this.1 this.2
  · exact h
/-- What the neighbours say, all say. -/
theorem at_pos {xs : List Lf} {x : Lf} (h : Srt xs) (hb : ¬ x.bad) {i : Nat} (hi : i ≤ xs.length) (h1 : ∀ k y, k < i → xs[k]? = some y → Lf.cmp y x < 0) (h2 : ∀ k y, i ≤ k → xs[k]? = some y → 0 ≤ Lf.cmp y x)
    (n1 : ∀ k y, k + 1 = i → xs[k]? = some y → ¬ y.ov x) (n2 : ∀ y, xs[i]? = some y → ¬ y.ov x) : ∀ y ∈ xs, ¬ y.ov x := by
  intro y hy ho
  obtain ⟨j, hj⟩ := List.getElem?_of_mem hy
  have pw : ∀ a b u v, a < b → xs[a]? = some u → xs[b]? = some v → Ahead u v := fun a b u v hab hu hv => by
    obtain ⟨ha, ea⟩ := List.getElem?_eq_some_iff.1 hu
    obtain ⟨hb', eb⟩ := List.getElem?_eq_some_iff.1 hv
    have := (List.pairwise_iff_getElem.1 h.1) a b ha hb' hab
    rw [ea, eb] at this
    exact this
  rcases Nat.lt_or_ge j i with hlt | hge
  · by_cases e : j + 1 = i
    · exact n1 j y e hj ho
    · have hl : i - 1 < xs.length := by omega
      have hz := List.getElem?_eq_getElem hl
      have c1 := Lf.cmp_neg.1 (h1 (i - 1) _ (by omega) hz)
      have c2 := pw j (i - 1) _ _ (by omega) hj hz
      have c3 := h.2 _ (List.getElem_mem hl)
      generalize xs[i - 1] = z at *
      unfold Ahead at c2
      simp only [Lf.ov, Lf.bad] at *
      omega
  · by_cases e : j = i
    · subst e; exact n2 y hj ho
    · have hjl := (List.getElem?_eq_some_iff.1 hj).1
      have hl : i < xs.length := by omega
      have hz := List.getElem?_eq_getElem hl
      have c1 := h2 i _ (Nat.le_refl _) hz
      have c2 := pw i j _ _ (by omega) hz hj
      have c3 := h.2 _ (List.getElem_mem hl)
      have c4 := n2 _ hz
      have c5 : ¬ Lf.cmp xs[i] x < 0 := by omega
      rw [Lf.cmp_neg] at c5
      generalize xs[i] = z at *
      unfold Ahead at c2
      simp only [Lf.ov, Lf.bad] at *
      omega
theorem takeWhile_at {α : Type} {p : α → Bool} : ∀ {xs : List α} {i : Nat}, i ≤ xs.length → (∀ k y, k < i → xs[k]? = some y → p y = true) → (∀ y, xs[i]? = some y → p y = false) → xs.takeWhile p = xs.take i ∧ xs.dropWhile p = xs.drop i
  | [], i, hi, _, _ => by simp
  | y :: xs, 0, _, _, h2 => by
    have := h2 y rfl
    simp [this]
  | y :: xs, i + 1, hi, h1, h2 => by
    have hy := h1 0 y (by omega) rfl
    have ih := takeWhile_at (xs := xs) (i := i) (p := p) (by simpa using hi) (fun k z hk hz => h1 (k + 1) z (by omega) (by simpa using hz)) (fun z hz => h2 z (by simpa using hz))
    simp [hy, ih.1, ih.2]
/-- Where it is put. -/
theorem ins_at {xs : List Lf} {x : Lf} (h : Srt xs) (hb : ¬ x.bad) {i : Nat} (hi : i ≤ xs.length) (h1 : ∀ k y, k < i → xs[k]? = some y → Lf.cmp y x < 0) (h2 : ∀ k y, i ≤ k → xs[k]? = some y → 0 ≤ Lf.cmp y x)
    (ho : ∀ y ∈ xs, ¬ y.ov x) : ins xs x = xs.take i ++ x :: xs.drop i := by
  have key := takeWhile_at (xs := xs) (p := fun y => decide (y.lt x)) hi (fun k y hk hy => decide_eq_true (by
    have c1 := Lf.cmp_neg.1 (h1 k y hk hy)
    have c2 := ho y (List.mem_of_getElem? hy)
    have c3 := h.2 y (List.mem_of_getElem? hy)
    simp only [Lf.lt, Lf.ov, Lf.bad] at *
    split <;> omega)) (fun y hy => decide_eq_false (fun hl => by
    have c1 := h2 i y (Nat.le_refl _) hy
    have c5 : ¬ Lf.cmp y x < 0 := by omega
    rw [Lf.cmp_neg] at c5
    simp only [Lf.lt] at hl
    split at hl <;> omega))
  unfold ins
  rw [key.1, key.2]
theorem putE_102 {xs : List Lf} {x y : Lf} (hb : ¬ x.bad) (hy : y ∈ xs) (ho : y.ov x) : putE xs x = 102 := by
  unfold putE
  rw [if_neg hb, if_pos (List.any_eq_true.2 ⟨y, hy, decide_eq_true ho⟩)]
theorem putE_ok {xs : List Lf} {x : Lf} (hb : ¬ x.bad) (ho : ∀ y ∈ xs, ¬ y.ov x) : putE xs x = 0 := by
  unfold putE
  rw [if_neg hb, if_neg]
  intro h
  obtain ⟨y, h1, h2⟩ := List.any_eq_true.1 h
  exact ho y h1 (of_decide_eq_true h2)
theorem putE_101 {xs : List Lf} {x : Lf} (hb : x.bad) : putE xs x = 101 := if_pos hb

/-- Needed by one of some. -/
abbrev anyN (ss : List Int) (x : Lf) : Prop := ∃ s ∈ ss, x.need s
instance (ss : List Int) (x : Lf) : Decidable (anyN ss x) := List.decidableBEx ..
def heldV (xs : List Lf) (g : Int) : List Int := (xs.filter fun x => decide (x.need g)).map Lf.p
def keptV (xs : List Lf) (ss : List Int) : List Lf := xs.filter fun x => decide (anyN ss x)
/-- Each number once, of equal ones that stand side by side. -/
def dd : List Int → List Int
  | [] => []
  | [a] => [a]
  | a :: b :: r => if a = b then dd (b :: r) else a :: dd (b :: r)
def outV (xs : List Lf) (ss : List Int) : List Int := (xs.filter fun x => !decide (anyN ss x)).map Lf.p
def freeV (xs : List Lf) (ss : List Int) : List Int := dd (outV xs ss)
theorem filter_srt {xs : List Lf} {f : Lf → Bool} (h : Srt xs) : Srt (xs.filter f) := ⟨h.1.filter _, fun x hx => h.2 x (List.mem_filter.1 hx).1⟩
theorem dd_len : ∀ (l : List Int), (dd l).length ≤ l.length
  | [] => Nat.le_refl _
  | [_] => Nat.le_refl _
  | a :: b :: r => by
    have := dd_len (b :: r)
    rw [dd]
    split
    · simp only [List.length_cons] at *; omega
    · simp only [List.length_cons] at *; omega
/-- One more at the end. -/
theorem dd_snoc : ∀ (l : List Int) (x : Int), dd (l ++ [x]) = if l.getLast? = some x then dd l else dd l ++ [x]
  | [], x => by simp [dd]
  | [a], x => by
    by_cases h : a = x
    · subst h; simp [dd]
    · simp [dd, h]
  | a :: b :: r, x => by
    have ih := dd_snoc (b :: r) x
    have e : (a :: b :: r).getLast? = (b :: r).getLast? := by simp [List.getLast?_cons_cons]
    rw [e]
    show dd (a :: b :: (r ++ [x])) = _
    have e2 : dd (b :: (r ++ [x])) = _ := ih
    rw [dd, e2, dd]
    by_cases h : (b :: r).getLast? = some x
    · rw [if_pos h, if_pos h]
    · rw [if_neg h, if_neg h]
      split <;> rfl
theorem dd_last : ∀ (l : List Int), (dd l).getLast? = l.getLast?
  | [] => rfl
  | [_] => rfl
  | a :: b :: r => by
    have ih := dd_last (b :: r)
    rw [dd, List.getLast?_cons_cons]
    split
    · exact ih
    · rw [← ih]
      have hne : dd (b :: r) ≠ [] := fun h => by
        rw [h] at ih
        simp at ih
        exact absurd ih.symm (by simp [List.getLast?_eq_none_iff])
      cases hc : dd (b :: r) with
      | nil => exact absurd hc hne
      | cons u v => rw [List.getLast?_cons_cons]
end Go.Sx
