/- Part of a proof: what Replace leaves alone, in plain words. -/
import Derived.Test.YtolnmecncilpeaaCBL
namespace Go.Sx
open Go Go.Proofs
theorem chl_no {ks : List Bs} {key : Bs} {j : Nat} {x : Bs} (h : j < chl ks key) (hx : ks[j]? = some x) : ¬ 0 < cmp x key := by
  have h1 := List.not_of_lt_findIdx h
  obtain ⟨hj, rfl⟩ := List.getElem?_eq_some_iff.1 hx
  simpa using h1
theorem chl_len (ks : List Bs) (key : Bs) : chl ks key ≤ ks.length := List.findIdx_le_length
theorem chl_le {ks : List Bs} {key : Bs} {j : Nat} {x : Bs} (hx : ks[j]? = some x) (h : 0 < cmp x key) : chl ks key ≤ j := by
  rcases Nat.lt_or_ge j (chl ks key) with h1 | h1
  · exact absurd h (chl_no h1 hx)
  · exact h1
theorem chl_yes {ks : List Bs} {key : Bs} {x : Bs} (hx : ks[chl ks key]? = some x) : 0 < cmp x key := by
  obtain ⟨hj, rfl⟩ := List.getElem?_eq_some_iff.1 hx
  have := List.findIdx_getElem (w := hj)
  show 0 < cmp ks[List.findIdx (fun x => decide (0 < cmp x key)) ks] key
  simpa using this
theorem ris_lt {ks : List Bs} (h : risK ks = true) : ∀ (n a : Nat) (x y : Bs), ks[a]? = some x → ks[a + 1 + n]? = some y → cmp x y < 0
  | 0, a, x, y, hx, hy => risK_iff.1 h a x y hx hy
  | n + 1, a, x, y, hx, hy => by
    obtain ⟨z, hz⟩ := get_lt ks (a + 1 + n) (by have := (List.getElem?_eq_some_iff.1 hy).1; omega)
    have h1 := ris_lt h n a x z hx hz
    have h2 := risK_iff.1 h (a + 1 + n) z y hz hy
    exact (cmp_lt_trans x z y (by omega) (by omega)).2 (.inl h1)
theorem ris_at {ks : List Bs} (h : risK ks = true) {a b : Nat} {x y : Bs} (hab : a < b) (hx : ks[a]? = some x) (hy : ks[b]? = some y) : cmp x y < 0 :=
  ris_lt h (b - a - 1) a x y hx (by rw [show a + 1 + (b - a - 1) = b by omega]; exact hy)
theorem stay_law {ks bs : List Bs} {i j : Nat} {key : Bs} (hk : risK ks = true) (hr : risK (ks.take i ++ bs ++ ks.drop (j - 1)) = true) (hij : i < j) (hj : j ≤ ks.length + 1) :
    (chl ks key < i → chl (ks.take i ++ bs ++ ks.drop (j - 1)) key = chl ks key) ∧
    (j ≤ chl ks key → chl (ks.take i ++ bs ++ ks.drop (j - 1)) key + (j - i) = chl ks key + (bs.length + 1)) ∧
    (i ≤ chl ks key → chl ks key < j → i ≤ chl (ks.take i ++ bs ++ ks.drop (j - 1)) key ∧ chl (ks.take i ++ bs ++ ks.drop (j - 1)) key ≤ i + bs.length) := by
  have hti : (ks.take i).length = i := by rw [List.length_take]; omega
  have r1 : ∀ a, a < i → (ks.take i ++ bs ++ ks.drop (j - 1))[a]? = ks[a]? := fun a ha => by
    rw [List.append_assoc, List.getElem?_append_left (by omega), List.getElem?_take, if_pos ha]
  have r2 : ∀ c, c < bs.length → (ks.take i ++ bs ++ ks.drop (j - 1))[i + c]? = bs[c]? := fun c hc => by
    rw [List.getElem?_append_left (by rw [List.length_append]; omega), List.getElem?_append_right (by omega), hti]
    congr 1
    omega
  have r3 : ∀ c, (ks.take i ++ bs ++ ks.drop (j - 1))[i + bs.length + c]? = ks[j - 1 + c]? := fun c => by
    rw [List.getElem?_append_right (by rw [List.length_append]; omega), List.length_append, hti, List.getElem?_drop]
    congr 1
    omega
  have rl : (ks.take i ++ bs ++ ks.drop (j - 1)).length = i + bs.length + (ks.length - (j - 1)) := by
    rw [List.length_append, List.length_append, hti, List.length_drop]
  generalize hR : ks.take i ++ bs ++ ks.drop (j - 1) = R at *
  have hn := chl_len ks key
  have hm := chl_len R key
  refine ⟨fun h => ?_, fun h => ?_, fun h g => ?_⟩
  · obtain ⟨x, hx⟩ := get_lt ks (chl ks key) (by omega)
    exact chl_eq (fun a y ha hy => chl_no ha (by rw [← r1 a (by omega)]; exact hy)) (by rw [r1 _ h]; exact hx) (chl_yes hx)
  · obtain ⟨y, hy⟩ := get_lt ks (j - 1) (by omega)
    have hyk := chl_no (ks := ks) (key := key) (by omega) hy
    have hyR : R[i + bs.length]? = some y := by have := r3 0; rw [Nat.add_zero, Nat.add_zero] at this; rw [this]; exact hy
    have hno : ∀ a x, a < i + bs.length + (chl ks key - (j - 1)) → R[a]? = some x → ¬ 0 < cmp x key := by
      intro a x ha hx
      rcases Nat.lt_or_ge a i with h1 | h1
      · exact chl_no (ks := ks) (j := a) (by omega) (by rw [← r1 a h1]; exact hx)
      · rcases Nat.lt_or_ge a (i + bs.length) with h2 | h2
        · have h3 := ris_at hr h2 hx hyR
          have h4 := (cmp_lt_trans x y key (by omega) (by omega)).1
          omega
        · have h3 := r3 (a - (i + bs.length))
          rw [show i + bs.length + (a - (i + bs.length)) = a by omega] at h3
          exact chl_no (ks := ks) (j := j - 1 + (a - (i + bs.length))) (by omega) (by rw [← h3]; exact hx)
    have hge := chl_ge (i := i + bs.length + (chl ks key - (j - 1))) hno (by omega)
    rcases Nat.lt_or_ge (chl ks key) ks.length with h5 | h5
    · obtain ⟨z, hz⟩ := get_lt ks (chl ks key) h5
      have h6 := r3 (chl ks key - (j - 1))
      rw [show j - 1 + (chl ks key - (j - 1)) = chl ks key by omega, hz] at h6
      have h7 := chl_le h6 (chl_yes hz)
      omega
    · omega
  · refine ⟨chl_ge (fun a x ha hx => chl_no (ks := ks) (j := a) (by omega) (by rw [← r1 a ha]; exact hx)) (by omega), ?_⟩
    rcases Nat.lt_or_ge (j - 1) ks.length with h5 | h5
    · obtain ⟨y, hy⟩ := get_lt ks (j - 1) h5
      obtain ⟨z, hz⟩ := get_lt ks (chl ks key) (by omega)
      have hyR : R[i + bs.length]? = some y := by have := r3 0; rw [Nat.add_zero, Nat.add_zero] at this; rw [this]; exact hy
      refine chl_le hyR ?_
      have hzk := chl_yes hz
      rcases Nat.lt_or_ge (chl ks key) (j - 1) with h6 | h6
      · have h7 := ris_at hk h6 hz hy
        have a1 := cmp_anti z key
        have a2 := cmp_anti y key
        have a3 := (cmp_lt_trans key z y (by omega) (by omega)).2 (.inl (by omega))
        omega
      · have e : chl ks key = j - 1 := by omega
        rw [e, hy] at hz
        cases hz
        exact hzk
    · omega
end Go.Sx
