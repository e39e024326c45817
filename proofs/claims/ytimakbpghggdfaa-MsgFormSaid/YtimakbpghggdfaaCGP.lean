/- What pieces say of a key, counted; what stands side by side: in plain words. -/
import Derived.Test.YtimakbpghggdfaaCGA
namespace Go.Sx
open Go
def ofStep (key : Bs) (s : Nat × Option Bs) (p : PD) : Nat × Option Bs := match spP p key with
  | some (some v) => (s.1 + 1, some v)
  | some none => (s.1 + 1, s.2)
  | none => s
def ofP (ps : List PD) (key : Bs) : Nat × Option Bs := ps.foldl (ofStep key) (0, none)
theorem ofP_snoc (ps : List PD) (p : PD) (key : Bs) : ofP (ps ++ [p]) key = ofStep key (ofP ps key) p := by simp [ofP]
theorem ofP_le (ps : List PD) (key : Bs) : (ofP ps key).1 ≤ ps.length := by
  have h : ∀ (ps : List PD) (s : Nat × Option Bs), (ps.foldl (ofStep key) s).1 ≤ s.1 + ps.length := by
    intro ps
    induction ps with
    | nil => intro s; simp
    | cons p r ih =>
      intro s
      rw [List.foldl_cons, List.length_cons]
      have h1 := ih (ofStep key s p)
      have h2 : (ofStep key s p).1 ≤ s.1 + 1 := by
        unfold ofStep
        split <;> simp
      omega
  have := h ps (0, none)
  simpa [ofP] using this
theorem sp_one {a b : PD} {key : Bs} {o : Option Bs} (ha : okP a) (hb : okP b) (h : stepP a b) (hs : spP a key = some o) : spP b key = none := by
  rcases e : spP b key with _ | q
  · rfl
  · have h1 := sp_in ha hs
    have h2 := sp_in hb e
    have h3 := tr_lt h2.1 h1.2
    have h4 := tr_lt h.1 h3
    rw [cmp_self] at h4
    omega
theorem of_none {key : Bs} : ∀ {ps : List PD} (s : Nat × Option Bs), (∀ p ∈ ps, spP p key = none) → ps.foldl (ofStep key) s = s
  | [], s, _ => rfl
  | p :: r, s, h => by
    rw [List.foldl_cons]
    have : ofStep key s p = s := by unfold ofStep; rw [h p (by simp)]
    rw [this]
    exact of_none s fun x hx => h x (by simp [hx])
theorem of_wf {key : Bs} : ∀ {ps : List PD} (s : Nat × Option Bs), WfP ps → (∃ p o, p ∈ ps ∧ spP p key = some o ∧ ps.foldl (ofStep key) s = (s.1 + 1, match o with | some v => some v | none => s.2)) ∨ ((∀ o, ¬ PIn ps key o) ∧ ps.foldl (ofStep key) s = s)
  | [], s, _ => .inr ⟨fun o ⟨p, hp, _⟩ => (by cases hp), rfl⟩
  | p :: r, s, h => by
    obtain ⟨g1, g2⟩ := List.pairwise_cons.1 h.2
    rw [List.foldl_cons]
    rcases e : spP p key with _ | o
    · have e1 : ofStep key s p = s := by unfold ofStep; rw [e]
      rw [e1]
      rcases of_wf s ⟨fun x hx => h.1 x (by simp [hx]), g2⟩ with ⟨q, o, hq, h1, h2⟩ | ⟨h1, h2⟩
      · exact .inl ⟨q, o, by simp [hq], h1, h2⟩
      · refine .inr ⟨fun o => ?_, h2⟩
        rintro ⟨x, hx, hs⟩
        rcases List.mem_cons.1 hx with rfl | hx
        · rw [e] at hs; cases hs
        · exact h1 o ⟨x, hx, hs⟩
    · refine .inl ⟨p, o, by simp, e, ?_⟩
      rw [of_none _ fun x hx => sp_one (h.1 p (by simp)) (h.1 x (by simp [hx])) (g1 x hx) e]
      unfold ofStep
      rw [e]
      cases o <;> rfl
/-- What pieces that are a meaning say of a key. -/
theorem of_mean {l : List MD} {ps : List PD} {key : Bs} (h : IsMean l ps) : ofP ps key = match getM l key with
    | none => (0, none)
    | some o => (1, o) := by
  unfold ofP
  rcases of_wf (key := key) (0, none) h.1 with ⟨p, o, hp, hs, e⟩ | ⟨h1, e⟩
  · rw [e, (h.2 key o).1 ⟨p, hp, hs⟩]
    cases o <;> rfl
  · rw [e]
    rcases g : getM l key with _ | o
    · rfl
    · exact absurd ((h.2 key o).2 g) (h1 o)
theorem wf_step {ps : List PD} (h : WfP ps) {i j : Nat} {a b : PD} (hij : i < j) (ha : ps[i]? = some a) (hb : ps[j]? = some b) : stepP a b := by
  obtain ⟨h1, e1⟩ := List.getElem?_eq_some_iff.1 ha
  obtain ⟨h2, e2⟩ := List.getElem?_eq_some_iff.1 hb
  rw [← e1, ← e2]
  exact List.pairwise_iff_getElem.1 h.2 i j h1 h2 hij
/-- Who puts what is there. -/
theorem getM_put {key v : Bs} : ∀ {l : List MD}, getM l key = some (some v) → ∃ m ∈ l, m.kd = 1 ∧ m.lo = key ∧ m.v = v
  | [], h => by simp [getM] at h
  | m :: r, h => by
    simp only [getM] at h
    rcases e : getM r key with _ | o
    · rw [e] at h
      simp only at h
      split at h
      · rename_i g
        simp only [Option.some.injEq] at h
        split at h
        · rename_i k
          simp only [Option.some.injEq] at h
          have hs : saidR m = (m.lo, m.lo ++ [0], false) := by unfold saidR; rw [if_pos (.inl k)]
          rw [hs, has_one] at g
          exact ⟨m, by simp, k, g.symm, h⟩
        · cases h
      · cases h
    · rw [e] at h
      simp only at h
      rw [h] at e
      obtain ⟨x, hx, k⟩ := getM_put e
      exact ⟨x, by simp [hx], k⟩
end Go.Sx
