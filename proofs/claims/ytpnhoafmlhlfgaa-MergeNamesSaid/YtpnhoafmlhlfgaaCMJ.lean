/- Part of a proof: the puts among the pieces, in plain words. -/
import Derived.Test.YtpnhoafmlhlfgaaCMI
namespace Go.Sx
open Go
theorem ndp_len {α : Type} [DecidableEq α] : ∀ (xs ys : List α), xs.Pairwise (· ≠ ·) → (∀ x ∈ xs, x ∈ ys) → xs.length ≤ ys.length
  | [], _, _, _ => Nat.zero_le _
  | x :: xs, ys, h, hs => by
    obtain ⟨h1, h2⟩ := List.pairwise_cons.1 h
    have hx := hs x (by simp)
    have := ndp_len xs (ys.erase x) h2 fun y hy => (List.mem_erase_of_ne (h1 y hy).symm).2 (hs y (List.mem_cons_of_mem _ hy))
    rw [List.length_erase_of_mem hx] at this
    have : 0 < ys.length := List.length_pos_of_mem hx
    rw [List.length_cons]
    omega
theorem getM_put : ∀ {l : List MD} {key v : Bs}, getM l key = some (some v) → ∃ m ∈ l, m.kd = 1 ∧ m.v = v ∧ m.lo = key
  | [], _, _, h => by cases h
  | m :: r, key, v, h => by
    unfold getM at h
    split at h
    · rename_i o ho
      cases h
      obtain ⟨m', h1, h2⟩ := getM_put ho
      exact ⟨m', List.mem_cons_of_mem _ h1, h2⟩
    · split at h
      · rename_i hb
        split at h
        · rename_i hk
          simp only [Option.some.injEq] at h
          refine ⟨m, by simp, hk, h, ?_⟩
          rw [show saidR m = (m.lo, m.lo ++ [0], false) by simp [saidR, hk]] at hb
          exact (has_one.1 hb).symm
        · cases h
      · cases h
theorem put_get {ms : List MD} {ps : List PD} (h : IsMean ms ps) {p : PD} (hp : p ∈ ps) (hb : p.put = true) : getM ms p.key = some (some p.v) :=
  (h.2 p.key (some p.v)).1 ⟨p, hp, by unfold spP; rw [if_pos hb, if_pos rfl]⟩
abbrev ptsL (ps : List PD) : List Pp := (ps.filter PD.put).map fun p => (p.key, p.v)
theorem ptsL_mem {ms : List MD} {ps : List PD} (h : IsMean ms ps) {e : Pp} (he : e ∈ ptsL ps) : ∃ m ∈ ms, m.kd = 1 ∧ m.v = e.2 ∧ m.lo = e.1 := by
  obtain ⟨p, hp, rfl⟩ := List.mem_map.1 he
  obtain ⟨h1, h2⟩ := List.mem_filter.1 hp
  exact getM_put (put_get h h1 h2)
theorem ptsL_lt {ms : List MD} {ps : List PD} (h : IsMean ms ps) : (ptsL ps).Pairwise fun a b => cmp a.1 b.1 < 0 := by
  rw [List.pairwise_map]
  refine ((h.1.2.filter PD.put).imp_of_mem ?_)
  intro a b ha hb hs
  have h1 := hs.1
  simp only [endP, atP, (List.mem_filter.1 ha).2, (List.mem_filter.1 hb).2, if_true] at h1
  exact lt_tr (by rw [cmp_next]; decide) h1
theorem ptsL_len {ms : List MD} {ps : List PD} (h : IsMean ms ps) : (ptsL ps).length ≤ ms.length := by
  have := ndp_len ((ptsL ps).map Prod.fst) (ms.map MD.lo) (by
    rw [List.pairwise_map]
    refine (ptsL_lt h).imp ?_
    intro a b hab e
    rw [e, cmp_self] at hab
    omega) (by
    intro x hx
    obtain ⟨e, he, rfl⟩ := List.mem_map.1 hx
    obtain ⟨m, h1, _, _, h2⟩ := ptsL_mem h he
    exact List.mem_map.2 ⟨m, h1, h2⟩)
  simpa using this
theorem ptsL_take {ps : List PD} {i : Nat} : (ptsL (ps.take i)).length ≤ (ptsL ps).length := by
  unfold ptsL
  rw [List.length_map, List.length_map]
  exact ((List.take_sublist i ps).filter _).length_le
end Go.Sx
