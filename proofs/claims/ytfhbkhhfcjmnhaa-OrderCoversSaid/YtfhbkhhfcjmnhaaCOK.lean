/- Part of a proof: Cover by the document is a cover too. -/
import Derived.Test.YtfhbkhhfcjmnhaaCQ6
import Derived.Test.YtfhbkhhfcjmnhaaCQC
namespace Go.Sx
open Go Go.Proofs
theorem mgR_perm : ∀ (us vs : List Rg), (mgR us vs).Perm (us ++ vs)
  | [], ys => by rw [mgR_nil']; exact .refl _
  | x :: xs, [] => by rw [mgR_nil, List.append_nil]
  | x :: xs, y :: ys => by
    rw [mgR]
    split
    · exact (mgR_perm xs (y :: ys)).cons x
    · exact ((mgR_perm (x :: xs) ys).cons y).trans (List.perm_middle.symm)
termination_by us vs => us.length + vs.length
abbrev SrtR (l : List Rg) : Prop := l.Pairwise (fun x y => cmp x.lo y.lo ≤ 0)
theorem mgR_srt : ∀ (us vs : List Rg), SrtR us → SrtR vs → SrtR (mgR us vs)
  | [], ys, _, h => by rw [mgR_nil']; exact h
  | x :: xs, [], h, _ => by rw [mgR_nil]; exact h
  | x :: xs, y :: ys, h1, h2 => by
    have c1 := List.pairwise_cons.1 h1
    have c2 := List.pairwise_cons.1 h2
    rw [mgR]
    split
    · rename_i h
      refine List.pairwise_cons.2 ⟨fun z hz => ?_, mgR_srt xs (y :: ys) c1.2 h2⟩
      rcases mgR_mem _ _ z hz with hz | hz
      · exact c1.1 z hz
      · rcases List.mem_cons.1 hz with rfl | hz
        · exact h
        · exact le_tr h (c2.1 z hz)
    · rename_i h
      have h : cmp y.lo x.lo ≤ 0 := by have := nle h; omega
      refine List.pairwise_cons.2 ⟨fun z hz => ?_, mgR_srt (x :: xs) ys h1 c2.2⟩
      rcases mgR_mem _ _ z hz with hz | hz
      · rcases List.mem_cons.1 hz with rfl | hz
        · exact h
        · exact le_tr h (c1.1 z hz)
      · exact c2.1 z hz
termination_by us vs => us.length + vs.length
theorem byR_perm : ∀ (n : Nat) (l : List Rg), (byR n l).Perm l
  | 0, _ => .refl _
  | n + 1, l => by
    rw [byR]
    split
    · exact .refl _
    · refine (mgR_perm _ _).trans ?_
      have := (byR_perm n (l.take (l.length / 2))).append (byR_perm n (l.drop (l.length / 2)))
      rwa [List.take_append_drop] at this
theorem byR_srt : ∀ (n : Nat) (l : List Rg), l.length ≤ n → SrtR (byR n l)
  | 0, l, h => by
    rw [List.eq_nil_of_length_eq_zero (Nat.le_zero.1 h)]
    exact .nil
  | n + 1, l, h => by
    rw [byR]
    split
    · rename_i h2
      match l, h2 with
      | [], _ => exact .nil
      | [x], _ => exact List.pairwise_singleton _ _
    · refine mgR_srt _ _ (byR_srt n _ ?_) (byR_srt n _ ?_)
      · rw [List.length_take]; omega
      · rw [List.length_drop]; omega
theorem cvS_eq {out : List T3} {r : T3} (h : ¬ emR r = true) : cvS out r = cvP out (foR r) := by
  have hf : (foR r).1 = r.1 := by
    rw [foR, if_neg h]
    split <;> rfl
  cases hl : out.getLast? with
  | none => simp only [cvS, cvP, hl]
  | some l =>
  simp only [cvS, cvP, hl]
  have hdl : out.dropLast ++ [l] = out := by
    rcases List.eq_nil_or_concat out with rfl | ⟨i, x, e⟩
    · cases hl
    · rw [e, List.concat_eq_append] at hl ⊢
      rw [List.dropLast_concat]
      simp at hl
      rw [hl]
  rw [hf]
  by_cases h1 : l.2.2 = true
  · have hb : beR l (foR r) = false := Bool.eq_false_iff.2 fun g => by
      have := (beR_iff.1 g).1
      rw [h1] at this
      cases this
    simp [h1, hb, hdl]
  · have h1 : l.2.2 = false := by simpa using h1
    by_cases h2 : cmp l.2.1 r.1 < 0
    · simp [h1, h2]
    · by_cases h3 : r.2.2 = true
      · have hfo : foR r = (r.1, [], true) := by rw [foR, if_neg h, if_pos h3]
        have hb : beR l (foR r) = true := beR_iff.2 ⟨h1, .inl (by rw [hfo])⟩
        simp only [hfo] at hb ⊢
        simp [h1, h2, h3, hb]
      · have hfo : foR r = (r.1, r.2.1, false) := by
          rw [foR, if_neg h, if_neg h3]
          obtain ⟨x, y, z⟩ := r
          cases z
          · rfl
          · exact absurd rfl h3
        by_cases h4 : cmp l.2.1 r.2.1 < 0
        · have hb : beR l (foR r) = true := beR_iff.2 ⟨h1, .inr (by rw [hfo]; exact h4)⟩
          simp only [hfo] at hb ⊢
          simp [h1, h2, h3, h4, hb]
        · have hb : beR l (foR r) = false := Bool.eq_false_iff.2 fun g => by
            rcases (beR_iff.1 g).2 with g | g
            · rw [hfo] at g; cases g
            · rw [hfo] at g; exact h4 g
          simp only [hfo] at hb ⊢
          simp [h1, h2, h3, h4, hb, hdl]
theorem cvS_fold : ∀ (rs out : List T3), (∀ r ∈ rs, ¬ emR r = true) → rs.foldl cvS out = (rs.map foR).foldl cvP out
  | [], _, _ => rfl
  | r :: rs, out, h => by
    rw [List.foldl_cons, List.map_cons, List.foldl_cons, cvS_eq (h r (by simp)), cvS_fold rs _ fun q hq => h q (by simp [hq])]
theorem ref_cv (rs : List Rg) : IsCv (rs.map Rg.d) (cvR ((byR rs.length (rs.filter fun r => !emR r.d)).map Rg.d)) := by
  have hp := byR_perm rs.length (rs.filter fun r => !emR r.d)
  have hs := byR_srt rs.length (rs.filter fun r => !emR r.d) (List.length_filter_le _ _)
  have hne : ∀ d ∈ (byR rs.length (rs.filter fun r => !emR r.d)).map Rg.d, ¬ emR d = true := fun d hd => by
    obtain ⟨r, h1, rfl⟩ := List.mem_map.1 hd
    have := (List.mem_filter.1 (hp.mem_iff.1 h1)).2
    simpa using this
  rw [cvR, cvS_fold _ _ hne]
  refine cvP_is ?_ ?_
  · refine ((hp.map Rg.d).map foR).trans ?_
    rw [List.filter_map]
    exact .refl _
  · refine List.pairwise_map.2 (List.pairwise_map.2 (hs.imp_of_mem fun {x y} hx hy h => ?_))
    have g : ∀ r ∈ byR rs.length (rs.filter fun r => !emR r.d), (foR r.d).1 = r.lo := fun r hr => by
      rw [foR, if_neg (hne r.d (List.mem_map_of_mem hr))]
      split <;> rfl
    rw [g x hx, g y hy]
    exact h
end Go.Sx
