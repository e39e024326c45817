/- Part of a proof: several parts of a walk, one behind the other. -/
import Derived.Test.YtimakbpghggdfaaGreatCV5j
import Derived.Test.YtimakbpghggdfaaGreatCW2
import Derived.Test.YtimakbpghggdfaaGreatCGGj
import Derived.Test.YtimakbpghggdfaaGreatCGAj
import Derived.Test.YtimakbpghggdfaaGreatCZH
import Derived.Test.YtimakbpghggdfaaGreatCGDj
namespace Go.Sx
open Go
theorem nbN_beN (k : Nat) : ∀ (xs : Bs), xs.length = k → nbN k (beN xs) = xs := by
  induction k with
  | zero => intro xs h; rw [List.eq_nil_of_length_eq_zero h]; rfl
  | succ k ih =>
    intro xs h
    obtain ⟨ys, c, rfl⟩ : ∃ ys c, xs = ys ++ [c] := ⟨xs.dropLast, xs.getLast (by intro e; rw [e] at h; cases h), (List.dropLast_concat_getLast _).symm⟩
    have hc := c.toNat_lt
    have e1 : (beN ys * 256 + c.toNat) / 256 = beN ys := by omega
    have e2 : UInt8.ofNat (beN ys * 256 + c.toNat) = c := by
      apply UInt8.toNat_inj.1
      show (beN ys * 256 + c.toNat) % 256 = c.toNat
      omega
    rw [nbN, beN_snoc, e1, e2, ih ys (by simpa using h)]
theorem takeS_back {n : Nat} {s : SrcB} (h : (takeS n s).2.2 = false) : s.2 = false ∧ (takeS n s).1.length = n ∧ s.1 = (takeS n s).1 ++ (takeS n s).2.1 := by
  unfold takeS at *
  split at h
  · cases h
  · rename_i g
    rw [if_neg g]
    refine ⟨by cases e : s.2; rfl; exact absurd (.inl e) g, ?_, (List.take_append_drop _ _).symm⟩
    rw [List.length_take]
    have : ¬ s.1.length < n := fun k => g (.inr k)
    omega
theorem numS_back {k : Nat} {s : SrcB} (h : (numS k s).2.2 = false) : s.2 = false ∧ s.1 = nbN k (numS k s).1 ++ (numS k s).2.1 := by
  obtain ⟨h1, h2, h3⟩ := takeS_back (n := k) (s := s) h
  refine ⟨h1, ?_⟩
  show s.1 = nbN k (beN (takeS k s).1) ++ (takeS k s).2.1
  rw [nbN_beN k _ h2, ← h3]
theorem oneS_back {s : SrcB} (h : (oneS s).2.2 = false) : s.2 = false ∧ s.1 = encM1 (oneS s).1 ++ (oneS s).2.1 := by
  unfold oneS at *
  simp only at h ⊢
  obtain ⟨t0, t1, t2⟩ := takeS_back h
  obtain ⟨x0, x1, x2⟩ := takeS_back t0
  obtain ⟨l0, l1⟩ := numS_back x0
  obtain ⟨k0, k1⟩ := numS_back l0
  obtain ⟨j0, j1⟩ := numS_back k0
  obtain ⟨i0, i1⟩ := numS_back j0
  refine ⟨i0, ?_⟩
  generalize numS 8 s = p1 at *
  generalize numS 1 p1.2 = p2 at *
  generalize numS 2 p2.2 = p3 at *
  generalize numS 2 p3.2 = p4 at *
  generalize takeS p3.1 p4.2 = p5 at *
  generalize takeS p4.1 p5.2 = p6 at *
  have ht : tailM ⟨p1.1, p2.1, p5.1, if (p2.1 : Int) = 3 then p6.1 else [], if (p2.1 : Int) = 3 then [] else p6.1⟩ = p6.1 := by
    unfold tailM
    by_cases g : (p2.1 : Int) = 3
    · simp [g]
    · simp [g]
  simp only [encM1, ht, Int.toNat_natCast]
  rw [x1, t1, i1, j1, k1, l1, x2, t2]
  simp only [List.append_assoc]
theorem loopS_back : ∀ (n : Nat) (out : List MD) (s : SrcB), (loopS n out s).2.2 = false → s.2 = false ∧ ∃ l, (loopS n out s).1 = out ++ l ∧ l.length = n ∧ s.1 = l.flatMap encM1 ++ (loopS n out s).2.1
  | 0, out, s, h => ⟨h, [], by simp [loopS]⟩
  | n + 1, out, s, h => by
    rw [loopS] at *
    split at h
    · rename_i g; rw [g] at h; cases h
    · rename_i g
      obtain ⟨h1, l, h2, h3, h4⟩ := loopS_back n _ _ h
      obtain ⟨k1, k2⟩ := oneS_back h1
      rw [if_neg g]
      refine ⟨k1, (oneS s).1 :: l, ?_, by simp [h3], ?_⟩
      · rw [h2, List.append_assoc]; rfl
      · rw [List.flatMap_cons, List.append_assoc, ← h4, ← k2]
theorem decM_back {size : Int} {xs : Bs} {l : List MD} (h : decM size xs = some l) : chkM size l = 0 ∧ layM l = xs := by
  unfold decM at h
  split at h
  · rename_i g
    obtain ⟨_, g1, g2, g3⟩ := g
    cases h
    refine ⟨g3, ?_⟩
    unfold srcM at *
    obtain ⟨k1, l, k2, k3, k4⟩ := loopS_back _ _ _ g1
    obtain ⟨j1, j2⟩ := numS_back k1
    rw [List.eq_nil_of_length_eq_zero g2, List.append_nil] at k4
    rw [k2, List.nil_append, layM, k3, ← k4]
    exact j2.symm
  · cases h
theorem setl_sub : ∀ (l : List MD), (setlL l).Sublist l
  | [] => List.Sublist.refl _
  | m :: r => by
    by_cases h : KeepM m r
    · rw [setl_yes h]; exact List.Sublist.cons_cons m (setl_sub r)
    · rw [setl_no h]; exact (setl_sub r).cons m
end Go.Sx
namespace Go.Sx
open Go
end Go.Sx
namespace Go.Sx
open Go
theorem getM_congr {k t : Bs} : ∀ {l : List MD}, (∀ m ∈ l, (hasB (saidR m) k = true ↔ hasB (saidR m) t = true)) → getM l k = getM l t
  | [], _ => rfl
  | m :: r, h => by
    rw [getM_cons, getM_cons, getM_congr fun x hx => h x (by simp [hx])]
    by_cases g : hasB (saidR m) k = true
    · simp [g, (h m (by simp)).1 g]
    · have : ¬ hasB (saidR m) t = true := fun q => g ((h m (by simp)).2 q)
      simp [g, this]
/-! Within. -/
theorem fo_idem (d : T3) : foR (foR d) = foR d := by
  unfold foR
  by_cases h : emR d = true
  · rw [if_pos h, if_pos emR_t30]
  · rw [if_neg h]
    by_cases g : d.2.2 = true
    · rw [if_pos g, if_neg (by rw [emR_iff]; simp)]
      simp
    · rw [if_neg g, if_neg h, if_neg g]
theorem me_fo (a b : T3) : foR (meR a b) = meR a b := by
  unfold meR
  split
  · unfold foR; rw [if_pos emR_t30]
  · exact fo_idem _
theorem me_nil {a b : T3} (h : emR (meR a b) = true) : meR a b = t30 := by
  have e := me_fo a b
  unfold foR at e
  rw [if_pos h] at e
  exact e.symm
theorem nef_uniq {a b : T3} (ha : Nef a) (hb : Nef b) (h : ∀ key, hasB a key = true ↔ hasB b key = true) : a = b := by
  have := sep_uniq (l := [a]) (m := [b]) ha hb fun key => by rw [inU_one, inU_one]; exact h key
  exact List.singleton_inj.1 this
theorem em_of7 {a : T3} (h : ∀ key, ¬ hasB a key = true) : emR a = true := by
  refine Classical.byContradiction fun g => h a.1 (ne_has g)
theorem within_len {r : T3} {n : Nat} {l : List MD} (hr : r.1.length ≤ n ∧ r.2.1.length ≤ n) (hl : ∀ m ∈ l, m.lo.length + 1 ≤ n ∧ m.hi.length ≤ n) (hv : ∀ m ∈ l, m.v.length ≤ n) : ∀ x ∈ withinL r l, x.lo.length ≤ n ∧ x.hi.length ≤ n ∧ x.v.length ≤ n := by
  intro x hx
  obtain ⟨m, hm, e⟩ := List.mem_filterMap.1 hx
  obtain ⟨h1, h2⟩ := hl m hm
  have h3 := hv m hm
  unfold wthM at e
  split at e
  · cases e
  · simp only [Option.some.injEq] at e
    rw [← e]
    have hq := qk_me (k := n) (a := saidR m) (b := r) (qk_said h1 h2) hr
    split
    · exact ⟨hq.1, hq.2, h3⟩
    · exact ⟨by omega, h2, h3⟩
theorem within_le (r : T3) (l : List MD) : (withinL r l).length ≤ l.length := List.length_filterMap_le _ _
end Go.Sx

