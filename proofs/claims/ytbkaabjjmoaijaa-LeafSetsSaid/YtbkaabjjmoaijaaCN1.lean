/- Part of a proof: plain: what may be a leaf, and what fits. -/
import Derived.Test.YtbkaabjjmoaijaaCM8
import Derived.Test.YtbkaabjjmoaijaaCM3
namespace Go.Sx
open Go Go.Proofs
set_option maxRecDepth 10000

abbrev LenOk (size : Int) (e : Bs × Bs) : Prop := 1 ≤ e.1.length ∧ (e.1.length : Int) ≤ size / 16 ∧ (e.2.length : Int) ≤ size / 4
theorem may_from (size : Int) : ∀ (ps : Ps) (o : Option Bs), mayFrom size o ps = 0 ↔ (∀ e ∈ ps, LenOk size e) ∧ Rise ps ∧ (∀ q, o = some q → ∀ e ∈ ps, cmp q e.1 < 0)
  | [], o => by simp [mayFrom, Rise]
  | e :: r, o => by
    have ih := may_from size r (some e.1)
    unfold mayFrom
    by_cases h1 : e.1.length < 1 ∨ size / 16 < e.1.length
    · rw [if_pos h1]
      refine ⟨fun h => by omega, fun ⟨h, _, _⟩ => ?_⟩
      have := h e (List.mem_cons_self ..)
      omega
    rw [if_neg h1]
    by_cases h2 : size / 4 < e.2.length
    · rw [if_pos h2]
      refine ⟨fun h => by omega, fun ⟨h, _, _⟩ => ?_⟩
      have := h e (List.mem_cons_self ..)
      omega
    rw [if_neg h2]
    by_cases h3 : ordBad o e.1 = true
    · rw [if_pos h3]
      refine ⟨fun h => by omega, fun ⟨_, _, h⟩ => ?_⟩
      cases o with
      | none => cases h3
      | some q =>
        have := h q rfl e (List.mem_cons_self ..)
        simp only [ordBad, decide_eq_true_eq] at h3
        omega
    rw [if_neg h3, ih]
    have ho : ∀ q, o = some q → cmp q e.1 < 0 := fun q hq => by
      subst hq
      simp only [ordBad, decide_eq_true_eq] at h3
      omega
    constructor
    · rintro ⟨g1, g2, g3⟩
      refine ⟨?_, List.pairwise_cons.2 ⟨g3 e.1 rfl, g2⟩, ?_⟩
      · intro x hx
        rcases List.mem_cons.1 hx with rfl | hx
        · exact ⟨by omega, by omega, by omega⟩
        · exact g1 x hx
      · intro q hq x hx
        rcases List.mem_cons.1 hx with rfl | hx
        · exact ho q hq
        · have := g3 e.1 rfl x hx
          exact cmp_lt_of (ho q hq) (by omega)
    · rintro ⟨g1, g2, _⟩
      exact ⟨fun x hx => g1 x (List.mem_cons_of_mem _ hx), (List.pairwise_cons.1 g2).2, fun q hq x hx => by cases hq; exact (List.pairwise_cons.1 g2).1 x hx⟩
theorem may_iff {size : Int} {ps : Ps} : mayL size ps = 0 ↔ (∀ e ∈ ps, LenOk size e) ∧ Rise ps := by
  rw [mayL, may_from]
  exact ⟨fun h => ⟨h.1, h.2.1⟩, fun h => ⟨h.1, h.2, fun _ h => by cases h⟩⟩
theorem chk_iff {size : Int} (hs : sizedL size = true) {ps : Ps} : chkL size ps = 0 ↔ mayL size ps = 0 ∧ (bytesL ps : Int) ≤ size - 32 := by
  unfold chkL
  rw [if_pos hs]
  by_cases h : mayL size ps = 0
  · rw [if_neg (by simpa using h)]
    by_cases h2 : size - 32 < bytesL ps
    · rw [if_pos h2]; omega
    · rw [if_neg h2]; exact ⟨fun _ => ⟨h, by omega⟩, fun _ => rfl⟩
  · rw [if_pos h]; exact ⟨fun g => absurd g h, fun g => absurd g.1 h⟩
theorem may_sub {size : Int} {ps qs : Ps} (h : qs.Sublist ps) (hm : mayL size ps = 0) : mayL size qs = 0 := by
  rw [may_iff] at hm ⊢
  exact ⟨fun e he => hm.1 e (h.subset he), hm.2.sublist h⟩
/-- Of three, the two least alike are alike twice. -/
theorem common_mid : ∀ (x y z : Bs), min (common x y) (common y z) ≤ common x z
  | [], y, z => by simp [common]
  | x :: r, [], z => by simp [common]
  | x :: r, y :: s, [] => by simp [common]
  | x :: r, y :: s, z :: t => by
    have ih := common_mid r s t
    unfold common
    by_cases h1 : x = y
    · by_cases h2 : y = z
      · have h3 : x = z := h1.trans h2
        simp [h1, h2]
        omega
      · simp [h2]
    · simp [h1]
theorem sum_drop (p : Bs) (e : Bs × Bs) (r : Ps) : sumB p r ≤ (6 + e.1.length - common p e.1 + e.2.length) + sumB e.1 r := by
  cases r with
  | nil => simp [sumB]
  | cons s t =>
    have h1 := common_mid p e.1 s.1
    have h2 := common_le p e.1
    have h3 := common_le e.1 s.1
    have h4 := common_le p s.1
    simp only [sumB]
    omega
theorem sum_sub {qs ps : Ps} (h : qs.Sublist ps) : ∀ p, sumB p qs ≤ sumB p ps := by
  induction h with
  | slnil => intro p; exact Nat.le_refl _
  | cons e _ ih => intro p; exact Nat.le_trans (ih p) (sum_drop p e _)
  | cons_cons e _ ih => intro p; have := ih e.1; simp only [sumB]; omega
theorem bytes_sub {qs ps : Ps} (h : qs.Sublist ps) : bytesL qs ≤ bytesL ps := by
  have := sum_sub h []
  simp only [bytesL]
  omega
theorem chk_sub {size : Int} (hs : sizedL size = true) {qs ps : Ps} (h : qs.Sublist ps) (hc : chkL size ps = 0) : chkL size qs = 0 := by
  rw [chk_iff hs] at hc ⊢
  have := bytes_sub h
  exact ⟨may_sub h hc.1, by omega⟩
theorem sum_app : ∀ (p : Bs) (a b : Ps), sumB p (a ++ b) = sumB p a + sumB (lastK p a) b
  | p, [], b => by simp [sumB, lastK]
  | p, x :: a, b => by simp only [List.cons_append, sumB, lastK, sum_app x.1 a b]; omega
theorem sum_ahead {K : Nat} (p q : Bs) {r : Ps} (h : ∀ e ∈ r, e.1.length ≤ K) : sumB p r ≤ sumB q r + K := by
  cases r with
  | nil => simp [sumB]
  | cons s t =>
    have := h s (List.mem_cons_self ..)
    have h1 := common_le q s.1
    simp only [sumB]
    omega
theorem sum_ins {K : Nat} (a b : Ps) (e : Bs × Bs) (h : ∀ x ∈ b, x.1.length ≤ K) : bytesL (a ++ [e] ++ b) ≤ bytesL (a ++ b) + 6 + e.1.length + e.2.length + K := by
  have h1 := sum_ahead (K := K) e.1 (lastK [] a) h
  simp only [bytesL, sum_app, sumB, List.append_assoc, List.cons_append, List.nil_append]
  omega
theorem set_sub (ps : Ps) (e : Bs × Bs) : (ps.take (fndN ps e.1) ++ ps.drop (setA ps e)).Sublist ps := by
  have h : fndN ps e.1 ≤ setA ps e := by unfold setA; split <;> omega
  have h1 : (ps.take (fndN ps e.1) ++ ps.drop (setA ps e)).Sublist (ps.take (fndN ps e.1) ++ ps.drop (fndN ps e.1)) := by
    refine List.Sublist.append (List.Sublist.refl _) ?_
    rw [show setA ps e = fndN ps e.1 + (setA ps e - fndN ps e.1) by omega, ← List.drop_drop]
    exact List.drop_sublist _ _
  rwa [List.take_append_drop] at h1
theorem set_mem {ps : Ps} {e x : Bs × Bs} (h : x ∈ setL ps e) : x ∈ ps ∨ x = e := by
  simp only [setL, List.mem_append, List.mem_singleton] at h
  rcases h with (h | h) | h
  · exact .inl (List.mem_of_mem_take h)
  · exact .inr h
  · exact .inl (List.mem_of_mem_drop h)
theorem may_set {size : Int} {ps : Ps} {e : Bs × Bs} (hm : mayL size ps = 0) (he : LenOk size e) : mayL size (setL ps e) = 0 := by
  rw [may_iff] at hm ⊢
  refine ⟨fun x hx => ?_, rise_setL hm.2 e⟩
  rcases set_mem hx with h | rfl
  · exact hm.1 x h
  · exact he
theorem spl_min (f : Nat → Int) : ∀ n, 1 ≤ n → ∃ k : Nat, (spl f n).1 = k ∧ 1 ≤ k ∧ k ≤ n ∧ (spl f n).2 = f k ∧ ∀ i, 1 ≤ i → i ≤ n → f k ≤ f i
  | 0, h => by omega
  | n + 1, _ => by
    unfold spl
    by_cases hn : 1 ≤ n
    · obtain ⟨k, h1, h2, h3, h4, h5⟩ := spl_min f n hn
      split
      · rename_i h
        refine ⟨n + 1, rfl, by omega, by omega, rfl, fun i g1 g2 => ?_⟩
        by_cases hi : i ≤ n
        · have := h5 i g1 hi
          omega
        · rw [show i = n + 1 by omega]; omega
      · rename_i h
        refine ⟨k, h1, h2, by omega, h4, fun i g1 g2 => ?_⟩
        by_cases hi : i ≤ n
        · exact h5 i g1 hi
        · rw [show i = n + 1 by omega]; omega
    · obtain rfl : n = 0 := by omega
      rw [if_pos (.inl rfl)]
      exact ⟨1, rfl, by omega, by omega, rfl, fun i g1 g2 => by rw [show i = 1 by omega]; omega⟩
theorem len_mem {ps : Ps} {i : Nat} {e : Bs × Bs} (h : ps[i]? = some e) : longL ps i + common (prevK ps i) (keyAt ps i) = 6 + e.1.length + e.2.length := by
  have h1 := common_le (prevK ps i) (keyAt ps i)
  rw [longL, keyAt_get h, valAt_get h] at *
  omega
theorem bytes_drop {ps : Ps} {i : Nat} (h : i < ps.length) : bytesL ps + 2 + common (prevK ps i) (keyAt ps i) = (2 + sumB [] (ps.take i)) + bytesL (ps.drop i) := by
  obtain ⟨e, he⟩ := get_lt ps i h
  have h1 := sum_app [] (ps.take i) (ps.drop i)
  rw [List.take_append_drop, lastK_take ps i (by omega)] at h1
  have h2 : ps.drop i = e :: ps.drop (i + 1) := by
    rw [List.drop_eq_getElem_cons h, (List.getElem?_eq_some_iff.1 he).2]
  have h3 := common_le (prevK ps i) e.1
  rw [keyAt_get he]
  simp only [bytesL]
  rw [h2] at h1 ⊢
  simp only [sumB, common_nil] at h1 ⊢
  omega
/-- Where a sum passes a bound. -/
theorem pass {f : Nat → Nat} {M : Nat} : ∀ n, f 1 ≤ M → M < f (n + 1) → ∃ i, 1 ≤ i ∧ i ≤ n ∧ f i ≤ M ∧ M < f (i + 1)
  | 0, h1, h2 => absurd h1 (Nat.not_le.2 h2)
  | n + 1, h1, h2 => by
    by_cases h : M < f (n + 1)
    · obtain ⟨i, g1, g2, g3, g4⟩ := pass n h1 h
      exact ⟨i, g1, by omega, g3, g4⟩
    · exact ⟨n + 1, by omega, by omega, by omega, h2⟩
theorem sized_cases {s : Int} (h : sizedL s = true) : s = 512 ∨ s = 1024 ∨ s = 2048 ∨ s = 4096 := by
  simpa [sizedL, or_assoc] using h
theorem chk_one {size : Int} (hs : sizedL size = true) {e : Bs × Bs} (he : LenOk size e) : chkL size [e] = 0 := by
  rw [chk_iff hs, may_iff]
  refine ⟨⟨fun x hx => by rw [List.mem_singleton.1 hx]; exact he, by simp [Rise]⟩, ?_⟩
  obtain ⟨h1, h2, h3⟩ := he
  simp only [bytesL, sumB, common_nil]
  rcases sized_cases hs with rfl | rfl | rfl | rfl <;> omega
theorem fit_split {size : Int} (hs : sizedL size = true) {ps : Ps} (hc : chkL size ps = 0) {e : Bs × Bs} (he : LenOk size e) (hb : chkL size (setL ps e) ≠ 0) :
    chkL size (setL ps e) = 54 ∧ splE size (setL ps e) = 0 ∧ ∃ k : Nat, splN size (setL ps e) = k ∧ 1 ≤ k ∧ k < (setL ps e).length ∧ chkL size ((setL ps e).take k) = 0 ∧ chkL size ((setL ps e).drop k) = 0 := by
  have hm := may_set ((chk_iff hs).1 hc).1 he
  have hps := ((chk_iff hs).1 hc).2
  have hlong : size - 32 < bytesL (setL ps e) := by
    by_cases h : size - 32 < bytesL (setL ps e)
    · exact h
    · exact absurd ((chk_iff hs).2 ⟨hm, by omega⟩) hb
  have hlens := (may_iff.1 hm).1
  obtain ⟨M, hM⟩ : ∃ M : Nat, (M : Int) = size - 32 := ⟨(size - 32).toNat, by have := sized_bd hs; omega⟩
  obtain ⟨K, hK⟩ : ∃ K : Nat, (K : Int) = size / 16 := ⟨(size / 16).toNat, by have := sized_bd hs; omega⟩
  have hT : bytesL (setL ps e) ≤ M + 6 + e.1.length + e.2.length + K := by
    have h1 := sum_ins (K := K) (ps.take (fndN ps e.1)) (ps.drop (setA ps e)) e (fun x hx => by
      have := ((may_iff.1 ((chk_iff hs).1 hc).1).1 x (List.mem_of_mem_drop hx)).2.1
      omega)
    have h2 := bytes_sub (set_sub ps e)
    rw [setL]
    omega
  generalize setL ps e = qs at *
  have hlen : 1 < qs.length := by
    match qs, hlong, hlens with
    | [], h, _ => simp only [bytesL, sumB] at h; have := sized_bd hs; omega
    | [x], h, g =>
      have := (chk_iff hs).1 (chk_one hs (g x (List.mem_cons_self ..)))
      omega
    | x :: y :: r, _, _ => simp only [List.length_cons]; omega
  have h1 : 2 + sumB [] (qs.take 1) ≤ M := by
    obtain ⟨x, hx⟩ := get_lt qs 0 (by omega)
    have := ((chk_iff hs).1 (chk_one hs (hlens x (List.mem_of_getElem? hx)))).2
    have hq : qs.take 1 = [x] := by rw [take_snoc' hx]; rfl
    rw [hq]
    simp only [bytesL] at this
    omega
  obtain ⟨i, g1, g2, g3, g4⟩ := pass (f := fun i => 2 + sumB [] (qs.take i)) (M := M) (qs.length - 1) h1 (by
    show M < 2 + sumB [] (qs.take (qs.length - 1 + 1))
    rw [show qs.length - 1 + 1 = qs.length by omega, List.take_length]
    simp only [bytesL] at hlong
    omega)
  obtain ⟨x, hx⟩ := get_lt qs i (by omega)
  have hl := len_mem hx
  have hxo := hlens x (List.mem_of_getElem? hx)
  have hst := sumB_take (ps := qs) (i := i) (by omega)
  have hlg : lgr qs i ≤ size - 32 := by
    obtain ⟨a1, a2, a3⟩ := he
    obtain ⟨b1, b2, b3⟩ := hxo
    have g3 : 2 + sumB [] (qs.take i) ≤ M := g3
    have g4 : M < 2 + sumB [] (qs.take (i + 1)) := g4
    simp only [lgr]
    rcases sized_cases hs with rfl | rfl | rfl | rfl <;> omega
  obtain ⟨k, k1, k2, k3, k4, k5⟩ := spl_min (lgr qs) (qs.length - 1) (by omega)
  have hle := k5 i g1 g2
  have hbd := bytes_drop (ps := qs) (i := k) (by omega)
  have hlk : lgr qs k ≤ size - 32 := by omega
  have hnot : ¬ (sizedL size = false ∨ qs.length < 2) := by
    rintro (h | h)
    · rw [hs] at h; cases h
    · omega
  refine ⟨?_, ?_, k, ?_, k2, by omega, ?_, ?_⟩
  · rw [chkL, if_pos hs, if_neg (by simpa using hm), if_pos hlong]
  · rw [splE, if_neg hnot, if_neg (by simpa using hm), if_neg (by omega)]
  · rw [splN, if_neg hnot, if_neg (by simpa using hm), if_neg (by omega), k1]
  · refine (chk_iff hs).2 ⟨may_sub (List.take_sublist _ _) hm, ?_⟩
    simp only [lgr] at hlk
    simp only [bytesL]
    omega
  · refine (chk_iff hs).2 ⟨may_sub (List.drop_sublist _ _) hm, ?_⟩
    simp only [lgr] at hlk
    omega
end Go.Sx
