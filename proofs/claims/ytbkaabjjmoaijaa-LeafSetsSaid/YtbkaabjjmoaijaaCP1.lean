/- Part of a proof: plain facts on what the leaf layer's two functions compute: there and back. -/
import Derived.Test.YtbkaabjjmoaijaaCL9
namespace Go.Sx
open Go

theorem take_common : ∀ (x y : Bs), x.take (common x y) = y.take (common x y)
  | [], y => by simp [common]
  | _ :: _, [] => by simp [common]
  | a :: x, b :: y => by
    unfold common
    split
    · rename_i h
      subst h
      simp [take_common x y]
    · simp
theorem w16_two8 (n : Nat) (r : Bs) (h : n < 65536) : w16 (two8 n ++ r) = n := by
  have h1 : (UInt8.ofNat (n / 256)).toNat = n / 256 := by rw [UInt8.toNat_ofNat']; omega
  have h2 : (UInt8.ofNat n).toNat = n % 256 := by rw [UInt8.toNat_ofNat']
  simp only [w16, two8, List.cons_append, List.getD_cons_zero, List.getD_cons_succ, h1, h2]
  omega
theorem two8_len (n : Nat) : (two8 n).length = 2 := rfl
theorem drop_two8 (n : Nat) (r : Bs) : (two8 n ++ r).drop 2 = r := rfl
theorem drop_app (x r : Bs) (k : Nat) (h : k = x.length) : (x ++ r).drop k = r := by subst h; simp
theorem take_app (x r : Bs) (k : Nat) (h : k = x.length) : (x ++ r).take k = x := by subst h; simp

theorem rdE_enc (p : Bs) (e : Bs × Bs) (r : Bs) (h1 : p.length < 65536) (h2 : e.1.length - common p e.1 < 65536) (h3 : e.2.length < 65536) : rdE p (encE p e ++ r) = some (e, r) := by
  have hc := common_le p e.1
  have e0 : encE p e ++ r = two8 (common p e.1) ++ (two8 (e.1.length - common p e.1) ++ (two8 e.2.length ++ (e.1.drop (common p e.1) ++ (e.2 ++ r)))) := by simp [encE]
  have hl : (encE p e ++ r).length = 6 + (e.1.length - common p e.1) + e.2.length + r.length := by rw [List.length_append, encE_len]; omega
  have f0 : w16 (encE p e ++ r) = common p e.1 := by rw [e0]; exact w16_two8 _ _ (by omega)
  have d2 : (encE p e ++ r).drop 2 = two8 (e.1.length - common p e.1) ++ (two8 e.2.length ++ (e.1.drop (common p e.1) ++ (e.2 ++ r))) := by rw [e0]; rfl
  have d4 : (encE p e ++ r).drop 4 = two8 e.2.length ++ (e.1.drop (common p e.1) ++ (e.2 ++ r)) := by
    have : (encE p e ++ r).drop 4 = ((encE p e ++ r).drop 2).drop 2 := by rw [List.drop_drop]
    rw [this, d2]; rfl
  have d6 : (encE p e ++ r).drop 6 = e.1.drop (common p e.1) ++ (e.2 ++ r) := by
    have : (encE p e ++ r).drop 6 = ((encE p e ++ r).drop 4).drop 2 := by rw [List.drop_drop]
    rw [this, d4]; rfl
  have f2 : w16 ((encE p e ++ r).drop 2) = e.1.length - common p e.1 := by rw [d2]; exact w16_two8 _ _ h2
  have f4 : w16 ((encE p e ++ r).drop 4) = e.2.length := by rw [d4]; exact w16_two8 _ _ h3
  have hk : (e.1.drop (common p e.1)).length = e.1.length - common p e.1 := by simp
  unfold rdE
  rw [f0, f2, f4, hl, if_neg (by omega), d6, take_app _ _ _ hk.symm, drop_app _ _ _ hk.symm, take_app _ _ _ rfl]
  have h5 : (e.1.drop (common p e.1) ++ (e.2 ++ r)).drop (e.1.length - common p e.1 + e.2.length) = r := by
    rw [← List.append_assoc]
    exact drop_app _ _ _ (by simp)
  rw [h5, take_common, List.take_append_drop]
theorem len6 : ∀ (p : Bs) (ps : Ps), 6 * ps.length ≤ sumB p ps
  | _, [] => Nat.zero_le _
  | p, e :: r => by
    have := len6 e.1 r
    have := (common_le p e.1).2
    simp only [sumB, List.length_cons]; omega
theorem parse_enc : ∀ (ps : Ps) (ah rest : Bs), ah.length + sumB ah ps < 65536 → parse ps.length ah (encL ah ps ++ rest) = some ps
  | [], _, _, _ => rfl
  | e :: r, ah, rest, h => by
    have hc := common_le ah e.1
    simp only [sumB] at h
    simp only [List.length_cons, encL, List.append_assoc, parse]
    rw [rdE_enc ah e _ (by omega) (by omega) (by omega)]
    simp only
    rw [parse_enc r e.1 rest (by omega)]
    rfl
theorem rdE_mono {ah xs ys : Bs} {e : Bs × Bs} {r : Bs} (h : rdE ah xs = some (e, r)) : rdE ah (xs ++ ys) = some (e, r ++ ys) := by
  unfold rdE at h ⊢
  split at h
  · cases h
  · rename_i hn
    simp only [not_or, Nat.not_lt] at hn
    obtain ⟨h1, h2, h3⟩ := hn
    have g0 : ∀ k, k + 2 ≤ xs.length → w16 ((xs ++ ys).drop k) = w16 (xs.drop k) := by
      intro k hk
      simp only [w16, List.getD, List.getElem?_drop]
      rw [List.getElem?_append_left (by omega), List.getElem?_append_left (by omega)]
    have g1 := g0 0 (by omega)
    simp only [List.drop_zero] at g1
    rw [g1, g0 2 (by omega), g0 4 (by omega), if_neg (by simp only [List.length_append]; omega)]
    have d6 : (xs ++ ys).drop 6 = xs.drop 6 ++ ys := List.drop_append_of_le_length (by omega)
    have hl : (xs.drop 6).length = xs.length - 6 := by simp
    simp only [Option.some.injEq, Prod.mk.injEq] at h ⊢
    rw [d6]
    rw [List.take_append_of_le_length (by omega), List.drop_append_of_le_length (by omega), List.take_append_of_le_length (by simp; omega), List.drop_append_of_le_length (by omega)]
    exact ⟨h.1, by rw [h.2]⟩
theorem parse_mono : ∀ (n : Nat) (ah xs ys : Bs) (l : Ps), parse n ah xs = some l → parse n ah (xs ++ ys) = some l
  | 0, _, _, _, _, h => h
  | n + 1, ah, xs, ys, l, h => by
    unfold parse at h ⊢
    split at h
    · cases h
    · rename_i e r hr
      rw [rdE_mono hr]
      obtain ⟨l', h1, rfl⟩ := Option.map_eq_some_iff.1 h
      simp only
      rw [parse_mono n e.1 r ys l' h1]
      rfl
theorem chk_bytes {size : Int} {ps : Ps} (h : chkL size ps = 0) : sizedL size = true ∧ bytesL ps ≤ 4064 ∧ (bytesL ps : Int) ≤ size - 32 := by
  unfold chkL at h
  split at h
  · rename_i hs
    have := sized_bd hs
    split at h
    · rename_i hm; exact absurd h hm
    · split at h
      · cases h
      · exact ⟨hs, by omega, by omega⟩
  · cases h
theorem encodeL_len (ps : Ps) : (encodeL ps).length = bytesL ps := by
  simp [encodeL, two8, encL_len, bytesL]; omega
/-- What is encoded is decoded as it was. -/
theorem back {size : Int} {ps : Ps} (h : chkL size ps = 0) : w16 (encodeL ps) = ps.length ∧ ∀ more, parse (w16 (encodeL ps)) [] ((encodeL ps ++ more).drop 2) = some ps := by
  obtain ⟨_, hb, _⟩ := chk_bytes h
  have h6 := len6 [] ps
  simp only [bytesL] at hb
  have hw : w16 (encodeL ps) = ps.length := w16_two8 _ _ (by omega)
  refine ⟨hw, fun more => ?_⟩
  rw [hw]
  have : (encodeL ps ++ more).drop 2 = encL [] ps ++ more := by simp [encodeL, two8]
  rw [this]
  exact parse_enc ps [] more (by simp; omega)
theorem dec_enc {size : Int} {ps : Ps} (h : chkL size ps = 0) : decO size (encodeL ps) = some ps := by
  obtain ⟨h1, h2⟩ := back h
  have hl := encodeL_len ps
  have h3 := h2 []
  rw [List.append_nil] at h3
  unfold decO
  rw [if_neg (by rw [hl, bytesL]; omega), h3]
  simp [h]
theorem dec_some {size : Int} {xs : Bs} {l : Ps} (h : decO size xs = some l) : 2 ≤ xs.length ∧ parse (w16 xs) [] (xs.drop 2) = some l ∧ chkL size l = 0 ∧ encodeL l = xs := by
  unfold decO at h
  split at h
  · cases h
  · rename_i h2
    split at h
    · cases h
    · rename_i l' hl
      split at h
      · rename_i hc
        cases h
        exact ⟨by omega, hl, hc.1, hc.2⟩
      · cases h
/-- No beginning of a leaf is one. -/
theorem dec_prefix {size : Int} {ps : Ps} (h : chkL size ps = 0) {j : Nat} (hj : j < (encodeL ps).length) : decO size ((encodeL ps).take j) = none := by
  cases hd : decO size ((encodeL ps).take j) with
  | none => rfl
  | some l =>
    exfalso
    obtain ⟨h1, h2, _, h4⟩ := dec_some hd
    simp only [List.length_take] at h1
    obtain ⟨_, hb⟩ := back h
    have hbk := hb []
    rw [List.append_nil] at hbk
    have hw : w16 ((encodeL ps).take j) = w16 (encodeL ps) := by
      simp only [w16, List.getD, List.getElem?_take]
      rw [if_pos (by omega), if_pos (by omega)]
    have h5 := parse_mono _ _ _ ((encodeL ps).drop j) _ h2
    have h6 : ((encodeL ps).take j).drop 2 ++ (encodeL ps).drop j = (encodeL ps).drop 2 := by
      rw [← List.drop_append_of_le_length (by simp; omega), List.take_append_drop]
    rw [h6, hw, hbk] at h5
    cases h5
    have := congrArg List.length h4
    simp only [List.length_take] at this
    omega
/-- Nor is what has something behind it. -/
theorem dec_more {size : Int} {ps : Ps} (h : chkL size ps = 0) {more : Bs} (hm : more ≠ []) : decO size (encodeL ps ++ more) = none := by
  cases hd : decO size (encodeL ps ++ more) with
  | none => rfl
  | some l =>
    exfalso
    obtain ⟨h1, h2, _, h4⟩ := dec_some hd
    obtain ⟨_, hb⟩ := back h
    have hl := encodeL_len ps
    have hw : w16 (encodeL ps ++ more) = w16 (encodeL ps) := by
      simp only [w16, List.getD]
      rw [List.getElem?_append_left (by rw [hl, bytesL]; omega), List.getElem?_append_left (by rw [hl, bytesL]; omega)]
    rw [hw, hb more] at h2
    cases h2
    have := congrArg List.length h4
    simp only [List.length_append] at this
    exact hm (List.eq_nil_of_length_eq_zero (by omega))
end Go.Sx
