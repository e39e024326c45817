/- Part of a proof: branch.Decode, by the program and by the document. -/
import Derived.Test.YtimakbpghggdfaaGreatCB6
namespace Go.Sx
open Go Go.Proofs
set_option maxRecDepth 10000
variable {w0 : World} {H : List Ck}
theorem ofInt_eq {n : Int} {b : UInt8} (h : n % 256 = (b.toNat : Int)) : UInt8.ofInt n = b := by
  apply UInt8.toNat_inj.1
  have := b.toNat_lt
  simp [UInt8.ofInt]
  omega
theorem four_w32 (b0 b1 b2 b3 : UInt8) (r : Bs) : four4 (w32 (b0 :: b1 :: b2 :: b3 :: r)) = [b0, b1, b2, b3] := by
  have h0 := b0.toNat_lt
  have h1 := b1.toNat_lt
  have h2 := b2.toNat_lt
  have h3 := b3.toNat_lt
  have e : w32 (b0 :: b1 :: b2 :: b3 :: r) = ((b0.toNat * 256 + b1.toNat) * 256 + b2.toNat) * 256 + b3.toNat := rfl
  rw [e, four4, ofInt_eq (b := b0) (by omega), ofInt_eq (b := b1) (by omega), ofInt_eq (b := b2) (by omega), ofInt_eq (b := b3) (by omega)]
theorem two_w16 (b0 b1 : UInt8) (r : Bs) : two2 (w16 (b0 :: b1 :: r)) = [b0, b1] := by
  have h0 := b0.toNat_lt
  have h1 := b1.toNat_lt
  have e : w16 (b0 :: b1 :: r) = b0.toNat * 256 + b1.toNat := rfl
  rw [e, two2, ofInt_eq (b := b0) (by omega), ofInt_eq (b := b1) (by omega)]
theorem pgs_enc : ∀ (n : Nat) (xs : Bs), 4 * n ≤ xs.length → (pgs n xs).flatMap four4 = xs.take (4 * n)
  | 0, xs, _ => by simp [pgs]
  | n + 1, b0 :: b1 :: b2 :: b3 :: r, h => by
    have := pgs_enc n r (by simp at h; omega)
    rw [pgs, List.flatMap_cons, four_w32]
    have e : (b0 :: b1 :: b2 :: b3 :: r).drop 4 = r := rfl
    rw [e, this, show 4 * (n + 1) = 4 * n + 4 by omega]
    simp
  | n + 1, [], h => by simp at h
  | n + 1, [_], h => by simp at h; omega
  | n + 1, [_, _], h => by simp at h; omega
  | n + 1, [_, _, _], h => by simp at h; omega
theorem two_take {xs : Bs} (h : 2 ≤ xs.length) : two2 (w16 xs) = xs.take 2 := by
  match xs, h with
  | b0 :: b1 :: r, _ => rw [two_w16]; rfl
theorem kys_enc : ∀ (n : Nat) (xs : Bs) (ks : List Bs) (r : Bs), kys n xs = some (ks, r) → xs = ks.flatMap keyE ++ r ∧ ks.length = n
  | 0, xs, ks, r, h => by simp only [kys, Option.some.injEq, Prod.mk.injEq] at h; obtain ⟨rfl, rfl⟩ := h; simp
  | n + 1, xs, ks, r, h => by
    rw [kys] at h
    split at h
    · cases h
    · rename_i hc
      obtain ⟨⟨ks', r'⟩, h1, h2⟩ := Option.map_eq_some_iff.1 h
      simp only [Prod.mk.injEq] at h2
      obtain ⟨rfl, rfl⟩ := h2
      obtain ⟨h3, h4⟩ := kys_enc n _ _ _ h1
      refine ⟨?_, by simp [h4]⟩
      have hl : ((xs.drop 2).take (w16 xs)).length = w16 xs := by rw [List.length_take, List.length_drop]; omega
      rw [List.flatMap_cons, keyE, hl, two_take (by omega), List.append_assoc, ← h3]
      rw [← List.drop_drop]
      rw [List.append_assoc, List.take_append_drop, List.take_append_drop]
theorem read_enc {xs : Bs} {d : List Int × List Bs} (h : readK xs = some d) : encK d = xs ∧ (0 < d.1.length → d.2.length + 1 = d.1.length) := by
  unfold readK at h
  split at h
  · cases h
  · rename_i hc
    obtain ⟨⟨ks, r⟩, h1, h2⟩ := Option.bind_eq_some_iff.1 h
    simp only at h2
    split at h2
    · rename_i hr
      simp only [Option.some.injEq] at h2
      subst h2
      obtain ⟨h3, h4⟩ := kys_enc _ _ _ _ h1
      rw [List.eq_nil_of_length_eq_zero hr, List.append_nil] at h3
      refine ⟨?_, fun h5 => ?_⟩
      · rw [encK]
        simp only
        rw [pgs_len, two_take (by omega), pgs_enc _ _ (by rw [List.length_drop]; omega), ← h3, ← List.drop_drop, List.append_assoc, List.take_append_drop, List.take_append_drop]
      · simp only [pgs_len] at h5 ⊢
        omega
    · cases h2
def decK (size : Int) (xs : Bs) : Option (List Int × List Bs) := if sizedB size = true then (readK xs).bind fun d => if chkK size d = 0 then some d else none else none
def decE (size : Int) (xs : Bs) : Int := if sizedB size = false then 1 else if (decK size xs).isSome then 0 else 65
def decD (size : Int) (xs : Bs) : List Int × List Bs := (decK size xs).getD ([], [])
abbrev DecR (size : Int) (xs : Bs) (H : List Ck) : Value → List Ck → Prop := fun v H' => ∃ k : Kd, v = .tuple #[.agg k.cells.toArray, .int .i64 (decE size xs)] ∧ k.d = decD size xs ∧ H' = oK k :: H
theorem hnilK {H : List Ck} : Ent H (oK kd0 :: H) := Ent.nilS.trans ((Ent.head Ent.nilS).trans ((Ent.head (Ent.head fam_nil)).trans (Ent.oK (k := kd0) (by exact Rm.tl Rm.hd) (by exact Rm.hd) (by exact Rm.hd) Ent.refl)))
theorem decR_1 {size : Int} {xs : Bs} (h : sizedB size = false) : DecR size xs H (.tuple #[.agg kd0.cells.toArray, .int .i64 1]) (oK kd0 :: H) :=
  ⟨kd0, by rw [decE, if_pos h], by rw [decD, decK, if_neg (by simp [h])]; rfl, rfl⟩
theorem decR_65 {size : Int} {xs : Bs} (h : sizedB size = true) (h1 : decK size xs = none) : DecR size xs H (.tuple #[.agg kd0.cells.toArray, .int .i64 65]) (oK kd0 :: H) :=
  ⟨kd0, by rw [decE, if_neg (by simp [h]), h1]; rfl, by rw [decD, h1]; rfl, rfl⟩
theorem decR_0 {size : Int} {xs : Bs} {k : Kd} (h : sizedB size = true) (h1 : decK size xs = some k.d) : DecR size xs H (.tuple #[.agg k.cells.toArray, .int .i64 0]) (oK k :: H) :=
  ⟨k, by rw [decE, if_neg (by simp [h]), h1]; rfl, by rw [decD, h1]; rfl, rfl⟩
end Go.Sx
