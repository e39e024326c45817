/- Part of a proof: several parts of a walk, one behind the other. -/
import Derived.Test.YtpnhoafmlhlfgaaCB4j
namespace Go.Sx
open Go Go.Proofs
set_option maxRecDepth 10000
variable {w0 : World} {H : List Ck}
def by8 (xs : Bs) (i : Nat) : Nat := (xs.getD i 0).toNat
theorem by8_lt (xs : Bs) (i : Nat) : by8 xs i < 256 := (xs.getD i 0).toNat_lt
def w16 (xs : Bs) : Nat := by8 xs 0 * 256 + by8 xs 1
def w32 (xs : Bs) : Nat := ((by8 xs 0 * 256 + by8 xs 1) * 256 + by8 xs 2) * 256 + by8 xs 3
theorem w16_lt (xs : Bs) : w16 xs < 65536 := by have := by8_lt xs 0; have := by8_lt xs 1; unfold w16; omega
theorem w32_lt (xs : Bs) : w32 xs < 4294967296 := by have := by8_lt xs 0; have := by8_lt xs 1; have := by8_lt xs 2; have := by8_lt xs 3; unfold w32; omega
def pgs : Nat → Bs → List Int
  | 0, _ => []
  | n + 1, xs => (w32 xs : Int) :: pgs n (xs.drop 4)
def kys : Nat → Bs → Option (List Bs × Bs)
  | 0, xs => some ([], xs)
  | n + 1, xs => if xs.length < 2 ∨ xs.length - 2 < w16 xs then none else (kys n (xs.drop (2 + w16 xs))).map fun r => ((xs.drop 2).take (w16 xs) :: r.1, r.2)
def readK (xs : Bs) : Option (List Int × List Bs) :=
  if xs.length < 2 ∨ xs.length < 2 + 4 * w16 xs then none
  else (kys (w16 xs - 1) (xs.drop (2 + 4 * w16 xs))).bind fun r => if r.2.length = 0 then some (pgs (w16 xs) (xs.drop 2), r.1) else none
theorem pgs_snoc : ∀ (n : Nat) (xs : Bs), pgs (n + 1) xs = pgs n xs ++ [(w32 (xs.drop (4 * n)) : Int)]
  | 0, xs => by simp [pgs]
  | n + 1, xs => by
    rw [pgs, pgs_snoc n (xs.drop 4), pgs, List.drop_drop]
    have : 4 + 4 * n = 4 * (n + 1) := by omega
    rw [this]; rfl
theorem pgs_len : ∀ (n : Nat) (xs : Bs), (pgs n xs).length = n
  | 0, _ => rfl
  | n + 1, xs => by simp [pgs, pgs_len n]
theorem pgs_lt : ∀ (n : Nat) (xs : Bs), ∀ p ∈ pgs n xs, 0 ≤ p ∧ p < 4294967296
  | 0, _, p, h => by simp [pgs] at h
  | n + 1, xs, p, h => by
    rw [pgs] at h
    rcases List.mem_cons.1 h with rfl | h
    · have := w32_lt xs; omega
    · exact pgs_lt n _ p h
abbrev ReadR (xs : Bs) (H : List Ck) : Value → List Ck → Prop := fun v H' => ∃ (k : Kd) (ok : Bool), v = .tuple #[.agg k.cells.toArray, .bool ok] ∧ ok = (readK xs).isSome ∧ (∀ d, readK xs = some d → k.d = d) ∧ (∀ n ∈ k.ps, 0 ≤ n ∧ n < 4294967296) ∧ k.ps.length ≤ 65536 ∧ H' = oK k :: H
/-- Where a reader stands. -/
structure RdI where
  i : Nat
  ra : Option Addr
  rc : Nat
  rs : Bs
  pa : Option Addr
  pc : Nat
structure RkI where
  j : Nat
  ra : Option Addr
  rc : Nat
  rs : Bs
  ka : Option Addr
  kc : Nat
  ks : List SB
theorem Ent.oK {k : Kd} {R1 R2 R3 H' : List Ck} (h1 : Rm (ol 3 k.pa k.pc k.ps) H R1) (h2 : Rm (ol 24 k.ka k.kc k.ks) R1 R2) (h3 : Rm (fam 5 k.ks) R2 R3) (h : Ent R3 H') : Ent H (Sx.oK k :: H') := by
  refine Ent.trans (H' := ol 3 k.pa k.pc k.ps :: ol 24 k.ka k.kc k.ks :: fam 5 k.ks :: H') ?_ (Ent.star (L := [ol 3 k.pa k.pc k.ps, ol 24 k.ka k.kc k.ks, fam 5 k.ks]) Ent.refl)
  exact Ent.cons h1 (Ent.cons h2 (Ent.cons h3 h))
theorem kys_keep {n : Nat} {xs : Bs} {ks : List Bs} (h1 : ¬ xs.length < 2) (h2 : ¬ xs.length - 2 < w16 xs) {o : Option (List Bs × Bs)} (h : o = (kys (n + 1) xs).map fun r => (ks ++ r.1, r.2)) :
    o = (kys n (xs.drop (2 + w16 xs))).map fun r => (ks ++ [(xs.drop 2).take (w16 xs)] ++ r.1, r.2) := by
  rw [h, kys, if_neg (by omega), Option.map_map]
  congr 1
  funext r
  simp
theorem readR_none {xs : Bs} {k : Kd} (e : readK xs = none) (h1 : ∀ n ∈ k.ps, 0 ≤ n ∧ n < 4294967296) (h2 : k.ps.length ≤ 65536) : ReadR xs H (.tuple #[.agg k.cells.toArray, .bool false]) (oK k :: H) :=
  ⟨k, false, rfl, by rw [e]; rfl, fun d h => (by rw [e] at h; cases h), h1, h2, rfl⟩
end Go.Sx
namespace Go.Sx
open Go Go.Proofs
set_option maxRecDepth 10000
variable {w0 : World} {H : List Ck}
theorem by8_drop (xs : Bs) (p k : Nat) : by8 (xs.drop p) k = (xs.getD (p + k) 0).toNat := by
  simp [by8, List.getD_eq_getElem?_getD, List.getElem?_drop]
structure RdJ where
  i : Nat
  pa : Option Addr
  pc : Nat
structure RkJ where
  j : Nat
  p : Nat
  ka : Option Addr
  kc : Nat
  ks : List SB
end Go.Sx
namespace Go.Sx
open Go Go.Proofs
set_option maxRecDepth 10000
variable {w0 : World} {H : List Ck}
theorem ofInt_eq {n : Int} {b : UInt8} (h : n % 256 = (b.toNat : Int)) : UInt8.ofInt n = b := by
  apply UInt8.toNat_inj.1
  have := b.toNat_lt
  simp [UInt8.ofInt]
  omega
theorem four_w32 (b0 b1 b2 b3 : UInt8) (r : Bs) : four4 (w32 (b0 :: b1 :: b2 :: b3 :: r)) = [b0, b1, b2, b3] := by
  have h0 := b0.toNat_lt
  have h1 := b1.toNat_lt
  have h2 := b2.toNat_lt
  have h3 := b3.toNat_lt
  have e : w32 (b0 :: b1 :: b2 :: b3 :: r) = ((b0.toNat * 256 + b1.toNat) * 256 + b2.toNat) * 256 + b3.toNat := rfl
  rw [e, four4, ofInt_eq (b := b0) (by omega), ofInt_eq (b := b1) (by omega), ofInt_eq (b := b2) (by omega), ofInt_eq (b := b3) (by omega)]
theorem two_w16 (b0 b1 : UInt8) (r : Bs) : two2 (w16 (b0 :: b1 :: r)) = [b0, b1] := by
  have h0 := b0.toNat_lt
  have h1 := b1.toNat_lt
  have e : w16 (b0 :: b1 :: r) = b0.toNat * 256 + b1.toNat := rfl
  rw [e, two2, ofInt_eq (b := b0) (by omega), ofInt_eq (b := b1) (by omega)]
theorem pgs_enc : ∀ (n : Nat) (xs : Bs), 4 * n ≤ xs.length → (pgs n xs).flatMap four4 = xs.take (4 * n)
  | 0, xs, _ => by simp [pgs]
  | n + 1, b0 :: b1 :: b2 :: b3 :: r, h => by
    have := pgs_enc n r (by simp at h; omega)
    rw [pgs, List.flatMap_cons, four_w32]
    have e : (b0 :: b1 :: b2 :: b3 :: r).drop 4 = r := rfl
    rw [e, this, show 4 * (n + 1) = 4 * n + 4 by omega]
    simp
  | n + 1, [], h => by simp at h
  | n + 1, [_], h => by simp at h; omega
  | n + 1, [_, _], h => by simp at h; omega
  | n + 1, [_, _, _], h => by simp at h; omega
theorem two_take {xs : Bs} (h : 2 ≤ xs.length) : two2 (w16 xs) = xs.take 2 := by
  match xs, h with
  | b0 :: b1 :: r, _ => rw [two_w16]; rfl
theorem kys_enc : ∀ (n : Nat) (xs : Bs) (ks : List Bs) (r : Bs), kys n xs = some (ks, r) → xs = ks.flatMap keyE ++ r ∧ ks.length = n
  | 0, xs, ks, r, h => by simp only [kys, Option.some.injEq, Prod.mk.injEq] at h; obtain ⟨rfl, rfl⟩ := h; simp
  | n + 1, xs, ks, r, h => by
    rw [kys] at h
    split at h
    · cases h
    · rename_i hc
      obtain ⟨⟨ks', r'⟩, h1, h2⟩ := Option.map_eq_some_iff.1 h
      simp only [Prod.mk.injEq] at h2
      obtain ⟨rfl, rfl⟩ := h2
      obtain ⟨h3, h4⟩ := kys_enc n _ _ _ h1
      refine ⟨?_, by simp [h4]⟩
      have hl : ((xs.drop 2).take (w16 xs)).length = w16 xs := by rw [List.length_take, List.length_drop]; omega
      rw [List.flatMap_cons, keyE, hl, two_take (by omega), List.append_assoc, ← h3]
      rw [← List.drop_drop]
      rw [List.append_assoc, List.take_append_drop, List.take_append_drop]
theorem read_enc {xs : Bs} {d : List Int × List Bs} (h : readK xs = some d) : encK d = xs ∧ (0 < d.1.length → d.2.length + 1 = d.1.length) := by
  unfold readK at h
  split at h
  · cases h
  · rename_i hc
    obtain ⟨⟨ks, r⟩, h1, h2⟩ := Option.bind_eq_some_iff.1 h
    simp only at h2
    split at h2
    · rename_i hr
      simp only [Option.some.injEq] at h2
      subst h2
      obtain ⟨h3, h4⟩ := kys_enc _ _ _ _ h1
      rw [List.eq_nil_of_length_eq_zero hr, List.append_nil] at h3
      refine ⟨?_, fun h5 => ?_⟩
      · rw [encK]
        simp only
        rw [pgs_len, two_take (by omega), pgs_enc _ _ (by rw [List.length_drop]; omega), ← h3, ← List.drop_drop, List.append_assoc, List.take_append_drop, List.take_append_drop]
      · simp only [pgs_len] at h5 ⊢
        omega
    · cases h2
def decK (size : Int) (xs : Bs) : Option (List Int × List Bs) := if sizedB size = true then (readK xs).bind fun d => if chkK size d = 0 then some d else none else none
def decE (size : Int) (xs : Bs) : Int := if sizedB size = false then 1 else if (decK size xs).isSome then 0 else 65
def decD (size : Int) (xs : Bs) : List Int × List Bs := (decK size xs).getD ([], [])
abbrev DecR (size : Int) (xs : Bs) (H : List Ck) : Value → List Ck → Prop := fun v H' => ∃ k : Kd, v = .tuple #[.agg k.cells.toArray, .int .i64 (decE size xs)] ∧ k.d = decD size xs ∧ H' = oK k :: H
theorem hnilK {H : List Ck} : Ent H (oK kd0 :: H) := Ent.nilS.trans ((Ent.head Ent.nilS).trans ((Ent.head (Ent.head fam_nil)).trans (Ent.oK (k := kd0) (by exact Rm.tl Rm.hd) (by exact Rm.hd) (by exact Rm.hd) Ent.refl)))
theorem decR_1 {size : Int} {xs : Bs} (h : sizedB size = false) : DecR size xs H (.tuple #[.agg kd0.cells.toArray, .int .i64 1]) (oK kd0 :: H) :=
  ⟨kd0, by rw [decE, if_pos h], by rw [decD, decK, if_neg (by simp [h])]; rfl, rfl⟩
theorem decR_65 {size : Int} {xs : Bs} (h : sizedB size = true) (h1 : decK size xs = none) : DecR size xs H (.tuple #[.agg kd0.cells.toArray, .int .i64 65]) (oK kd0 :: H) :=
  ⟨kd0, by rw [decE, if_neg (by simp [h]), h1]; rfl, by rw [decD, h1]; rfl, rfl⟩
theorem decR_0 {size : Int} {xs : Bs} {k : Kd} (h : sizedB size = true) (h1 : decK size xs = some k.d) : DecR size xs H (.tuple #[.agg k.cells.toArray, .int .i64 0]) (oK k :: H) :=
  ⟨k, by rw [decE, if_neg (by simp [h]), h1]; rfl, by rw [decD, h1]; rfl, rfl⟩
end Go.Sx
