/- Where a node's parts lie in its bytes. -/
import Derived.Test.YtkcabddbeclokaaGreatCVC
namespace Go.Sx
open Go Go.Proofs
set_option maxRecDepth 10000
variable {w0 : World} {H : List Ck}
theorem by8_app (x : Bs) (r : Bs) {i : Nat} (h : i < x.length) : by8 (x ++ r) i = by8 x i := by
  unfold by8
  rw [List.getD_eq_getElem?_getD, List.getD_eq_getElem?_getD, List.getElem?_append_left h]
theorem w16_two {n : Nat} {r : Bs} (h : n < 65536) : w16 (two2 (n : Int) ++ r) = n := by
  have e1 : (n : Int) / 256 = ((n / 256 : Nat) : Int) := by omega
  have h1 : by8 (two2 (n : Int) ++ r) 0 = n / 256 := by
    show (UInt8.ofInt ((n : Int) / 256)).toNat = _
    rw [e1, ofInt_nat, UInt8.toNat_ofNat']
    omega
  have h2 : by8 (two2 (n : Int) ++ r) 1 = n % 256 := by
    show (UInt8.ofInt (n : Int)).toNat = _
    rw [ofInt_nat, UInt8.toNat_ofNat']
  rw [w16, h1, h2]
  omega
theorem two_nb (n : Nat) : two2 (n : Int) = nbN 2 n := by
  have e1 : (n : Int) / 256 = ((n / 256 : Nat) : Int) := by omega
  rw [two2, e1, ofInt_nat, ofInt_nat]
  rfl
theorem beN_w16 {xs : Bs} (h : 2 ≤ xs.length) : beN (xs.take 2) = w16 xs := by
  match xs, h with
  | a :: b :: r, _ => simp [beN, w16, by8]
/-- Behind so many keys more. -/
def kidsL (xs : Bs) : Nat → Nat → Option Nat
  | 0, p => if xs.length < p then none else some p
  | k + 1, p => if xs.length < p + 2 then none else kidsL xs k (p + 2 + w16 (xs.drop p))
/-- How many of the first bytes are those of children and keys. -/
def kidsB (xs : Bs) : Option Nat := if xs.length < 2 then none else kidsL xs (w16 xs - 1) (2 + 4 * w16 xs)
def optI : Option Nat → Int
  | none => -1
  | some n => n
def nextB (xs : Bs) : Option Nat := if xs.length < 13 then none else if xs.length < 13 + w16 (xs.drop 9) + w16 (xs.drop 11) then none else some (13 + w16 (xs.drop 9) + w16 (xs.drop 11))
theorem kidsL_enc (r : Bs) : ∀ (ks : List Bs) (pre : Bs), (∀ k ∈ ks, k.length < 65536) → kidsL (pre ++ ks.flatMap keyE ++ r) ks.length pre.length = some (pre.length + keysB ks)
  | [], pre, _ => by
    rw [List.length_nil, kidsL, if_neg (by simp)]
    simp [keysB]
  | k :: ks, pre, h => by
    have hk := h k (by simp)
    have e : pre ++ (k :: ks).flatMap keyE ++ r = (pre ++ keyE k) ++ ks.flatMap keyE ++ r := by simp [List.flatMap_cons]
    have hd : (pre ++ (k :: ks).flatMap keyE ++ r).drop pre.length = two2 (k.length : Int) ++ (k ++ (ks.flatMap keyE ++ r)) := by
      rw [List.append_assoc, List.drop_left]
      simp [List.flatMap_cons, keyE]
    have hl : (two2 (k.length : Int)).length = 2 := rfl
    have hlen : (pre ++ (k :: ks).flatMap keyE ++ r).length = pre.length + (2 + (k.length + ((ks.flatMap keyE).length + r.length))) := by
      have := congrArg List.length hd
      rw [List.length_drop] at this
      simp only [List.length_append, hl] at this ⊢
      omega
    rw [List.length_cons, kidsL, if_neg (by rw [hlen]; omega), hd, w16_two hk, e]
    have hp : (pre ++ keyE k).length = pre.length + 2 + k.length := by simp only [keyE, List.length_append, hl]; omega
    have := kidsL_enc r ks (pre ++ keyE k) fun x hx => h x (by simp [hx])
    rw [hp] at this
    rw [this]
    simp only [keysB, List.map_cons, List.sum_cons]
    congr 1
    omega
theorem kidsB_enc {d : List Int × List Bs} {r : Bs} (h1 : d.2.length + 1 = d.1.length) (h2 : d.1.length < 65536) (h3 : ∀ k ∈ d.2, k.length < 65536) : kidsB (encK d ++ r) = some (bytesK d) := by
  have e : encK d ++ r = two2 (d.1.length : Int) ++ (d.1.flatMap four4 ++ d.2.flatMap keyE ++ r) := by simp [encK, List.append_assoc]
  have hw : w16 (encK d ++ r) = d.1.length := by rw [e]; exact w16_two h2
  have hl := encK_len d
  have h4 := kidsL_enc r d.2 (two2 (d.1.length : Int) ++ d.1.flatMap four4) h3
  have h5 : (two2 (d.1.length : Int) ++ d.1.flatMap four4).length = 2 + 4 * d.1.length := by rw [List.length_append, fourL]; rfl
  rw [h5] at h4
  have e2 : two2 (d.1.length : Int) ++ d.1.flatMap four4 ++ d.2.flatMap keyE ++ r = encK d ++ r := rfl
  rw [e2] at h4
  rw [kidsB, if_neg (by rw [List.length_append, hl, bytesK]; omega), hw]
  have e3 : d.1.length - 1 = d.2.length := by omega
  rw [e3, h4]
  rfl
theorem nextB_enc {m : MD} {r : Bs} (h : Canon m) : nextB (encM1 m ++ r) = some (lenM m) := by
  have hl := encM1_len m
  have e0 : lenM m = 13 + m.lo.length + m.hi.length + m.v.length := rfl
  have et : (tailM m).length = m.hi.length + m.v.length := by simp [tailM]
  have e9 : (encM1 m ++ r).drop 9 = nbN 2 m.lo.length ++ (nbN 2 (tailM m).length ++ (m.lo ++ tailM m) ++ r) := by
    have e : encM1 m ++ r = (nbN 8 m.st.toNat ++ nbN 1 m.kd.toNat) ++ (nbN 2 m.lo.length ++ (nbN 2 (tailM m).length ++ (m.lo ++ tailM m) ++ r)) := by simp [encM1, List.append_assoc]
    have hx : (nbN 8 m.st.toNat ++ nbN 1 m.kd.toNat).length = 9 := by rw [List.length_append, nbN_len, nbN_len]
    rw [e, ← hx, List.drop_left]
  have e11 : (encM1 m ++ r).drop 11 = nbN 2 (tailM m).length ++ (m.lo ++ tailM m ++ r) := by
    have e : encM1 m ++ r = (nbN 8 m.st.toNat ++ nbN 1 m.kd.toNat ++ nbN 2 m.lo.length) ++ (nbN 2 (tailM m).length ++ (m.lo ++ tailM m ++ r)) := by simp [encM1, List.append_assoc]
    have hx : (nbN 8 m.st.toNat ++ nbN 1 m.kd.toNat ++ nbN 2 m.lo.length).length = 11 := by simp only [List.length_append, nbN_len]
    rw [e, ← hx, List.drop_left]
  have w9 : w16 ((encM1 m ++ r).drop 9) = m.lo.length := by rw [e9, ← two_nb]; exact w16_two h.lo
  have w11 : w16 ((encM1 m ++ r).drop 11) = (tailM m).length := by rw [e11, ← two_nb]; exact w16_two h.tl
  rw [nextB, w9, w11, if_neg (by rw [List.length_append, hl]; omega), if_neg (by rw [List.length_append, hl]; omega)]
  congr 1
  omega
end Go.Sx
