/- Part of a proof: several parts of a walk, one behind the other. -/
import Derived.Test.YtpnhoafmlhlfgaaGreatCB4j
namespace Go.Sx
open Go Go.Proofs
set_option maxRecDepth 10000
variable {w0 : World} {H : List Ck}
def by8 (xs : Bs) (i : Nat) : Nat := (xs.getD i 0).toNat
theorem by8_lt (xs : Bs) (i : Nat) : by8 xs i < 256 := (xs.getD i 0).toNat_lt
def w16 (xs : Bs) : Nat := by8 xs 0 * 256 + by8 xs 1
def w32 (xs : Bs) : Nat := ((by8 xs 0 * 256 + by8 xs 1) * 256 + by8 xs 2) * 256 + by8 xs 3
theorem w16_lt (xs : Bs) : w16 xs < 65536 := by have := by8_lt xs 0; have := by8_lt xs 1; unfold w16; omega
theorem w32_lt (xs : Bs) : w32 xs < 4294967296 := by have := by8_lt xs 0; have := by8_lt xs 1; have := by8_lt xs 2; have := by8_lt xs 3; unfold w32; omega
def pgs : Nat → Bs → List Int
  | 0, _ => []
  | n + 1, xs => (w32 xs : Int) :: pgs n (xs.drop 4)
def kys : Nat → Bs → Option (List Bs × Bs)
  | 0, xs => some ([], xs)
  | n + 1, xs => if xs.length < 2 ∨ xs.length - 2 < w16 xs then none else (kys n (xs.drop (2 + w16 xs))).map fun r => ((xs.drop 2).take (w16 xs) :: r.1, r.2)
def readK (xs : Bs) : Option (List Int × List Bs) :=
  if xs.length < 2 ∨ xs.length < 2 + 4 * w16 xs then none
  else (kys (w16 xs - 1) (xs.drop (2 + 4 * w16 xs))).bind fun r => if r.2.length = 0 then some (pgs (w16 xs) (xs.drop 2), r.1) else none
theorem pgs_snoc : ∀ (n : Nat) (xs : Bs), pgs (n + 1) xs = pgs n xs ++ [(w32 (xs.drop (4 * n)) : Int)]
  | 0, xs => by simp [pgs]
  | n + 1, xs => by
    rw [pgs, pgs_snoc n (xs.drop 4), pgs, List.drop_drop]
    have : 4 + 4 * n = 4 * (n + 1) := by omega
    rw [this]; rfl
theorem pgs_len : ∀ (n : Nat) (xs : Bs), (pgs n xs).length = n
  | 0, _ => rfl
  | n + 1, xs => by simp [pgs, pgs_len n]
theorem pgs_lt : ∀ (n : Nat) (xs : Bs), ∀ p ∈ pgs n xs, 0 ≤ p ∧ p < 4294967296
  | 0, _, p, h => by simp [pgs] at h
  | n + 1, xs, p, h => by
    rw [pgs] at h
    rcases List.mem_cons.1 h with rfl | h
    · have := w32_lt xs; omega
    · exact pgs_lt n _ p h
abbrev ReadR (xs : Bs) (H : List Ck) : Value → List Ck → Prop := fun v H' => ∃ (k : Kd) (ok : Bool), v = .tuple #[.agg k.cells.toArray, .bool ok] ∧ ok = (readK xs).isSome ∧ (∀ d, readK xs = some d → k.d = d) ∧ (∀ n ∈ k.ps, 0 ≤ n ∧ n < 4294967296) ∧ k.ps.length ≤ 65536 ∧ H' = oK k :: H
/-- Where a reader stands. -/
structure RdI where
  i : Nat
  ra : Option Addr
  rc : Nat
  rs : Bs
  pa : Option Addr
  pc : Nat
structure RkI where
  j : Nat
  ra : Option Addr
  rc : Nat
  rs : Bs
  ka : Option Addr
  kc : Nat
  ks : List SB
theorem Ent.oK {k : Kd} {R1 R2 R3 H' : List Ck} (h1 : Rm (ol 3 k.pa k.pc k.ps) H R1) (h2 : Rm (ol 49 k.ka k.kc k.ks) R1 R2) (h3 : Rm (fam 5 k.ks) R2 R3) (h : Ent R3 H') : Ent H (Sx.oK k :: H') := by
  refine Ent.trans (H' := ol 3 k.pa k.pc k.ps :: ol 49 k.ka k.kc k.ks :: fam 5 k.ks :: H') ?_ (Ent.star (L := [ol 3 k.pa k.pc k.ps, ol 49 k.ka k.kc k.ks, fam 5 k.ks]) Ent.refl)
  exact Ent.cons h1 (Ent.cons h2 (Ent.cons h3 h))
theorem kys_keep {n : Nat} {xs : Bs} {ks : List Bs} (h1 : ¬ xs.length < 2) (h2 : ¬ xs.length - 2 < w16 xs) {o : Option (List Bs × Bs)} (h : o = (kys (n + 1) xs).map fun r => (ks ++ r.1, r.2)) :
    o = (kys n (xs.drop (2 + w16 xs))).map fun r => (ks ++ [(xs.drop 2).take (w16 xs)] ++ r.1, r.2) := by
  rw [h, kys, if_neg (by omega), Option.map_map]
  congr 1
  funext r
  simp
theorem readR_none {xs : Bs} {k : Kd} (e : readK xs = none) (h1 : ∀ n ∈ k.ps, 0 ≤ n ∧ n < 4294967296) (h2 : k.ps.length ≤ 65536) : ReadR xs H (.tuple #[.agg k.cells.toArray, .bool false]) (oK k :: H) :=
  ⟨k, false, rfl, by rw [e]; rfl, fun d h => (by rw [e] at h; cases h), h1, h2, rfl⟩
end Go.Sx
namespace Go.Sx
open Go Go.Proofs
set_option maxRecDepth 10000
variable {w0 : World} {H : List Ck}
theorem by8_drop (xs : Bs) (p k : Nat) : by8 (xs.drop p) k = (xs.getD (p + k) 0).toNat := by
  simp [by8, List.getD_eq_getElem?_getD, List.getElem?_drop]
structure RdJ where
  i : Nat
  pa : Option Addr
  pc : Nat
structure RkJ where
  j : Nat
  p : Nat
  ka : Option Addr
  kc : Nat
  ks : List SB
end Go.Sx
namespace Go.Sx
open Go Go.Proofs
set_option maxRecDepth 10000
variable {w0 : World} {H : List Ck}
theorem ofInt_eq {n : Int} {b : UInt8} (h : n % 256 = (b.toNat : Int)) : UInt8.ofInt n = b := by
  apply UInt8.toNat_inj.1
  have := b.toNat_lt
  simp [UInt8.ofInt]
  omega
theorem four_w32 (b0 b1 b2 b3 : UInt8) (r : Bs) : four4 (w32 (b0 :: b1 :: b2 :: b3 :: r)) = [b0, b1, b2, b3] := by
  have h0 := b0.toNat_lt
  have h1 := b1.toNat_lt
  have h2 := b2.toNat_lt
  have h3 := b3.toNat_lt
  have e : w32 (b0 :: b1 :: b2 :: b3 :: r) = ((b0.toNat * 256 + b1.toNat) * 256 + b2.toNat) * 256 + b3.toNat := rfl
  rw [e, four4, ofInt_eq (b := b0) (by omega), ofInt_eq (b := b1) (by omega), ofInt_eq (b := b2) (by omega), ofInt_eq (b := b3) (by omega)]
theorem two_w16 (b0 b1 : UInt8) (r : Bs) : two2 (w16 (b0 :: b1 :: r)) = [b0, b1] := by
  have h0 := b0.toNat_lt
  have h1 := b1.toNat_lt
  have e : w16 (b0 :: b1 :: r) = b0.toNat * 256 + b1.toNat := rfl
  rw [e, two2, ofInt_eq (b := b0) (by omega), ofInt_eq (b := b1) (by omega)]
theorem pgs_enc : ∀ (n : Nat) (xs : Bs), 4 * n ≤ xs.length → (pgs n xs).flatMap four4 = xs.take (4 * n)
  | 0, xs, _ => by simp [pgs]
  | n + 1, b0 :: b1 :: b2 :: b3 :: r, h => by
    have := pgs_enc n r (by simp at h; omega)
    rw [pgs, List.flatMap_cons, four_w32]
    have e : (b0 :: b1 :: b2 :: b3 :: r).drop 4 = r := rfl
    rw [e, this, show 4 * (n + 1) = 4 * n + 4 by omega]
    simp
  | n + 1, [], h => by simp at h
  | n + 1, [_], h => by simp at h; omega
  | n + 1, [_, _], h => by simp at h; omega
  | n + 1, [_, _, _], h => by simp at h; omega
theorem two_take {xs : Bs} (h : 2 ≤ xs.length) : two2 (w16 xs) = xs.take 2 := by
  match xs, h with
  | b0 :: b1 :: r, _ => rw [two_w16]; rfl
theorem kys_enc : ∀ (n : Nat) (xs : Bs) (ks : List Bs) (r : Bs), kys n xs = some (ks, r) → xs = ks.flatMap keyE ++ r ∧ ks.length = n
  | 0, xs, ks, r, h => by simp only [kys, Option.some.injEq, Prod.mk.injEq] at h; obtain ⟨rfl, rfl⟩ := h; simp
  | n + 1, xs, ks, r, h => by
    rw [kys] at h
    split at h
    · cases h
    · rename_i hc
      obtain ⟨⟨ks', r'⟩, h1, h2⟩ := Option.map_eq_some_iff.1 h
      simp only [Prod.mk.injEq] at h2
      obtain ⟨rfl, rfl⟩ := h2
      obtain ⟨h3, h4⟩ := kys_enc n _ _ _ h1
      refine ⟨?_, by simp [h4]⟩
      have hl : ((xs.drop 2).take (w16 xs)).length = w16 xs := by rw [List.length_take, List.length_drop]; omega
      rw [List.flatMap_cons, keyE, hl, two_take (by omega), List.append_assoc, ← h3]
      rw [← List.drop_drop]
      rw [List.append_assoc, List.take_append_drop, List.take_append_drop]
theorem read_enc {xs : Bs} {d : List Int × List Bs} (h : readK xs = some d) : encK d = xs ∧ (0 < d.1.length → d.2.length + 1 = d.1.length) := by
  unfold readK at h
  split at h
  · cases h
  · rename_i hc
    obtain ⟨⟨ks, r⟩, h1, h2⟩ := Option.bind_eq_some_iff.1 h
    simp only at h2
    split at h2
    · rename_i hr
      simp only [Option.some.injEq] at h2
      subst h2
      obtain ⟨h3, h4⟩ := kys_enc _ _ _ _ h1
      rw [List.eq_nil_of_length_eq_zero hr, List.append_nil] at h3
      refine ⟨?_, fun h5 => ?_⟩
      · rw [encK]
        simp only
        rw [pgs_len, two_take (by omega), pgs_enc _ _ (by rw [List.length_drop]; omega), ← h3, ← List.drop_drop, List.append_assoc, List.take_append_drop, List.take_append_drop]
      · simp only [pgs_len] at h5 ⊢
        omega
    · cases h2
def decK (size : Int) (xs : Bs) : Option (List Int × List Bs) := if sizedB size = true then (readK xs).bind fun d => if chkK size d = 0 then some d else none else none
def decE (size : Int) (xs : Bs) : Int := if sizedB size = false then 1 else if (decK size xs).isSome then 0 else 65
def decD (size : Int) (xs : Bs) : List Int × List Bs := (decK size xs).getD ([], [])
abbrev DecR (size : Int) (xs : Bs) (H : List Ck) : Value → List Ck → Prop := fun v H' => ∃ k : Kd, v = .tuple #[.agg k.cells.toArray, .int .i64 (decE size xs)] ∧ k.d = decD size xs ∧ H' = oK k :: H
theorem hnilK {H : List Ck} : Ent H (oK kd0 :: H) := Ent.nilS.trans ((Ent.head Ent.nilS).trans ((Ent.head (Ent.head fam_nil)).trans (Ent.oK (k := kd0) (by exact Rm.tl Rm.hd) (by exact Rm.hd) (by exact Rm.hd) Ent.refl)))
theorem decR_1 {size : Int} {xs : Bs} (h : sizedB size = false) : DecR size xs H (.tuple #[.agg kd0.cells.toArray, .int .i64 1]) (oK kd0 :: H) :=
  ⟨kd0, by rw [decE, if_pos h], by rw [decD, decK, if_neg (by simp [h])]; rfl, rfl⟩
theorem decR_65 {size : Int} {xs : Bs} (h : sizedB size = true) (h1 : decK size xs = none) : DecR size xs H (.tuple #[.agg kd0.cells.toArray, .int .i64 65]) (oK kd0 :: H) :=
  ⟨kd0, by rw [decE, if_neg (by simp [h]), h1]; rfl, by rw [decD, h1]; rfl, rfl⟩
theorem decR_0 {size : Int} {xs : Bs} {k : Kd} (h : sizedB size = true) (h1 : decK size xs = some k.d) : DecR size xs H (.tuple #[.agg k.cells.toArray, .int .i64 0]) (oK k :: H) :=
  ⟨k, by rw [decE, if_neg (by simp [h]), h1]; rfl, by rw [decD, h1]; rfl, rfl⟩
end Go.Sx
namespace Go.Sx
open Go
/-- A message. -/
structure MD where
  st : Int
  kd : Int
  lo : Bs
  hi : Bs
  v : Bs
deriving DecidableEq
def keyB (size : Int) (b : Bs) : Bool := decide (1 ≤ b.length) && decide ((b.length : Int) ≤ size / 16)
/-- May a message be, but for its stamp? -/
def mayM (size : Int) (m : MD) : Bool :=
  if m.kd = 1 then keyB size m.lo && decide (m.hi.length = 0) && decide ((m.v.length : Int) ≤ size / 4)
  else if m.kd = 2 then keyB size m.lo && decide (m.hi.length = 0) && decide (m.v.length = 0)
  else if m.kd = 3 then keyB size m.lo && keyB size m.hi && decide (cmp m.lo m.hi < 0) && decide (m.v.length = 0)
  else false
def chkG (size : Int) : Int → List MD → Int
  | _, [] => 0
  | last, m :: r => if mayM size m = false then 71 else if m.st ≤ last ∨ 4611686018427387904 < m.st then 72 else chkG size m.st r
/-- What is wrong with messages. -/
def chkM (size : Int) (l : List MD) : Int := if sizedB size = true then chkG size 0 l else 1
def lenM (m : MD) : Nat := 13 + m.lo.length + m.hi.length + m.v.length
def sumM (l : List MD) : Nat := (l.map lenM).sum
def bytesM (l : List MD) : Nat := 4 + sumM l
theorem sumM_snoc (l : List MD) (m : MD) : sumM (l ++ [m]) = sumM l + lenM m := by simp [sumM]
theorem sumM_app (l k : List MD) : sumM (l ++ k) = sumM l + sumM k := by simp [sumM]
theorem sumM_take (l : List MD) (i : Nat) : sumM (l.take i) ≤ sumM l := by
  have h := sumM_app (l.take i) (l.drop i)
  rw [List.take_append_drop] at h
  omega
theorem sumM_get {l : List MD} {i : Nat} {m : MD} (h : l[i]? = some m) : sumM (l.take (i + 1)) = sumM (l.take i) + lenM m := by
  rw [snocT h, sumM_snoc]
theorem sumM_len (l : List MD) : 13 * l.length ≤ sumM l := by
  induction l with
  | nil => simp [sumM]
  | cons m l ih => simp only [sumM, List.map_cons, List.sum_cons, List.length_cons, lenM] at *; omega
theorem chkG_step {size last : Int} {l : List MD} {i : Nat} {m : MD} (h : l[i]? = some m) : chkG size last (l.drop i) = if mayM size m = false then 71 else if m.st ≤ last ∨ 4611686018427387904 < m.st then 72 else chkG size m.st (l.drop (i + 1)) := by
  rw [dropC h, chkG]
/-- A number in so many bytes, the highest first. -/
def nbN : Nat → Nat → Bs
  | 0, _ => []
  | k + 1, v => nbN k (v / 256) ++ [UInt8.ofNat v]
theorem nbN_len : ∀ (k v : Nat), (nbN k v).length = k
  | 0, _ => rfl
  | k + 1, v => by simp [nbN, nbN_len k]
theorem nbN_get : ∀ (k v i : Nat), i < k → (nbN k v)[i]? = some (UInt8.ofNat (v / 256 ^ (k - 1 - i)))
  | k + 1, v, i, h => by
    rw [nbN]
    by_cases e : i = k
    · subst e
      rw [List.getElem?_append_right (by rw [nbN_len]; exact Nat.le_refl _), nbN_len]
      simp
    · rw [List.getElem?_append_left (by rw [nbN_len]; omega), nbN_get k (v / 256) i (by omega), Nat.div_div_eq_div_mul]
      have e2 : k + 1 - 1 - i = (k - 1 - i) + 1 := by omega
      rw [e2, Nat.pow_succ, Nat.mul_comm]
/-- What bytes say. -/
def beN (xs : Bs) : Nat := xs.foldl (fun a c => a * 256 + c.toNat) 0
theorem beN_snoc (xs : Bs) (c : UInt8) : beN (xs ++ [c]) = beN xs * 256 + c.toNat := by simp [beN]
theorem beN_lt : ∀ (k : Nat) (xs : Bs), xs.length = k → beN xs < 256 ^ k
  | 0, xs, h => by rw [List.eq_nil_of_length_eq_zero h]; decide
  | k + 1, xs, h => by
    obtain ⟨ys, c, rfl⟩ : ∃ ys c, xs = ys ++ [c] := ⟨xs.dropLast, xs.getLast (by intro e; rw [e] at h; cases h), (List.dropLast_concat_getLast _).symm⟩
    have ih := beN_lt k ys (by simpa using h)
    have hc := c.toNat_lt
    rw [beN_snoc, Nat.pow_succ]
    omega
theorem beN_nbN : ∀ (k v : Nat), v < 256 ^ k → beN (nbN k v) = v
  | 0, v, h => by simp at h; subst h; rfl
  | k + 1, v, h => by
    rw [nbN, beN_snoc, beN_nbN k (v / 256) (by rw [Nat.pow_succ] at h; exact Nat.div_lt_of_lt_mul (by rw [Nat.mul_comm]; exact h))]
    have : (UInt8.ofNat v).toNat = v % 256 := rfl
    rw [this]
    omega
/-- Which bytes a message has behind its key. -/
def tailM (m : MD) : Bs := m.hi ++ m.v
def encM1 (m : MD) : Bs := nbN 8 m.st.toNat ++ (nbN 1 m.kd.toNat ++ (nbN 2 m.lo.length ++ (nbN 2 (tailM m).length ++ (m.lo ++ tailM m))))
def layM (l : List MD) : Bs := nbN 4 l.length ++ l.flatMap encM1
theorem encM1_len (m : MD) : (encM1 m).length = lenM m := by
  simp only [encM1, List.length_append, nbN_len, tailM, lenM]; omega
theorem encs_len (l : List MD) : (l.flatMap encM1).length = sumM l := by
  induction l with
  | nil => rfl
  | cons m l ih => simp only [List.flatMap_cons, List.length_append, encM1_len, ih, sumM, List.map_cons, List.sum_cons]
theorem layM_len (l : List MD) : (layM l).length = bytesM l := by rw [layM, List.length_append, nbN_len, encs_len]; rfl
/-- Bytes that are taken from the front; is something wrong? -/
abbrev SrcB : Type := Bs × Bool
def takeS (n : Nat) (s : SrcB) : Bs × SrcB := if s.2 = true ∨ s.1.length < n then ([], (s.1, true)) else (s.1.take n, (s.1.drop n, false))
def numS (k : Nat) (s : SrcB) : Nat × SrcB := (beN (takeS k s).1, (takeS k s).2)
def oneS (s : SrcB) : MD × SrcB :=
  let a := numS 8 s
  let k := numS 1 a.2
  let lo := numS 2 k.2
  let tl := numS 2 lo.2
  let x := takeS lo.1 tl.2
  let t := takeS tl.1 x.2
  (⟨a.1, k.1, x.1, if (k.1 : Int) = 3 then t.1 else [], if (k.1 : Int) = 3 then [] else t.1⟩, t.2)
def loopS : Nat → List MD → SrcB → List MD × SrcB
  | 0, out, s => (out, s)
  | n + 1, out, s => if s.2 = true then (out, s) else loopS n (out ++ [(oneS s).1]) (oneS s).2
theorem takeS_app (a r : Bs) : takeS a.length (a ++ r, false) = (a, (r, false)) := by
  rw [takeS, if_neg (by simp)]
  simp
theorem numS_app {k v : Nat} {r : Bs} (h : v < 256 ^ k) : numS k (nbN k v ++ r, false) = (v, (r, false)) := by
  have := takeS_app (nbN k v) r
  rw [nbN_len] at this
  rw [numS, this, beN_nbN k v h]
/-- What messages that may be are like. -/
structure Canon (m : MD) : Prop where
  st : 0 ≤ m.st ∧ m.st < 18446744073709551616
  kd : 1 ≤ m.kd ∧ m.kd ≤ 3
  lo : m.lo.length < 65536
  tl : (tailM m).length < 65536
  cut : m.kd = 3 → m.v = []
  one : m.kd ≠ 3 → m.hi = []
theorem oneS_enc {m : MD} {r : Bs} (h : Canon m) : oneS (encM1 m ++ r, false) = (m, (r, false)) := by
  have e : encM1 m ++ r = nbN 8 m.st.toNat ++ (nbN 1 m.kd.toNat ++ (nbN 2 m.lo.length ++ (nbN 2 (tailM m).length ++ (m.lo ++ (tailM m ++ r))))) := by simp [encM1, List.append_assoc]
  have h1 := h.st
  have h2 := h.kd
  have q1 : numS 8 (nbN 8 m.st.toNat ++ (nbN 1 m.kd.toNat ++ (nbN 2 m.lo.length ++ (nbN 2 (tailM m).length ++ (m.lo ++ (tailM m ++ r))))), false) = (m.st.toNat, (nbN 1 m.kd.toNat ++ (nbN 2 m.lo.length ++ (nbN 2 (tailM m).length ++ (m.lo ++ (tailM m ++ r)))), false)) := numS_app (by omega)
  have q2 : numS 1 (nbN 1 m.kd.toNat ++ (nbN 2 m.lo.length ++ (nbN 2 (tailM m).length ++ (m.lo ++ (tailM m ++ r)))), false) = (m.kd.toNat, (nbN 2 m.lo.length ++ (nbN 2 (tailM m).length ++ (m.lo ++ (tailM m ++ r))), false)) := numS_app (by omega)
  have q3 : numS 2 (nbN 2 m.lo.length ++ (nbN 2 (tailM m).length ++ (m.lo ++ (tailM m ++ r))), false) = (m.lo.length, (nbN 2 (tailM m).length ++ (m.lo ++ (tailM m ++ r)), false)) := numS_app h.lo
  have q4 : numS 2 (nbN 2 (tailM m).length ++ (m.lo ++ (tailM m ++ r)), false) = ((tailM m).length, (m.lo ++ (tailM m ++ r), false)) := numS_app h.tl
  have q5 := takeS_app m.lo (tailM m ++ r)
  have q6 := takeS_app (tailM m) r
  rw [e]
  simp only [oneS, q1, q2, q3, q4, q5, q6]
  have k1 : ((m.st.toNat : Nat) : Int) = m.st := by omega
  have k2 : ((m.kd.toNat : Nat) : Int) = m.kd := by omega
  rw [k1, k2]
  obtain ⟨st, kd, lo, hi, v⟩ := m
  simp only [Prod.mk.injEq, and_true, MD.mk.injEq, true_and]
  by_cases h3 : kd = 3
  · have := h.cut h3
    simp only at this
    subst this
    simp [h3, tailM]
  · have := h.one h3
    simp only at this
    subst this
    simp [h3, tailM]
theorem loopS_enc : ∀ (l out : List MD) (r : Bs), (∀ m ∈ l, Canon m) → loopS l.length out (l.flatMap encM1 ++ r, false) = (out ++ l, (r, false))
  | [], out, r, _ => by simp [loopS]
  | m :: l, out, r, h => by
    rw [List.length_cons, loopS, List.flatMap_cons, List.append_assoc, oneS_enc (h m (by simp))]
    simp only [Bool.false_eq_true, if_false]
    rw [loopS_enc l _ r fun x hx => h x (by simp [hx]), List.append_assoc]
    rfl
theorem mayM_canon {size : Int} {m : MD} (hs : sizedB size = true) (h : mayM size m = true) (hst : 0 ≤ m.st ∧ m.st < 18446744073709551616) : Canon m := by
  have hb := sizedB_bd hs
  obtain ⟨st, kd, lo, hi, v⟩ := m
  unfold mayM keyB at h
  simp only at h hst
  split at h
  · rename_i e
    subst e
    simp only [Bool.and_eq_true, decide_eq_true_eq] at h
    obtain ⟨⟨⟨h1, h2⟩, h3⟩, h4⟩ := h
    have h3 := List.eq_nil_of_length_eq_zero h3
    subst h3
    exact ⟨hst, by simp, by simp only; omega, by simp only [tailM, List.nil_append]; omega, fun e => by simp at e, fun _ => rfl⟩
  · split at h
    · rename_i _ e
      subst e
      simp only [Bool.and_eq_true, decide_eq_true_eq] at h
      obtain ⟨⟨⟨h1, h2⟩, h3⟩, h4⟩ := h
      have h3 := List.eq_nil_of_length_eq_zero h3
      have h4 := List.eq_nil_of_length_eq_zero h4
      subst h3; subst h4
      exact ⟨hst, by simp, by simp only; omega, by simp [tailM], fun e => by simp at e, fun _ => rfl⟩
    · split at h
      · rename_i _ _ e
        subst e
        simp only [Bool.and_eq_true, decide_eq_true_eq] at h
        obtain ⟨⟨⟨⟨h1, h2⟩, h3, h4⟩, h5⟩, h6⟩ := h
        have h6 := List.eq_nil_of_length_eq_zero h6
        subst h6
        exact ⟨hst, by simp, by simp only; omega, by simp only [tailM, List.append_nil]; omega, fun _ => rfl, fun e => absurd rfl e⟩
      · cases h
theorem chkG_may {size : Int} : ∀ {l : List MD} {last : Int}, chkG size last l = 0 → ∀ m ∈ l, mayM size m = true ∧ last < m.st ∧ m.st ≤ 4611686018427387904
  | [], _, _, _, h => by cases h
  | a :: r, last, h, m, hm => by
    simp only [chkG] at h
    split at h
    · cases h
    · rename_i h1
      split at h
      · cases h
      · rename_i h2
        rcases List.mem_cons.1 hm with rfl | hm
        · exact ⟨by simpa using h1, by omega, by omega⟩
        · obtain ⟨g1, g2, g3⟩ := chkG_may h m hm
          exact ⟨g1, by omega, g3⟩
theorem chkM_canon {size : Int} {l : List MD} (h : chkM size l = 0) : ∀ m ∈ l, Canon m := by
  unfold chkM at h
  split at h
  · rename_i hs
    intro m hm
    obtain ⟨g1, g2, g3⟩ := chkG_may h m hm
    exact mayM_canon hs g1 ⟨by omega, by omega⟩
  · cases h
theorem encM1_inj {m k : MD} {r q : Bs} (hm : Canon m) (hk : Canon k) (h : encM1 m ++ r = encM1 k ++ q) : m = k ∧ r = q := by
  have h1 := oneS_enc (r := r) hm
  have h2 := oneS_enc (r := q) hk
  rw [h] at h1
  have := h1.symm.trans h2
  simp only [Prod.mk.injEq, and_true] at this
  exact this
end Go.Sx
