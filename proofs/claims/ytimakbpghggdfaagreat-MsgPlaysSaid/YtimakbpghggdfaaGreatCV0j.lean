/- Part of a proof: several parts of a walk, one behind the other. -/
import Derived.Test.YtimakbpghggdfaaGreatCB4j
namespace Go.Sx
open Go Go.Proofs
set_option maxRecDepth 10000
variable {w0 : World} {H : List Ck}
end Go.Sx
namespace Go.Sx
open Go Go.Proofs
set_option maxRecDepth 10000
variable {w0 : World} {H : List Ck}
end Go.Sx
namespace Go.Sx
open Go Go.Proofs
set_option maxRecDepth 10000
variable {w0 : World} {H : List Ck}
theorem ofInt_eq {n : Int} {b : UInt8} (h : n % 256 = (b.toNat : Int)) : UInt8.ofInt n = b := by
  apply UInt8.toNat_inj.1
  have := b.toNat_lt
  simp [UInt8.ofInt]
  omega
end Go.Sx
namespace Go.Sx
open Go
/-- A message. -/
structure MD where
  st : Int
  kd : Int
  lo : Bs
  hi : Bs
  v : Bs
deriving DecidableEq
def keyB (size : Int) (b : Bs) : Bool := decide (1 ≤ b.length) && decide ((b.length : Int) ≤ size / 16)
/-- May a message be, but for its stamp? -/
def mayM (size : Int) (m : MD) : Bool :=
  if m.kd = 1 then keyB size m.lo && decide (m.hi.length = 0) && decide ((m.v.length : Int) ≤ size / 4)
  else if m.kd = 2 then keyB size m.lo && decide (m.hi.length = 0) && decide (m.v.length = 0)
  else if m.kd = 3 then keyB size m.lo && keyB size m.hi && decide (cmp m.lo m.hi < 0) && decide (m.v.length = 0)
  else false
def chkG (size : Int) : Int → List MD → Int
  | _, [] => 0
  | last, m :: r => if mayM size m = false then 71 else if m.st ≤ last ∨ 4611686018427387904 < m.st then 72 else chkG size m.st r
/-- What is wrong with messages. -/
def chkM (size : Int) (l : List MD) : Int := if sizedB size = true then chkG size 0 l else 1
def lenM (m : MD) : Nat := 13 + m.lo.length + m.hi.length + m.v.length
def sumM (l : List MD) : Nat := (l.map lenM).sum
def bytesM (l : List MD) : Nat := 4 + sumM l
theorem sumM_snoc (l : List MD) (m : MD) : sumM (l ++ [m]) = sumM l + lenM m := by simp [sumM]
theorem sumM_app (l k : List MD) : sumM (l ++ k) = sumM l + sumM k := by simp [sumM]
theorem sumM_take (l : List MD) (i : Nat) : sumM (l.take i) ≤ sumM l := by
  have h := sumM_app (l.take i) (l.drop i)
  rw [List.take_append_drop] at h
  omega
theorem sumM_get {l : List MD} {i : Nat} {m : MD} (h : l[i]? = some m) : sumM (l.take (i + 1)) = sumM (l.take i) + lenM m := by
  rw [snocT h, sumM_snoc]
theorem sumM_len (l : List MD) : 13 * l.length ≤ sumM l := by
  induction l with
  | nil => simp [sumM]
  | cons m l ih => simp only [sumM, List.map_cons, List.sum_cons, List.length_cons, lenM] at *; omega
theorem chkG_step {size last : Int} {l : List MD} {i : Nat} {m : MD} (h : l[i]? = some m) : chkG size last (l.drop i) = if mayM size m = false then 71 else if m.st ≤ last ∨ 4611686018427387904 < m.st then 72 else chkG size m.st (l.drop (i + 1)) := by
  rw [dropC h, chkG]
/-- A number in so many bytes, the highest first. -/
def nbN : Nat → Nat → Bs
  | 0, _ => []
  | k + 1, v => nbN k (v / 256) ++ [UInt8.ofNat v]
theorem nbN_len : ∀ (k v : Nat), (nbN k v).length = k
  | 0, _ => rfl
  | k + 1, v => by simp [nbN, nbN_len k]
theorem nbN_get : ∀ (k v i : Nat), i < k → (nbN k v)[i]? = some (UInt8.ofNat (v / 256 ^ (k - 1 - i)))
  | k + 1, v, i, h => by
    rw [nbN]
    by_cases e : i = k
    · subst e
      rw [List.getElem?_append_right (by rw [nbN_len]; exact Nat.le_refl _), nbN_len]
      simp
    · rw [List.getElem?_append_left (by rw [nbN_len]; omega), nbN_get k (v / 256) i (by omega), Nat.div_div_eq_div_mul]
      have e2 : k + 1 - 1 - i = (k - 1 - i) + 1 := by omega
      rw [e2, Nat.pow_succ, Nat.mul_comm]
/-- What bytes say. -/
def beN (xs : Bs) : Nat := xs.foldl (fun a c => a * 256 + c.toNat) 0
theorem beN_snoc (xs : Bs) (c : UInt8) : beN (xs ++ [c]) = beN xs * 256 + c.toNat := by simp [beN]
theorem beN_lt : ∀ (k : Nat) (xs : Bs), xs.length = k → beN xs < 256 ^ k
  | 0, xs, h => by rw [List.eq_nil_of_length_eq_zero h]; decide
  | k + 1, xs, h => by
    obtain ⟨ys, c, rfl⟩ : ∃ ys c, xs = ys ++ [c] := ⟨xs.dropLast, xs.getLast (by intro e; rw [e] at h; cases h), (List.dropLast_concat_getLast _).symm⟩
    have ih := beN_lt k ys (by simpa using h)
    have hc := c.toNat_lt
    rw [beN_snoc, Nat.pow_succ]
    omega
/-- Which bytes a message has behind its key. -/
def tailM (m : MD) : Bs := m.hi ++ m.v
def encM1 (m : MD) : Bs := nbN 8 m.st.toNat ++ (nbN 1 m.kd.toNat ++ (nbN 2 m.lo.length ++ (nbN 2 (tailM m).length ++ (m.lo ++ tailM m))))
def layM (l : List MD) : Bs := nbN 4 l.length ++ l.flatMap encM1
theorem encM1_len (m : MD) : (encM1 m).length = lenM m := by
  simp only [encM1, List.length_append, nbN_len, tailM, lenM]; omega
theorem encs_len (l : List MD) : (l.flatMap encM1).length = sumM l := by
  induction l with
  | nil => rfl
  | cons m l ih => simp only [List.flatMap_cons, List.length_append, encM1_len, ih, sumM, List.map_cons, List.sum_cons]
theorem layM_len (l : List MD) : (layM l).length = bytesM l := by rw [layM, List.length_append, nbN_len, encs_len]; rfl
/-- Bytes that are taken from the front; is something wrong? -/
abbrev SrcB : Type := Bs × Bool
def takeS (n : Nat) (s : SrcB) : Bs × SrcB := if s.2 = true ∨ s.1.length < n then ([], (s.1, true)) else (s.1.take n, (s.1.drop n, false))
def numS (k : Nat) (s : SrcB) : Nat × SrcB := (beN (takeS k s).1, (takeS k s).2)
def oneS (s : SrcB) : MD × SrcB :=
  let a := numS 8 s
  let k := numS 1 a.2
  let lo := numS 2 k.2
  let tl := numS 2 lo.2
  let x := takeS lo.1 tl.2
  let t := takeS tl.1 x.2
  (⟨a.1, k.1, x.1, if (k.1 : Int) = 3 then t.1 else [], if (k.1 : Int) = 3 then [] else t.1⟩, t.2)
def loopS : Nat → List MD → SrcB → List MD × SrcB
  | 0, out, s => (out, s)
  | n + 1, out, s => if s.2 = true then (out, s) else loopS n (out ++ [(oneS s).1]) (oneS s).2
/-- What messages that may be are like. -/
structure Canon (m : MD) : Prop where
  st : 0 ≤ m.st ∧ m.st < 18446744073709551616
  kd : 1 ≤ m.kd ∧ m.kd ≤ 3
  lo : m.lo.length < 65536
  tl : (tailM m).length < 65536
  cut : m.kd = 3 → m.v = []
  one : m.kd ≠ 3 → m.hi = []
theorem mayM_canon {size : Int} {m : MD} (hs : sizedB size = true) (h : mayM size m = true) (hst : 0 ≤ m.st ∧ m.st < 18446744073709551616) : Canon m := by
  have hb := sizedB_bd hs
  obtain ⟨st, kd, lo, hi, v⟩ := m
  unfold mayM keyB at h
  simp only at h hst
  split at h
  · rename_i e
    subst e
    simp only [Bool.and_eq_true, decide_eq_true_eq] at h
    obtain ⟨⟨⟨h1, h2⟩, h3⟩, h4⟩ := h
    have h3 := List.eq_nil_of_length_eq_zero h3
    subst h3
    exact ⟨hst, by simp, by simp only; omega, by simp only [tailM, List.nil_append]; omega, fun e => by simp at e, fun _ => rfl⟩
  · split at h
    · rename_i _ e
      subst e
      simp only [Bool.and_eq_true, decide_eq_true_eq] at h
      obtain ⟨⟨⟨h1, h2⟩, h3⟩, h4⟩ := h
      have h3 := List.eq_nil_of_length_eq_zero h3
      have h4 := List.eq_nil_of_length_eq_zero h4
      subst h3; subst h4
      exact ⟨hst, by simp, by simp only; omega, by simp [tailM], fun e => by simp at e, fun _ => rfl⟩
    · split at h
      · rename_i _ _ e
        subst e
        simp only [Bool.and_eq_true, decide_eq_true_eq] at h
        obtain ⟨⟨⟨⟨h1, h2⟩, h3, h4⟩, h5⟩, h6⟩ := h
        have h6 := List.eq_nil_of_length_eq_zero h6
        subst h6
        exact ⟨hst, by simp, by simp only; omega, by simp only [tailM, List.append_nil]; omega, fun _ => rfl, fun e => absurd rfl e⟩
      · cases h
theorem chkG_may {size : Int} : ∀ {l : List MD} {last : Int}, chkG size last l = 0 → ∀ m ∈ l, mayM size m = true ∧ last < m.st ∧ m.st ≤ 4611686018427387904
  | [], _, _, _, h => by cases h
  | a :: r, last, h, m, hm => by
    simp only [chkG] at h
    split at h
    · cases h
    · rename_i h1
      split at h
      · cases h
      · rename_i h2
        rcases List.mem_cons.1 hm with rfl | hm
        · exact ⟨by simpa using h1, by omega, by omega⟩
        · obtain ⟨g1, g2, g3⟩ := chkG_may h m hm
          exact ⟨g1, by omega, g3⟩
theorem chkM_canon {size : Int} {l : List MD} (h : chkM size l = 0) : ∀ m ∈ l, Canon m := by
  unfold chkM at h
  split at h
  · rename_i hs
    intro m hm
    obtain ⟨g1, g2, g3⟩ := chkG_may h m hm
    exact mayM_canon hs g1 ⟨by omega, by omega⟩
  · cases h
end Go.Sx

