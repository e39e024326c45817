/- Part of a proof: branch: children are read from bytes, by the program. -/
import Derived.Test.YtimakbpghggdfaaGreatCB4j
namespace Go.Sx
open Go Go.Proofs
set_option maxRecDepth 10000
variable {w0 : World} {H : List Ck}
def by8 (xs : Bs) (i : Nat) : Nat := (xs.getD i 0).toNat
theorem by8_lt (xs : Bs) (i : Nat) : by8 xs i < 256 := (xs.getD i 0).toNat_lt
def w16 (xs : Bs) : Nat := by8 xs 0 * 256 + by8 xs 1
def w32 (xs : Bs) : Nat := ((by8 xs 0 * 256 + by8 xs 1) * 256 + by8 xs 2) * 256 + by8 xs 3
theorem w16_lt (xs : Bs) : w16 xs < 65536 := by have := by8_lt xs 0; have := by8_lt xs 1; unfold w16; omega
theorem w32_lt (xs : Bs) : w32 xs < 4294967296 := by have := by8_lt xs 0; have := by8_lt xs 1; have := by8_lt xs 2; have := by8_lt xs 3; unfold w32; omega
def pgs : Nat → Bs → List Int
  | 0, _ => []
  | n + 1, xs => (w32 xs : Int) :: pgs n (xs.drop 4)
def kys : Nat → Bs → Option (List Bs × Bs)
  | 0, xs => some ([], xs)
  | n + 1, xs => if xs.length < 2 ∨ xs.length - 2 < w16 xs then none else (kys n (xs.drop (2 + w16 xs))).map fun r => ((xs.drop 2).take (w16 xs) :: r.1, r.2)
def readK (xs : Bs) : Option (List Int × List Bs) :=
  if xs.length < 2 ∨ xs.length < 2 + 4 * w16 xs then none
  else (kys (w16 xs - 1) (xs.drop (2 + 4 * w16 xs))).bind fun r => if r.2.length = 0 then some (pgs (w16 xs) (xs.drop 2), r.1) else none
theorem pgs_snoc : ∀ (n : Nat) (xs : Bs), pgs (n + 1) xs = pgs n xs ++ [(w32 (xs.drop (4 * n)) : Int)]
  | 0, xs => by simp [pgs]
  | n + 1, xs => by
    rw [pgs, pgs_snoc n (xs.drop 4), pgs, List.drop_drop]
    have : 4 + 4 * n = 4 * (n + 1) := by omega
    rw [this]; rfl
theorem pgs_len : ∀ (n : Nat) (xs : Bs), (pgs n xs).length = n
  | 0, _ => rfl
  | n + 1, xs => by simp [pgs, pgs_len n]
theorem pgs_lt : ∀ (n : Nat) (xs : Bs), ∀ p ∈ pgs n xs, 0 ≤ p ∧ p < 4294967296
  | 0, _, p, h => by simp [pgs] at h
  | n + 1, xs, p, h => by
    rw [pgs] at h
    rcases List.mem_cons.1 h with rfl | h
    · have := w32_lt xs; omega
    · exact pgs_lt n _ p h
abbrev ReadR (xs : Bs) (H : List Ck) : Value → List Ck → Prop := fun v H' => ∃ (k : Kd) (ok : Bool), v = .tuple #[.agg k.cells.toArray, .bool ok] ∧ ok = (readK xs).isSome ∧ (∀ d, readK xs = some d → k.d = d) ∧ (∀ n ∈ k.ps, 0 ≤ n ∧ n < 4294967296) ∧ k.ps.length ≤ 65536 ∧ H' = oK k :: H
/-- Where a reader stands. -/
structure RdI where
  i : Nat
  ra : Option Addr
  rc : Nat
  rs : Bs
  pa : Option Addr
  pc : Nat
structure RkI where
  j : Nat
  ra : Option Addr
  rc : Nat
  rs : Bs
  ka : Option Addr
  kc : Nat
  ks : List SB
theorem Ent.oK {k : Kd} {R1 R2 R3 H' : List Ck} (h1 : Rm (ol 3 k.pa k.pc k.ps) H R1) (h2 : Rm (ol 24 k.ka k.kc k.ks) R1 R2) (h3 : Rm (fam 5 k.ks) R2 R3) (h : Ent R3 H') : Ent H (Sx.oK k :: H') := by
  refine Ent.trans (H' := ol 3 k.pa k.pc k.ps :: ol 24 k.ka k.kc k.ks :: fam 5 k.ks :: H') ?_ (Ent.star (L := [ol 3 k.pa k.pc k.ps, ol 24 k.ka k.kc k.ks, fam 5 k.ks]) Ent.refl)
  exact Ent.cons h1 (Ent.cons h2 (Ent.cons h3 h))
theorem kys_keep {n : Nat} {xs : Bs} {ks : List Bs} (h1 : ¬ xs.length < 2) (h2 : ¬ xs.length - 2 < w16 xs) {o : Option (List Bs × Bs)} (h : o = (kys (n + 1) xs).map fun r => (ks ++ r.1, r.2)) :
    o = (kys n (xs.drop (2 + w16 xs))).map fun r => (ks ++ [(xs.drop 2).take (w16 xs)] ++ r.1, r.2) := by
  rw [h, kys, if_neg (by omega), Option.map_map]
  congr 1
  funext r
  simp
theorem readR_none {xs : Bs} {k : Kd} (e : readK xs = none) (h1 : ∀ n ∈ k.ps, 0 ≤ n ∧ n < 4294967296) (h2 : k.ps.length ≤ 65536) : ReadR xs H (.tuple #[.agg k.cells.toArray, .bool false]) (oK k :: H) :=
  ⟨k, false, rfl, by rw [e]; rfl, fun d h => (by rw [e] at h; cases h), h1, h2, rfl⟩
end Go.Sx
