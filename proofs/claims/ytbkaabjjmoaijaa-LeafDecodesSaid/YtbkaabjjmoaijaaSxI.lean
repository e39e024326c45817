/- Part eight and a half: remainders, signs, shifts by a number. -/
import Derived.Test.YtbkaabjjmoaijaaSxH
namespace Go.Sx
open Go
section
variable {P : Program} {S : World → Prop} {l : List (Nat × Value)} {d : Option Tmp} {ty : TypeId} {pos : String} {af : Array Edge} {g : Option (Nat × Bool)}
theorem y_neg {x : Operand} {T : TypeId} {a : Int} (hx : ev l x = some (.int .i64 a)) (h : -9223372036854775807 ≤ a ∧ a ≤ 9223372036854775807) :
    Y P S ⟨d, .unOp .neg T x, ty, pos, af, g⟩ l (.int .i64 (-a)) := .mk fun w _ ρ hρ => by
  have := IntWalk.i64_in (-a) (by omega)
  simp [execOp, hρ _ _ hx, Op.unary, Op.intArith, this]
/-- x % y of what is not below 0. -/
theorem y_rem {x y : Operand} {T U : TypeId} {a c : Int} (hx : ev l x = some (.int .i64 a)) (hy : ev l y = some (.int .i64 c)) (h : 0 ≤ a ∧ 1 ≤ c) :
    Y P S ⟨d, .binOp .rem T x y U, ty, pos, af, g⟩ l (.int .i64 (a % c)) := .mk fun w _ ρ hρ => by
  have hne : c ≠ 0 := by omega
  have : a.tmod c = a % c := Int.tmod_eq_emod_of_nonneg h.1
  simp [execOp, hρ _ _ hx, hρ _ _ hy, eqGuard, binOp, Op.intDiv, hne, this]
/-- A number shifted by another. -/
theorem y_shlv {x y : Operand} {T U : TypeId} {a m : Nat} {k' : IntKind} (hx : ev l x = some (.int .i64 (a : Int))) (hy : ev l y = some (.int k' (m : Int))) (hm : m ≤ 62) (ha : a * 2 ^ m ≤ 9223372036854775807) :
    Y P S ⟨d, .binOp .shl T x y U, ty, pos, af, g⟩ l (.int .i64 ((a * 2 ^ m : Nat) : Int)) := .mk fun w _ ρ hρ => by
  have h4 : ((a * 2 ^ m : Nat) : Int) = (a : Int) * 2 ^ m := by simp
  have h3 : IntKind.i64.wrap ((a : Int) * 2 ^ m) = ((a * 2 ^ m : Nat) : Int) := by rw [← h4, IntWalk.i64_in _ (by omega)]
  simp [execOp, hρ _ _ hx, hρ _ _ hy, eqGuard, binOp, h3]
end
end Go.Sx
