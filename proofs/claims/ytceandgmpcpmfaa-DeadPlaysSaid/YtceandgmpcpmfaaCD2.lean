/- Part of a proof: cells of numbers, of pointers, of lists of numbers and of lives. -/
import Derived.Test.YtceandgmpcpmfaaCD1
import Derived.Test.YtceandgmpcpmfaaCKB
import Derived.Test.YtceandgmpcpmfaaCH1
namespace Go.Sx
open Go Go.Proofs
set_option maxRecDepth 10000
/-- A number without a sign. -/
structure U64 where
  n : Int
instance : Cel U64 := ⟨1, fun x => [.int .u64 x.n], fun _ => rfl, fun _ => rfl, Nat.one_pos⟩
/-- A variable's place. -/
structure PB where
  b : Nat
@[reducible] def PB.val (x : PB) : Value := .pointer (some ⟨x.b, 0, none⟩)
instance : Cel PB := ⟨1, fun x => [x.val], fun _ => rfl, fun _ => rfl, Nat.one_pos⟩
structure SIn where
  a : Option Addr
  c : Nat
  xs : List Int
@[reducible] def SIn.val (s : SIn) : Value := .slice s.a s.xs.length s.c
instance : Cel SIn := ⟨1, fun x => [x.val], fun _ => rfl, fun _ => rfl, Nat.one_pos⟩
instance : Row SIn Int := ⟨SIn.a, SIn.c, SIn.xs⟩
structure SLf where
  a : Option Addr
  c : Nat
  xs : List Lf
@[reducible] def SLf.val (s : SLf) : Value := .slice s.a s.xs.length s.c
instance : Cel SLf := ⟨1, fun x => [x.val], fun _ => rfl, fun _ => rfl, Nat.one_pos⟩
instance : Row SLf Lf := ⟨SLf.a, SLf.c, SLf.xs⟩
instance : ElT Try.prog 32 U64 := ⟨trivial⟩
instance : ElT Try.prog 34 Lf := ⟨trivial⟩
instance : ZxT Try.prog 34 Lf ⟨0, 0, 0⟩ := ⟨.agg #[.int .i64 0, .int .u64 0, .int .u64 0], fun _ => by kernel_rfl, rfl⟩
instance : ElT Try.prog 47 SIn := ⟨trivial⟩
instance : ElT Try.prog 39 SLf := ⟨trivial⟩
instance : ElT Try.prog 40 PB := ⟨trivial⟩
instance : ElT Try.prog 58 PB := ⟨trivial⟩
theorem eqLf_run (x y : Lf) (w : World) : (Op.equalIn 10000 34 (.agg (Cel.f x).toArray) (.agg (Cel.f y).toArray)).run Try.prog w = .ok (decide (x = y)) w := by
  have hS : Try.prog.underlying 34 = some (.struct (Try.prog.fieldsOf 34)) := by kernel_rfl
  have hp : Try.prog.stoodInHeld 34 = false := by kernel_rfl
  have u1 : Try.prog.underlying 3 = some (.int .i64) := by kernel_rfl
  have u2 : Try.prog.underlying 32 = some (.int .u64) := by kernel_rfl
  have a1 : ∀ w, (isAgg 3).run Try.prog w = .ok false w := fun _ => by kernel_rfl
  have a2 : ∀ w, (isAgg 32).run Try.prog w = .ok false w := fun _ => by kernel_rfl
  have z1 : ∀ w, (sizeOf 3).run Try.prog w = .ok 1 w := fun _ => by kernel_rfl
  have z2 : ∀ w, (sizeOf 32).run Try.prog w = .ok 1 w := fun _ => by kernel_rfl
  have hF : (Try.prog.fieldsOf 34).toList = [⟨ "Page", 3, 0, false, "", "", 0⟩, ⟨ "Born", 32, 1, false, "", "", 8⟩, ⟨ "Died", 32, 2, false, "", "", 16⟩] := by kernel_rfl
  show (Op.equalIn 10000 34 (.agg (Lf.cells x).toArray) (.agg (Lf.cells y).toArray)).run Try.prog w = _
  rw [show (10000 : Nat) = 9999 + 1 from rfl, run_equalIn_struct w 9999 34 _ _ hS hp, hF]
  simp only [Lf.cells]
  go_simp
  obtain ⟨p, b, d⟩ := x
  obtain ⟨p', b', d'⟩ := y
  by_cases h1 : p = p' <;> by_cases h2 : b = b' <;> by_cases h3 : d = d' <;> simp [h1, h2, h3]
end Go.Sx
