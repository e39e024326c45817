/- Part two: facts on types as classes; what operations yield that only look; what operations do that act. -/
import Derived.Test.YtbkaabjjmoaijaaSxA
namespace Go.Sx
open Go

/-! ### Facts on the program's types and functions (an instance a fact, each closed) -/
class SlT (P : Program) (T : TypeId) (E : outParam TypeId) (sz by' : outParam Nat) : Prop where
  und : P.underlying T = some (.slice E)
  info : ∃ i z, P.info? E = some i ∧ i.zero = some z ∧ i.size = sz ∧ i.bytes = by' ∧ z.cells.size = sz
/-- A type of one cell. -/
class ScT (P : Program) (T : TypeId) : Prop where
  agg : ∀ w, (isAgg T).run P w = .ok false w
  size : ∀ w, (sizeOf T).run P w = .ok 1 w
/-- A struct (or an array) of so many cells. -/
class AgT (P : Program) (T : TypeId) (sz : outParam Nat) : Prop where
  agg : ∀ w, (isAgg T).run P w = .ok true w
  size : ∀ w, (sizeOf T).run P w = .ok sz w
class FdT (P : Program) (T : TypeId) (i : Nat) (off : outParam Nat) : Prop where
  run : ∀ a w, (Instr.fieldAt T (.pointer (some a)) i).run P w = .ok (.pointer (some (a.add off))) w
class StT (P : Program) (T : TypeId) : Prop where
  und : P.underlying T = some .string
class InT (P : Program) (T : TypeId) (k : outParam IntKind) : Prop where
  und : P.underlying T = some (.int k)
class BoT (P : Program) (T : TypeId) : Prop where
  und : P.underlying T = some .bool
class ZeT (P : Program) (T : TypeId) (z : outParam Value) : Prop where
  run : ∀ w, (zeroValue T).run P w = .ok z w
class ByT (P : Program) (T : TypeId) : Prop where
  und : ∃ e, P.underlying T = some (.slice e) ∧ P.underlying e = some (.int .u8)
class FnT (P : Program) (k : FuncId) : Prop where
  run : ∀ args w, (callFunc k args).run P w = .ok (.enter k args) w

/-! ### Worlds -/
/-- All that was there is as it was, but for the blocks that G names; the streams are as they were. -/
structure Ext (G : Nat → Prop) (w w' : World) : Prop where
  os : w'.os = w.os
  tape : w'.tape = w.tape
  output : w'.output = w.output
  size : w.heap.size ≤ w'.heap.size
  block : ∀ k, k < w.heap.size → ¬ G k → w'.heap[k]? = w.heap[k]?
/-- Nothing that was there has turned. -/
abbrev Ex (w w' : World) : Prop := Ext (fun _ => False) w w'
theorem Ext.refl {G : Nat → Prop} (w : World) : Ext G w w := ⟨rfl, rfl, rfl, Nat.le_refl _, fun _ _ _ => rfl⟩
theorem Ext.trans' {G H K : Nat → Prop} {a b c : World} (h : Ext G a b) (k : Ext H b c) (hG : ∀ i, i < a.heap.size → G i → K i) (hH : ∀ i, i < a.heap.size → H i → K i) : Ext K a c :=
  ⟨k.os.trans h.os, k.tape.trans h.tape, k.output.trans h.output, Nat.le_trans h.size k.size,
    fun i hi hn => (k.block i (Nat.lt_of_lt_of_le hi h.size) (fun hh => hn (hH i hi hh))).trans (h.block i hi (fun hh => hn (hG i hi hh)))⟩
theorem Ext.trans {G : Nat → Prop} {a b c : World} (h : Ext G a b) (k : Ext G b c) : Ext G a c := h.trans' k (fun _ _ h => h) (fun _ _ h => h)
theorem Ex.trans {a b c : World} (h : Ex a b) (k : Ex b c) : Ex a c := Ext.trans h k
/-- A step that writes only blocks that were not there. -/
theorem Ext.fresh {G H : Nat → Prop} {a b c : World} (h : Ext G a b) (k : Ext H b c) (hH : ∀ i, i < a.heap.size → ¬ H i) : Ext G a c :=
  h.trans' k (fun _ _ h => h) (fun i hi hh => absurd hh (hH i hi))
theorem Ext.mono {G H : Nat → Prop} {a b : World} (h : Ext G a b) (hG : ∀ i, i < a.heap.size → G i → H i) : Ext H a b :=
  ⟨h.os, h.tape, h.output, h.size, fun i hi hn => h.block i hi (fun g => hn (hG i hi g))⟩
theorem Ex.ext {G : Nat → Prop} {a b : World} (h : Ex a b) : Ext G a b := h.mono (fun _ _ h => h.elim)
theorem Ext.drew {G : Nat → Prop} (w : World) : Ext G w w.drew := ⟨rfl, rfl, rfl, Nat.le_refl _, fun _ _ _ => rfl⟩
theorem Ext.alloc {G : Nat → Prop} (w : World) (o : Obj) : Ext G w (w.alloc o) := ⟨rfl, rfl, rfl, by simp, fun k hk _ => by
  show (w.heap.push o)[k]? = _
  rw [Array.getElem?_push, if_neg (by omega)]⟩
theorem Ext.setCell {G : Nat → Prop} (w : World) (a : Addr) (u : Value) (h : G a.block) : Ext G w (w.setCell a u) := ⟨rfl, rfl, rfl, by simp, fun k _ hn => by
  simp only [World.setCell, Array.getElem?_modify]
  rw [if_neg (by intro e; subst e; exact hn h)]⟩
theorem Ext.cell {G : Nat → Prop} {w w' : World} (h : Ext G w w') {a : Addr} {v : Value} (hc : w.cell? a = some v) (hn : ¬ G a.block) : w'.cell? a = some v := by
  rw [World.cell?_of_block (w := w) (h.block a.block (World.block_lt_of_cell? w a hc) hn)]; exact hc
theorem Ext.below {B : Nat} {G : Nat → Prop} {w w' : World} (h : Ext G w w') (hB : B ≤ w.heap.size) (hG : ∀ k, k < B → ¬ G k) : RowKit.Below B w w' :=
  ⟨h.os, h.tape, h.output, h.size, fun k hk => h.block k (Nat.lt_of_lt_of_le hk hB) (hG k hk)⟩
theorem Ext.of_grown {w w' : World} {row : Option Nat} (h : w.grownBy w' row) : Ext (fun k => row = some k) w w' :=
  ⟨h.os, h.tape, h.output, h.size, fun k hk hn => h.block k hk (fun e => hn e.symm)⟩

/-! ### Cells -/
/-- The cells from a on hold these values. -/
def Cells (w : World) (a : Addr) (vs : List Value) : Prop := ∀ i v, vs[i]? = some v → w.cell? (a.add i) = some v
theorem Cells.ext {G : Nat → Prop} {w w' : World} {a : Addr} {vs : List Value} (h : Cells w a vs) (he : Ext G w w') (hn : vs ≠ [] → ¬ G a.block) : Cells w' a vs := by
  intro i v hi
  refine he.cell (h i v hi) ?_
  have : (a.add i).block = a.block := by unfold Addr.add; split <;> rfl
  rw [this]
  exact hn (by rintro rfl; simp at hi)
theorem add_add (a : Addr) (i j : Nat) : (a.add i).add j = a.add (i + j) := by
  unfold Addr.add
  by_cases hi : i = 0 <;> by_cases hj : j = 0 <;> simp [hi, hj, Nat.add_assoc]

/-- A byte, as a cell holds it. -/
def bv (x : UInt8) : Value := .int .u8 (x.toNat : Int)
/-- A slice of bytes: from a on (nil: none), of that capacity, reads as xs. -/
structure By (w : World) (a : Option Addr) (c : Nat) (xs : List UInt8) : Prop where
  le : xs.length ≤ c
  cap : c ≤ maxLen
  nil : a = none → c = 0
  cells : ∀ ad, a = some ad → Cells w ad (xs.map bv)
theorem By.ext {G : Nat → Prop} {w w' : World} {a : Option Addr} {c : Nat} {xs : List UInt8} (h : By w a c xs) (he : Ext G w w') (hn : ∀ ad, a = some ad → xs ≠ [] → ¬ G ad.block) : By w' a c xs :=
  ⟨h.le, h.cap, h.nil, fun ad e => (h.cells ad e).ext he (fun hx => hn ad e (by simpa using hx))⟩
theorem By.ex {w w' : World} {a : Option Addr} {c : Nat} {xs : List UInt8} (h : By w a c xs) (he : Ex w w') : By w' a c xs := h.ext he (fun _ _ _ h => h)
theorem By.len {w : World} {a : Option Addr} {c : Nat} {xs : List UInt8} (h : By w a c xs) : (xs.length : Int) ≤ 9223372036854775807 := by
  have h1 := h.le
  have h2 := h.cap
  simp only [maxLen] at h2
  omega
theorem By.some {w : World} {a : Option Addr} {c : Nat} {xs : List UInt8} (h : By w a c xs) (hx : 0 < xs.length) : ∃ ad, a = Option.some ad := by
  cases a with
  | none => have := h.nil rfl; have := h.le; omega
  | some ad => exact ⟨ad, rfl⟩
theorem By.cell {w : World} {ad : Addr} {c : Nat} {xs : List UInt8} (h : By w (Option.some ad) c xs) {i : Nat} (hi : i < xs.length) : w.cell? (ad.add (i * 1)) = Option.some (bv (xs.getD i 0)) := by
  rw [Nat.mul_one]
  exact h.cells ad rfl i _ (by simp [hi])

/-! ### What an operation yields that only looks -/
/-- In every world of the class S, over every frame that bears out the list. -/
structure Y (P : Program) (S : World → Prop) (o : Oper) (l : List (Nat × Value)) (v : Value) : Prop where
  out : ∀ w, S w → ∀ ρ, Agr l ρ → (execOp ρ o).run P w = .ok (.value v) w

section
variable {P : Program} {S : World → Prop} {l : List (Nat × Value)} {d : Option Tmp} {ty : TypeId} {pos : String} {af : Array Edge} {g : Option (Nat × Bool)}

theorem y_move {x : Operand} {v : Value} (h : ev l x = some v) : Y P S ⟨d, .move x, ty, pos, af, g⟩ l v := .mk fun w _ ρ hρ => by
  simp [execOp, hρ _ _ h]
theorem y_assign {x : Operand} {v : Value} (h : ev l x = some v) : Y P S ⟨d, .assign x, ty, pos, af, g⟩ l v := .mk fun w _ ρ hρ => by
  simp [execOp, hρ _ _ h]
theorem y_pick {c x y : Operand} {t : Bool} {u v : Value} (hc : ev l c = some (.bool t)) (hx : ev l x = some u) (hy : ev l y = some v) : Y P S ⟨d, .pick c x y, ty, pos, af, g⟩ l (bif t then u else v) := .mk fun w _ ρ hρ => by
  cases t <;> simp [execOp, hρ _ _ hx, hρ _ _ hy, hρ _ _ hc, asBool]
theorem y_add {x y : Operand} {T U : TypeId} {a b : Int} (hx : ev l x = some (.int .i64 a)) (hy : ev l y = some (.int .i64 b)) (h : -9223372036854775808 ≤ a + b ∧ a + b ≤ 9223372036854775807) :
    Y P S ⟨d, .binOp .add T x y U, ty, pos, af, g⟩ l (.int .i64 (a + b)) := .mk fun w _ ρ hρ => by
  have := IntWalk.i64_in (a + b) (by omega)
  simp [execOp, hρ _ _ hx, hρ _ _ hy, go_sem, Op.intArith, this]
theorem y_sub {x y : Operand} {T U : TypeId} {a b : Int} (hx : ev l x = some (.int .i64 a)) (hy : ev l y = some (.int .i64 b)) (h : -9223372036854775808 ≤ a - b ∧ a - b ≤ 9223372036854775807) :
    Y P S ⟨d, .binOp .sub T x y U, ty, pos, af, g⟩ l (.int .i64 (a - b)) := .mk fun w _ ρ hρ => by
  have := IntWalk.i64_in (a - b) (by omega)
  simp [execOp, hρ _ _ hx, hρ _ _ hy, go_sem, Op.intArith, this]
theorem y_mul {x y : Operand} {T U : TypeId} {a b : Int} (hx : ev l x = some (.int .i64 a)) (hy : ev l y = some (.int .i64 b)) (h : -9223372036854775808 ≤ a * b ∧ a * b ≤ 9223372036854775807) :
    Y P S ⟨d, .binOp .mul T x y U, ty, pos, af, g⟩ l (.int .i64 (a * b)) := .mk fun w _ ρ hρ => by
  have := IntWalk.i64_in (a * b) (by omega)
  simp [execOp, hρ _ _ hx, hρ _ _ hy, go_sem, Op.intArith, this]
/-- Sums that wrap, of whatever kind. -/
theorem y_addw {x y : Operand} {T U : TypeId} {k : IntKind} {a b : Int} (hx : ev l x = some (.int k a)) (hy : ev l y = some (.int k b)) :
    Y P S ⟨d, .binOp .add T x y U, ty, pos, af, g⟩ l (.int k (k.wrap (a + b))) := .mk fun w _ ρ hρ => by
  simp [execOp, hρ _ _ hx, hρ _ _ hy, eqGuard_add, binOp_add, Op.intArith]
theorem y_lss {x y : Operand} {T U : TypeId} {k : IntKind} {a b : Int} (hx : ev l x = some (.int k a)) (hy : ev l y = some (.int k b)) :
    Y P S ⟨d, .binOp .lss T x y U, ty, pos, af, g⟩ l (.bool (decide (a < b))) := .mk fun w _ ρ hρ => by
  simp [execOp, hρ _ _ hx, hρ _ _ hy, go_sem]
theorem y_leq {x y : Operand} {T U : TypeId} {k : IntKind} {a b : Int} (hx : ev l x = some (.int k a)) (hy : ev l y = some (.int k b)) :
    Y P S ⟨d, .binOp .leq T x y U, ty, pos, af, g⟩ l (.bool (decide (a ≤ b))) := .mk fun w _ ρ hρ => by
  simp [execOp, hρ _ _ hx, hρ _ _ hy, go_sem]
theorem y_gtr {x y : Operand} {T U : TypeId} {k : IntKind} {a b : Int} (hx : ev l x = some (.int k a)) (hy : ev l y = some (.int k b)) :
    Y P S ⟨d, .binOp .gtr T x y U, ty, pos, af, g⟩ l (.bool (decide (b < a))) := .mk fun w _ ρ hρ => by
  simp [execOp, hρ _ _ hx, hρ _ _ hy, go_sem]
theorem y_geq {x y : Operand} {T U : TypeId} {k : IntKind} {a b : Int} (hx : ev l x = some (.int k a)) (hy : ev l y = some (.int k b)) :
    Y P S ⟨d, .binOp .geq T x y U, ty, pos, af, g⟩ l (.bool (decide (b ≤ a))) := .mk fun w _ ρ hρ => by
  simp [execOp, hρ _ _ hx, hρ _ _ hy, go_sem]
theorem y_eql {x y : Operand} {T U : TypeId} {k : IntKind} {a b : Int} (hx : ev l x = some (.int k a)) (hy : ev l y = some (.int k b)) :
    Y P S ⟨d, .binOp .eql T x y U, ty, pos, af, g⟩ l (.bool (decide (a = b))) := .mk fun w _ ρ hρ => by
  simp only [execOp, hρ _ _ hx, hρ _ _ hy, eqGuard_at_int, binOp_eql]
  rfl
theorem y_neq {x y : Operand} {T U : TypeId} {k : IntKind} {a b : Int} (hx : ev l x = some (.int k a)) (hy : ev l y = some (.int k b)) :
    Y P S ⟨d, .binOp .neq T x y U, ty, pos, af, g⟩ l (.bool (!decide (a = b))) := .mk fun w _ ρ hρ => by
  simp only [execOp, hρ _ _ hx, hρ _ _ hy, eqGuard_at_int, binOp_neq]
  rfl
theorem bv_eq (a b : UInt8) : ((a.toNat : Int) = b.toNat) ↔ a = b := by
  rw [Int.ofNat_inj, UInt8.toNat_inj]
theorem y_eqb {x y : Operand} {T U : TypeId} {a b : UInt8} (hx : ev l x = some (bv a)) (hy : ev l y = some (bv b)) :
    Y P S ⟨d, .binOp .eql T x y U, ty, pos, af, g⟩ l (.bool (decide (a = b))) := by
  have := y_eql (P := P) (S := S) (l := l) (d := d) (ty := ty) (pos := pos) (af := af) (g := g) (T := T) (U := U) hx hy
  rwa [show (decide ((a.toNat : Int) = b.toNat)) = decide (a = b) from by simp [bv_eq]] at this
theorem y_neb {x y : Operand} {T U : TypeId} {a b : UInt8} (hx : ev l x = some (bv a)) (hy : ev l y = some (bv b)) :
    Y P S ⟨d, .binOp .neq T x y U, ty, pos, af, g⟩ l (.bool (!decide (a = b))) := by
  have := y_neq (P := P) (S := S) (l := l) (d := d) (ty := ty) (pos := pos) (af := af) (g := g) (T := T) (U := U) hx hy
  rwa [show (decide ((a.toNat : Int) = b.toNat)) = decide (a = b) from by simp [bv_eq]] at this
theorem y_gtb {x y : Operand} {T U : TypeId} {a b : UInt8} (hx : ev l x = some (bv a)) (hy : ev l y = some (bv b)) :
    Y P S ⟨d, .binOp .gtr T x y U, ty, pos, af, g⟩ l (.bool (decide (b < a))) := by
  have := y_gtr (P := P) (S := S) (l := l) (d := d) (ty := ty) (pos := pos) (af := af) (g := g) (T := T) (U := U) hx hy
  rwa [show (decide ((b.toNat : Int) < a.toNat)) = decide (b < a) from by simp [UInt8.lt_iff_toNat_lt]] at this
theorem y_ltb {x y : Operand} {T U : TypeId} {a b : UInt8} (hx : ev l x = some (bv a)) (hy : ev l y = some (bv b)) :
    Y P S ⟨d, .binOp .lss T x y U, ty, pos, af, g⟩ l (.bool (decide (a < b))) := by
  have := y_lss (P := P) (S := S) (l := l) (d := d) (ty := ty) (pos := pos) (af := af) (g := g) (T := T) (U := U) hx hy
  rwa [show (decide ((a.toNat : Int) < b.toNat)) = decide (a < b) from by simp [UInt8.lt_iff_toNat_lt]] at this
theorem y_not {x : Operand} {T : TypeId} {a : Bool} (hx : ev l x = some (.bool a)) :
    Y P S ⟨d, .unOp .not T x, ty, pos, af, g⟩ l (.bool (!a)) := .mk fun w _ ρ hρ => by
  simp [execOp, hρ _ _ hx, Op.unary]
theorem y_lensl {x : Operand} {T E : TypeId} {sz b : Nat} [h : SlT P T E sz b] {a : Option Addr} {n c : Nat} (hx : ev l x = some (.slice a n c)) :
    Y P S ⟨d, .call { callee := .builtin .len, args := #[x], argTypes := #[T] }, ty, pos, af, g⟩ l (.int .i64 n) := .mk fun w _ ρ hρ => by
  simp [execOp, hρ _ _ hx, resolve, invoke, builtin, Builtin.len_, run_underlying h.und, goInt]
theorem y_min {x y : Operand} {T U : TypeId} {a b : Nat} (hx : ev l x = some (.int .i64 a)) (hy : ev l y = some (.int .i64 b)) :
    Y P S ⟨d, .call { callee := .builtin .min, args := #[x, y], argTypes := #[T, U] }, ty, pos, af, g⟩ l (.int .i64 ((min a b : Nat) : Int)) := .mk fun w _ ρ hρ => by
  have : (if (b : Int) < (a : Int) then (b : Int) else (a : Int)) = ((min a b : Nat) : Int) := by split <;> omega
  simp only [execOp, resolve, invoke, builtin, List.map_toArray, List.map_cons, List.map_nil, hρ _ _ hx, hρ _ _ hy, Builtin.min_, ← this]
  rfl
theorem y_index {x i : Operand} {T E : TypeId} {sz b : Nat} [h : SlT P T E sz b] {a : Addr} {n c : Nat} {k : IntKind} {j : Nat}
    (hx : ev l x = some (.slice (some a) n c)) (hi : ev l i = some (.int k j)) (hj : j < n) :
    Y P S ⟨d, .indexAddr T x i, ty, pos, af, g⟩ l (.pointer (some (a.add (j * sz)))) := .mk fun w _ ρ hρ => by
  obtain ⟨i, z, h1, _, h3, _⟩ := h.info
  simp [execOp, hρ _ _ hx, hρ _ _ hi, Instr.indexAt, asIntOf, run_underlying h.und, sizeOf, typeInfo, h1, h3, hj]
theorem y_field {x : Operand} {T : TypeId} {i off : Nat} [h : FdT P T i off] {a : Addr} (hx : ev l x = some (.pointer (some a))) :
    Y P S ⟨d, .fieldAddr T x i, ty, pos, af, g⟩ l (.pointer (some (a.add off))) := .mk fun w _ ρ hρ => by
  simp [execOp, hρ _ _ hx, h.run]
theorem y_load {x : Operand} {T : TypeId} [h : ScT P T] {a : Addr} {v : Value} (hx : ev l x = some (.pointer (some a))) (hc : ∀ w, S w → w.cell? a = some v) :
    Y P S ⟨d, .load T x, ty, pos, af, g⟩ l v := .mk fun w hw ρ hρ => by
  simp [execOp, hρ _ _ hx, Instr.loadAt, Instr.sureAddr, loadVar, h.agg, hc w hw]
theorem y_nilc {x : Operand} {a : Addr} (hx : ev l x = some (.pointer (some a))) :
    Y P S ⟨d, .nilCheck x, ty, pos, af, g⟩ l (.pointer (some a)) := .mk fun w _ ρ hρ => by
  simp [execOp, hρ _ _ hx]
end

/-! ### One step of a region's walk -/
section
variable {M : Mode} {P : Program} {n : Nat} {ds : List Deferred} {ops : Array Oper} {Q : Exit → Act → World → Prop} {b : Bool} {rest : Tr} {l : List (Nat × Value)} {w : World}

theorem l_nil (h : QJ n ds Q .normal l w) : LJ M P n ds ops Q .nil l w := .mk h.out
theorem l_alt {r s : Tr} (h1 : LJ M P n ds ops Q r l w) (h2 : LJ M P n ds ops Q s l w) : LJ M P n ds ops Q (.alt r s) l w := .mk fun a ha => ⟨h1.out a ha, h2.out a ha⟩
/-- The guard of an operation, as far as the list tells it. -/
def gd (ops : Array Oper) (l : List (Nat × Value)) (j : Nat) : Option (Nat × Bool) :=
  match ops[j]? with
  | some o => match o.dst with
    | some d => match look l d with
      | some (.bool b) => some (d, b)
      | _ => none
    | none => none
  | none => none
theorem gd_look {ops : Array Oper} {l : List (Nat × Value)} {j d : Nat} {b : Bool} (h : gd ops l j = some (d, b)) : look l d = some (.bool b) ∧ (ops[j]?).bind (·.dst) = some d := by
  unfold gd at h
  split at h
  · rename_i o ho
    split at h
    · rename_i d' hd
      split at h
      · rename_i b' hb
        simp only [Option.some.injEq, Prod.mk.injEq] at h
        obtain ⟨rfl, rfl⟩ := h
        exact ⟨hb, by simp [ho, hd]⟩
      · cases h
    · cases h
  · cases h
theorem gd_spec {ops : Array Oper} {l : List (Nat × Value)} {j d : Nat} {b : Bool} {a : Act} (h : gd ops l j = some (d, b)) (ha : FrOk n ds l a) : yielded ops a.tmps j = some b := by
  obtain ⟨h1, h2⟩ := gd_look h
  simp [yielded, h2, ha.has _ _ h1]
/-- Is the guard met, as far as the list tells it? -/
def gOk (ops : Array Oper) (l : List (Nat × Value)) : Option (Nat × Bool) → Bool
  | none => true
  | some (j, t) => match gd ops l j with
    | some (_, b) => b == t
    | none => false
/-- What the list says of the slot that a guard looks at. -/
def gv (ops : Array Oper) (l : List (Nat × Value)) (j : Nat) : Option Value :=
  match ops[j]? with
  | some o => match o.dst with
    | some d => look l d
    | none => none
  | none => none
def gNo (ops : Array Oper) (l : List (Nat × Value)) : Option (Nat × Bool) → Bool
  | none => false
  | some (j, t) => match gv ops l j with
    | some (.bool b) => !(b == t)
    | some _ => true
    | none => false
theorem gOk_spec {ops : Array Oper} {l : List (Nat × Value)} {g : Option (Nat × Bool)} {a : Act} {d : Option Tmp} {op : Op} {ty : TypeId} {pos : String} {af : Array Edge} (h : gOk ops l g = true) (ha : FrOk n ds l a) :
    Region.wanted ⟨d, op, ty, pos, af, g⟩ (yielded ops a.tmps) = true := by
  unfold gOk at h
  split at h
  · rfl
  · rename_i j t
    split at h
    · rename_i d b hb
      simp only [beq_iff_eq] at h
      subst h
      simp [Region.wanted, gd_spec hb ha]
    · cases h
theorem gNo_spec {ops : Array Oper} {l : List (Nat × Value)} {g : Option (Nat × Bool)} {a : Act} {d : Option Tmp} {op : Op} {ty : TypeId} {pos : String} {af : Array Edge} (h : gNo ops l g = true) (ha : FrOk n ds l a) :
    ¬ Region.wanted ⟨d, op, ty, pos, af, g⟩ (yielded ops a.tmps) = true := by
  have gv_spec : ∀ {j : Nat} {v : Value}, gv ops l j = some v → ((ops[j]?).bind (·.dst)).bind (a.tmps[·]?) = some v := by
    intro j v hv
    unfold gv at hv
    split at hv
    · rename_i o ho
      split at hv
      · rename_i d' hd
        simp [ho, hd, ha.has _ _ hv]
      · cases hv
    · cases hv
  unfold gNo at h
  split at h
  · cases h
  · rename_i j t
    split at h
    · rename_i b hb
      simp [Region.wanted, yielded, gv_spec hb]
      simpa using h
    · rename_i v hn hb
      have : yielded ops a.tmps j = none := by
        unfold yielded
        rw [gv_spec hb]
        cases v <;> first | rfl | exact absurd rfl (hn _)
      simp [Region.wanted, this]
    · cases h
/-- It only looks. -/
theorem l_y {d : Nat} {op : Op} {ty : TypeId} {pos : String} {af : Array Edge} {g : Option (Nat × Bool)} {v : Value} (hg : gOk ops l g = true) (hd : Nat.blt d n = true) (hy : Y P (M.cls w) ⟨some d, op, ty, pos, af, g⟩ l v)
    (h : LJ M P n ds ops Q rest ((d, v) :: l) w) : LJ M P n ds ops Q (.one b ⟨some d, op, ty, pos, af, g⟩ rest) l w := by
  refine .mk fun a ha => ?_
  unfold WL
  rw [if_pos (gOk_spec hg ha)]
  exact .inl ⟨v, fun w' hw' => hy.out w' hw' _ ha.agr, h.out _ (ha.put v hd)⟩
/-- Its guard says no. -/
theorem l_sk {d : Nat} {op : Op} {ty : TypeId} {pos : String} {af : Array Edge} {g : Option (Nat × Bool)} (hg : gNo ops l g = true) (hd : Nat.blt d n = true)
    (h : LJ M P n ds ops Q rest ((d, undef) :: l) w) : LJ M P n ds ops Q (.one b ⟨some d, op, ty, pos, af, g⟩ rest) l w := by
  refine .mk fun a ha => ?_
  unfold WL
  rw [if_neg (gNo_spec hg ha)]
  exact h.out _ (ha.put _ hd)
/-- A slot that holds a Bool is not decided: two ways. -/
theorem j_sp {t : Nat} {v : Bool} {a : Act} (hl : look l t = some (.bool v)) (ha : FrOk n ds l a) : FrOk n ds ((t, .bool v) :: l) a := by
  refine ⟨ha.size, ha.defers, fun t' u ht => ?_⟩
  simp only [look] at ht
  by_cases e : t = t'
  · subst e; simp at ht; subst ht; exact ha.has _ _ hl
  · have hb : Nat.beq t t' = false := by rw [← Bool.not_eq_true, Nat.beq_eq]; exact e
    rw [hb] at ht
    exact ha.has _ u ht
theorem l_sp {d j dj : Nat} {t t' : Bool} {op : Op} {ty : TypeId} {pos : String} {af : Array Edge} (hg : gd ops l j = some (dj, t'))
    (hT : t' = true → LJ M P n ds ops Q (.one b ⟨some d, op, ty, pos, af, some (j, t)⟩ rest) ((dj, .bool true) :: l) w)
    (hF : t' = false → LJ M P n ds ops Q (.one b ⟨some d, op, ty, pos, af, some (j, t)⟩ rest) ((dj, .bool false) :: l) w) :
    LJ M P n ds ops Q (.one b ⟨some d, op, ty, pos, af, some (j, t)⟩ rest) l w := by
  have hl := (gd_look hg).1
  refine .mk fun a ha => ?_
  cases ht : t' with
  | true => subst ht; exact (hT rfl).out a (j_sp hl ha)
  | false => subst ht; exact (hF rfl).out a (j_sp hl ha)
theorem l_if {d j dj : Nat} {t : Bool} {p : Prop} [Decidable p] {op : Op} {ty : TypeId} {pos : String} {af : Array Edge} (hg : gd ops l j = some (dj, decide p))
    (hT : p → LJ M P n ds ops Q (.one b ⟨some d, op, ty, pos, af, some (j, t)⟩ rest) ((dj, .bool true) :: l) w)
    (hF : ¬ p → LJ M P n ds ops Q (.one b ⟨some d, op, ty, pos, af, some (j, t)⟩ rest) ((dj, .bool false) :: l) w) :
    LJ M P n ds ops Q (.one b ⟨some d, op, ty, pos, af, some (j, t)⟩ rest) l w :=
  l_sp hg (fun h => hT (of_decide_eq_true h)) (fun h => hF (of_decide_eq_false h))
theorem l_ifn {d j dj : Nat} {t : Bool} {p : Prop} [Decidable p] {op : Op} {ty : TypeId} {pos : String} {af : Array Edge} (hg : gd ops l j = some (dj, !decide p))
    (hT : ¬ p → LJ M P n ds ops Q (.one b ⟨some d, op, ty, pos, af, some (j, t)⟩ rest) ((dj, .bool true) :: l) w)
    (hF : p → LJ M P n ds ops Q (.one b ⟨some d, op, ty, pos, af, some (j, t)⟩ rest) ((dj, .bool false) :: l) w) :
    LJ M P n ds ops Q (.one b ⟨some d, op, ty, pos, af, some (j, t)⟩ rest) l w :=
  l_sp hg (fun h => hT (of_decide_eq_false (by simpa using h))) (fun h => hF (of_decide_eq_true (by simpa using h)))
theorem ci {k : IntKind} {a b : Int} (h : a = b) : Value.int k a = .int k b := by rw [h]
/-- The value of a slot, said otherwise. -/
theorem l_rw {t : Nat} {v v' : Value} (h : look l t = some v) (e : v = v') (k : LJ M P n ds ops Q rest ((t, v') :: l) w) : LJ M P n ds ops Q rest l w := by
  subst e
  refine .mk fun a ha => k.out a ⟨ha.size, ha.defers, fun t' u ht => ?_⟩
  simp only [look] at ht
  by_cases e : t = t'
  · subst e; simp at ht; subst ht; exact ha.has _ _ h
  · have hb : Nat.beq t t' = false := by rw [← Bool.not_eq_true, Nat.beq_eq]; exact e
    rw [hb] at ht
    exact ha.has _ u ht
end
end Go.Sx
