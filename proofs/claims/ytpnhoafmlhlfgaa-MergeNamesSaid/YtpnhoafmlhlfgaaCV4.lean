/- Bytes that are taken from the front, by the program. -/
import Derived.Test.YtpnhoafmlhlfgaaCV3j
namespace Go.Sx
open Go Go.Proofs
set_option maxRecDepth 10000
section
variable {P : Program} {S : World → Prop} {l : List (Nat × Value)} {d : Option Tmp} {ty : TypeId} {pos : String} {af : Array Edge} {g : Option (Nat × Bool)}
theorem y_shlU {x : Operand} {T U : TypeId} {v : Nat} {k' : IntKind} (hx : ev l x = some (.int .u64 (v : Int))) (hv : v < 72057594037927936) :
    Y P S ⟨d, .binOp .shl T x (.const (.int k' 8)) U, ty, pos, af, g⟩ l (.int .u64 ((v * 256 : Nat) : Int)) := .mk fun w _ ρ hρ => by
  have h2 := hρ (.const (.int k' 8)) _ rfl
  have h3 : IntKind.u64.wrap ((v : Int) * 256) = ((v * 256 : Nat) : Int) := by
    have := wrap_u64 (n := v * 256) (by omega)
    rw [← this]; rfl
  simp [execOp, hρ _ _ hx, h2, eqGuard, binOp, Op.shift, IntKind.bits, h3]
theorem y_orU {x y : Operand} {T U : TypeId} {a c : Nat} (hx : ev l x = some (.int .u64 ((a * 256 : Nat) : Int))) (hy : ev l y = some (.int .u64 (c : Int))) (ha : a < 72057594037927936) (hc : c < 256) :
    Y P S ⟨d, .binOp .or T x y U, ty, pos, af, g⟩ l (.int .u64 ((a * 256 + c : Nat) : Int)) := .mk fun w _ ρ hρ => by
  have h3 : Go.bits .or .u64 ((a * 256 : Nat) : Int) (c : Int) = ((a * 256 : Nat) : Int) + c := bits_join .u64 64 (by decide) (fun m h0 h1 => by
    obtain ⟨n, rfl⟩ := Int.eq_ofNat_of_zero_le h0
    exact wrap_u64 (by omega)) 8 _ _ (by omega) (by omega) (by omega) (by omega) (by omega) (by omega)
  have h4 : (((a * 256 + c : Nat) : Int)) = ((a * 256 : Nat) : Int) + c := by omega
  rw [h4, ← h3]
  simp [execOp, hρ _ _ hx, hρ _ _ hy, eqGuard, binOp, Op.intBits, Go.bits]
theorem y_subU {x y : Operand} {T U : TypeId} {a c : Nat} (hx : ev l x = some (.int .u64 (a : Int))) (hy : ev l y = some (.int .u64 (c : Int))) (h : c ≤ a ∧ a < 18446744073709551616) :
    Y P S ⟨d, .binOp .sub T x y U, ty, pos, af, g⟩ l (.int .u64 ((a - c : Nat) : Int)) := .mk fun w _ ρ hρ => by
  have h3 : IntKind.u64.wrap ((a : Int) - c) = ((a - c : Nat) : Int) := by
    have := wrap_u64 (n := a - c) (by omega)
    rw [← this]
    congr 1
    omega
  simp [execOp, hρ _ _ hx, hρ _ _ hy, go_sem, Op.intArith, h3]
theorem y_addU {x y : Operand} {T U : TypeId} {a c : Nat} (hx : ev l x = some (.int .u64 (a : Int))) (hy : ev l y = some (.int .u64 (c : Int))) (h : a + c < 18446744073709551616) :
    Y P S ⟨d, .binOp .add T x y U, ty, pos, af, g⟩ l (.int .u64 ((a + c : Nat) : Int)) := .mk fun w _ ρ hρ => by
  have h3 : IntKind.u64.wrap ((a : Int) + c) = ((a + c : Nat) : Int) := by
    have := wrap_u64 (n := a + c) h
    rw [← this]
    congr 1
  simp [execOp, hρ _ _ hx, hρ _ _ hy, go_sem, Op.intArith, h3]
end
variable {w0 : World} {H : List Ck}
theorem takeS_none {n : Nat} {s : SrcB} (h : s.2 = true ∨ s.1.length < n) : takeS n s = ([], (s.1, true)) := if_pos h
theorem takeS_some {n : Nat} {s : SrcB} (h1 : s.2 = false) (h : n ≤ s.1.length) : takeS n s = (s.1.take n, (s.1.drop n, false)) := if_neg (by rintro (h2 | h2); rw [h1] at h2; cases h2; omega)
theorem takeS_len (n : Nat) (s : SrcB) : (takeS n s).1.length ≤ n := by
  unfold takeS
  split
  · simp
  · simp only [List.length_take]; omega
theorem takeS_le (n : Nat) (s : SrcB) : (takeS n s).1.length + (takeS n s).2.1.length ≤ s.1.length := by
  unfold takeS
  split
  · simp
  · simp only [List.length_take, List.length_drop]; omega
theorem beN_bd (xs : Bs) {k : Nat} (h : xs.length ≤ k) : beN xs < 256 ^ k := Nat.lt_of_lt_of_le (beN_lt xs.length xs rfl) (Nat.pow_le_pow_right (by decide) h)
theorem numS_lt (k : Nat) (s : SrcB) : (numS k s).1 < 256 ^ k := beN_bd _ (takeS_len k s)
theorem beN_step {xs : Bs} {i : Nat} {x : UInt8} (h : xs[i]? = some x) : beN (xs.take (i + 1)) = beN (xs.take i) * 256 + x.toNat := by rw [snocT h, beN_snoc]
abbrev TakR (T S n : Nat) (s : SrcB) (H0 H : List Ck) (w0 : World) : Value → List Ck → Prop := fun v H' => ∃ ra a2 c2, v = .slice ra (takeS n s).1.length (takeS n s).1.length ∧ RBy w0 H0 a2 c2 (takeS n s).2.1 ∧ H' = ob ra (takeS n s).1.length (takeS n s).1 :: .hb S T [.slice a2 (takeS n s).2.1.length c2, .bool (takeS n s).2.2] :: H
abbrev NmsR (T S k : Nat) (s : SrcB) (H0 H : List Ck) (w0 : World) : Value → List Ck → Prop := fun v H' => ∃ a2 c2, v = .int .u64 ((numS k s).1 : Int) ∧ RBy w0 H0 a2 c2 (numS k s).2.1 ∧ H' = .hb S T [.slice a2 (numS k s).2.1.length c2, .bool (numS k s).2.2] :: H
theorem numS_le (k : Nat) (s : SrcB) : (numS k s).2.1.length ≤ s.1.length := by
  have := takeS_le k s
  show (takeS k s).2.1.length ≤ s.1.length
  omega
theorem oneS_le (s : SrcB) : (oneS s).2.1.length ≤ s.1.length := by
  have h1 := numS_le 8 s
  have h2 := numS_le 1 (numS 8 s).2
  have h3 := numS_le 2 (numS 1 (numS 8 s).2).2
  have h4 := numS_le 2 (numS 2 (numS 1 (numS 8 s).2).2).2
  have h5 := takeS_le (numS 2 (numS 1 (numS 8 s).2).2).1 (numS 2 (numS 2 (numS 1 (numS 8 s).2).2).2).2
  have h6 := takeS_le (numS 2 (numS 2 (numS 1 (numS 8 s).2).2).2).1 (takeS (numS 2 (numS 1 (numS 8 s).2).2).1 (numS 2 (numS 2 (numS 1 (numS 8 s).2).2).2).2).2
  show (takeS _ _).2.1.length ≤ _
  omega
/-- All that Decode reads. -/
def srcM (xs : Bs) : List MD × SrcB := loopS (numS 4 (xs, false)).1 [] (numS 4 (xs, false)).2
structure DcI where
  n : Nat
  a7 : Option Addr
  c7 : Nat
  ms : List Mg
  a : Option Addr
  c : Nat
  s : SrcB
end Go.Sx
