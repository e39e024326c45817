/- bytes.Compare; a node's parts, by the program and by the document. -/
import Derived.Test.YtkcabddbeclokaaCV7
import Derived.Lib.Bytealg
namespace Go.Sx
open Go Go.Proofs
set_option maxRecDepth 10000
theorem run_loadBytes {P : Program} {w : World} : ∀ (xs : Bs) (ad : Addr) (acc : ByteArray), (∀ i v, (xs.map bv)[i]? = some v → w.cell? (ad.add i) = some v) → (Extern.Bytes.loadBytes ad xs.length acc).run P w = .ok ⟨acc.data ++ xs.toArray⟩ w
  | [], ad, acc, _ => by simp [Extern.Bytes.loadBytes]
  | x :: xs, ad, acc, h => by
    have h0 := h 0 (bv x) (by simp)
    have e0 : ad.add 0 = ad := by unfold Addr.add; split <;> simp_all
    rw [e0] at h0
    have ih := run_loadBytes (P := P) (w := w) xs (ad.add 1) (acc.push x) (fun i v hi => by rw [add_add, Nat.add_comm]; exact h (i + 1) v (by simpa using hi))
    simp only [Extern.Bytes.loadBytes, List.length_cons]
    simp [h0, bv, ih]
theorem cmpB : ∀ (xs ys : Bs), Lib.compareBytes xs ys = cmp xs ys
  | [], [] => rfl
  | [], _ :: _ => rfl
  | _ :: _, [] => rfl
  | a :: x, b :: y => by
    simp only [Lib.compareBytes, cmp]
    by_cases h : a = b
    · subst h
      rw [if_neg (by simp only [UInt8.lt_iff_toNat_lt]; omega), if_neg (by simp only [UInt8.lt_iff_toNat_lt]; omega), if_pos rfl]
      exact cmpB x y
    · rw [if_neg h]
      have hn : a.toNat ≠ b.toNat := fun e => h (UInt8.toNat_inj.1 e)
      by_cases hl : a < b
      · rw [if_pos hl, if_neg (by simp only [UInt8.lt_iff_toNat_lt] at *; omega)]
      · rw [if_neg hl, if_pos (by simp only [UInt8.lt_iff_toNat_lt] at *; omega), if_pos (by simp only [UInt8.lt_iff_toNat_lt] at *; omega)]
theorem run_bytesOf {P : Program} {w : World} {a : Option Addr} {c : Nat} {xs : Bs} (h : By w a c xs) : (Extern.Bytes.bytesOf (.slice a xs.length c)).run P w = .ok ⟨xs.toArray⟩ w := by
  cases a with
  | none =>
    have h1 := h.nil rfl
    have h2 := h.le
    have : xs = [] := List.eq_nil_of_length_eq_zero (by omega)
    subst this
    rfl
  | some ad =>
    have := run_loadBytes (P := P) (w := w) xs ad .empty (h.cells ad rfl)
    simp only [Extern.Bytes.bytesOf]
    rw [this]
    simp
theorem run_bcmp {P : Program} {w : World} {a b : Option Addr} {c e : Nat} {xs ys : Bs} (h : By w a c xs) (k : By w b e ys) : (Extern.BytealgCompare.compare #[.slice a xs.length c, .slice b ys.length e]).run P w = .ok (.int .i64 (cmp xs ys)) w := by
  change Sem.run P (do pure (goInt (Extern.BytealgCompare.cmp (← Extern.Bytes.bytesOf (.slice a xs.length c)) (← Extern.Bytes.bytesOf (.slice b ys.length e))))) w = _
  simp only [Sem.run_bind, Sem.run_pure, run_bytesOf h, run_bytesOf k, Result.andThen]
  rw [Lib.cmp_eq, cmpB]
  rfl
/-- A function that is bytealg.Compare. -/
class BcT (P : Program) (k : FuncId) : Prop where
  run : ∀ args w, (callFunc k args).run P w = ((Extern.BytealgCompare.compare args).run P w).andThen fun v w' => .ok (.value v) w'
theorem y_bcmp {P : Program} {l : List (Nat × Value)} {d : Option Tmp} {ty : TypeId} {pos : String} {af : Array Edge} {g : Option (Nat × Bool)} {w0 : World} {H : List Ck} {k : FuncId} [hB : BcT P k] {x y : Operand} {ts : Array TypeId} {a b : Option Addr} {c e : Nat} {xs ys : Bs}
    (hx : ev l x = some (.slice a xs.length c)) (hy : ev l y = some (.slice b ys.length e)) (h1 : RBy w0 H a c xs) (h2 : RBy w0 H b e ys) :
    Y P (Sat w0 H) ⟨d, .call { callee := .value (.func k), args := #[x, y], argTypes := ts }, ty, pos, af, g⟩ l (.int .i64 (cmp xs ys)) := .mk fun w hw ρ hρ => by
  have h3 := hB.run #[.slice a xs.length c, .slice b ys.length e] w
  rw [run_bcmp (h1 w hw) (h2 w hw)] at h3
  simp [execOp, resolve, hρ _ _ hx, hρ _ _ hy, hρ (.func k) _ rfl, Deferred.ofValue, invoke, h3]
instance : BcT Try.prog 128 := ⟨fun args w => run_callFunc_extern Try.func128 (by kernel_rfl) (by kernel_rfl) (by kernel_rfl) (e := Extern.BytealgCompare.compare) (by kernel_rfl) args w⟩
variable {w0 : World} {H : List Ck}
theorem bcompare_s {a b : Option Addr} {c e : Nat} {xs ys : Bs} (h1 : RBy w0 H a c xs) (h2 : RBy w0 H b e ys) : FnV Try.prog w0 H 119 #[.slice a xs.length c, .slice b ys.length e] (.int .i64 (cmp xs ys)) := by
  refine fns_enter Try.func119 rfl rfl rfl ?_
  refine sx ?_
  refine s_yL (y_bcmp (xs := xs) (ys := ys) rfl rfl h1 h2) ?_
  refine sx ?_
  exact s_ret1 rfl rfl ⟨rfl, rfl⟩
end Go.Sx
