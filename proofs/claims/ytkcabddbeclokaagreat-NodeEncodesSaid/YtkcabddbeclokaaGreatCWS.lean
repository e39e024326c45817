/- Part of a proof: numbers that are written over; a store into a part of an element. -/
import Derived.Test.YtkcabddbeclokaaGreatCWBj
namespace Go.Sx
open Go Go.Proofs
set_option maxRecDepth 10000
section
variable {P : Program} {S : World → Prop} {l : List (Nat × Value)} {d : Option Nat} {ty : TypeId} {pos : String} {af : Array Edge} {g : Option (Nat × Bool)}
theorem y_xori {x y : Operand} {T U : TypeId} {a b : Int} (hx : ev l x = some (.int .i64 a)) (hy : ev l y = some (.int .i64 b)) :
    Y P S ⟨d, .binOp .xor T x y U, ty, pos, af, g⟩ l (.int .i64 (Go.bits .xor .i64 a b)) := .mk fun w _ ρ hρ => by
  simp [execOp, hρ _ _ hx, hρ _ _ hy, eqGuard, binOp, Op.intBits, Go.bits]
theorem y_addUW {x y : Operand} {T U : TypeId} {a b : Int} (hx : ev l x = some (.int .u64 a)) (hy : ev l y = some (.int .u64 b)) :
    Y P S ⟨d, .binOp .add T x y U, ty, pos, af, g⟩ l (.int .u64 (IntKind.u64.wrap (a + b))) := .mk fun w _ ρ hρ => by
  simp [execOp, hρ _ _ hx, hρ _ _ hy, go_sem, Op.intArith]
end
theorem i64_wrap_bd (x : Int) : -9223372036854775808 ≤ IntKind.i64.wrap x ∧ IntKind.i64.wrap x ≤ 9223372036854775807 := by
  simp only [IntKind.wrap, IntKind.bits, IntKind.signed]
  simp
  split <;> omega
def xI (p : Int) : Int := Go.bits .xor .i64 p 1
theorem xI_bd (p : Int) : I64 (xI p) := by
  unfold xI Go.bits
  exact i64_wrap_bd _
def tkd {α : Type} (f : α → α) (l : List α) (i : Nat) : List α := (l.take i).map f ++ l.drop i
theorem tkd_len {α : Type} (f : α → α) (l : List α) (i : Nat) : (tkd f l i).length = l.length := by simp only [tkd, List.length_append, List.length_map, List.length_take, List.length_drop]; omega
theorem tkd_get {α : Type} {f : α → α} {l : List α} {i : Nat} {p : α} (h : l[i]? = some p) : (tkd f l i)[i]? = some p := by
  have hi := (List.getElem?_eq_some_iff.1 h).1
  rw [tkd, dropG h, List.getElem?_append_right (by simp; omega)]
  simp [Nat.min_eq_left (Nat.le_of_lt hi)]
theorem tkd_set {α : Type} {f : α → α} {l : List α} {i : Nat} {p : α} (h : l[i]? = some p) : (tkd f l i).set i (f p) = tkd f l (i + 1) := by
  have hi := (List.getElem?_eq_some_iff.1 h).1
  rw [tkd, tkd, dropG h, List.set_append_right _ _ (by simp; omega), snocT h]
  simp [Nat.min_eq_left (Nat.le_of_lt hi)]
theorem tkd_0 {α : Type} (f : α → α) (l : List α) : tkd f l 0 = l := by simp [tkd]
theorem tkd_all {α : Type} {f : α → α} {l : List α} {i : Nat} (h : l.length ≤ i) : tkd f l i = l.map f := by simp [tkd, List.take_of_length_le h, List.drop_of_length_le h]
section
variable {P : Program} {n : Nat} {ds : List Deferred} {Q : Exit → Act → World → Prop} {l l' : List (Nat × Value)} {w0 : World} {H : List Ck} {M : Md} {ops : Array Oper} {rest : Tr} {b : Bool} {ty : TypeId} {pos : String} {af : Array Edge} {g : Option (Nat × Bool)}
variable {α : Type} [Cel α]
theorem addr_add2 (k m o : Nat) : ((⟨k, 0, none⟩ : Addr).add m).add o = (⟨k, 0, none⟩ : Addr).add (m + o) := by
  unfold Addr.add
  by_cases h : o = 0 <;> by_cases h' : m = 0 <;> simp [h, h']
/-- A store into a part of an element. -/
theorem s_setF {T : TypeId} [ht : ScT P T] {E : TypeId} {p x : Operand} {ad : Addr} {i o c sz : Nat} {xs : List α} {x0 y : α} {v : Value} {H' : List Ck} (hp : ev l p = some (.pointer (some ((ad.add (i * sz)).add o)))) (hx : ev l x = some v)
    (hA : At (ol E (some ad) c xs) (ol E (some ad) c (xs.set i y)) H H') (h0 : xs[i]? = some x0) (hc : Cel.f y = (Cel.f x0).set o v) (ho : o < sz) (hv : v.oneCell' = true) (h : SL M P n ds ops Q rest l w0 H')
    (hb : M.act b = true := by exact rfl) (hg : gOk ops l g = true := by exact rfl) (hz : sz = Cel.sz α := by exact rfl) (hk : Chk M H' := by intros; first | exact chk_seq | exact chk_held (by exact ent)) : SL M P n ds ops Q (.one b ⟨none, .store T p x, ty, pos, af, g⟩ rest) l w0 H := .mk fun w hw => by
  subst hz
  have how := Sat.ownOf hA hw
  rcases how.open with ⟨h0', _⟩ | ⟨k, re, h1, h2, h3, h4, h5, h6⟩
  · cases h0'
  · simp only [Option.some.injEq] at h1
    subst h1
    obtain ⟨hi, hxi⟩ := List.getElem?_eq_some_iff.1 h0
    have hlt : i * Cel.sz α + Cel.sz α ≤ (flat xs).length := by
      rw [flat_length, ← Nat.succ_mul]
      exact Nat.mul_le_mul_right _ hi
    rw [addr_add2] at hp
    have hfl := Cel.len x0
    have et : ((flat xs ++ re).take (i * Cel.sz α)).length = i * Cel.sz α := by rw [List.length_take, List.length_append]; omega
    have ex : flat xs ++ re = (flat xs ++ re).take (i * Cel.sz α) ++ (Cel.f x0 ++ (flat xs ++ re).drop (i * Cel.sz α + Cel.sz α)) := by
      have e1 : xs = xs.take i ++ x0 :: xs.drop (i + 1) := by
        conv => lhs; rw [← List.take_append_drop i xs, dropG h0]
      have e2 : flat xs = flat (xs.take i) ++ (Cel.f x0 ++ flat (xs.drop (i + 1))) := by
        conv => lhs; rw [e1]
        simp [flat]
      have e3 : (flat (xs.take i)).length = i * Cel.sz α := by rw [flat_length, List.length_take, Nat.min_eq_left (by omega)]
      generalize flat (xs.drop (i + 1)) = D at e2
      generalize flat (xs.take i) = T at e2 e3
      conv => lhs; rw [← List.take_append_drop (i * Cel.sz α) (flat xs ++ re)]
      congr 1
      rw [e2, List.append_assoc, List.drop_left' e3, ← List.drop_drop, List.drop_left' e3, List.append_assoc, List.drop_left' hfl]
    refine l_store (Md.any hb) hg hp hx h3 (by rw [List.length_append]; omega) hv fun w' g1 g2 g3 => ?_
    have e : (flat xs ++ re).set (i * Cel.sz α + o) v = (flat xs ++ re).take (i * Cel.sz α) ++ Cel.f y ++ (flat xs ++ re).drop (i * Cel.sz α + Cel.sz α) := by
      conv => lhs; rw [ex]
      rw [List.set_append_right _ _ (by omega), et, List.set_append_left _ _ (by omega), hc, show i * Cel.sz α + o - i * Cel.sz α = o by omega, List.append_assoc]
    rw [e] at g1
    have hw' := hw.own hA (set_core h2 h3 h4 h5 h6 hi g1) (g2.mono fun i _ e => by rw [e]; rfl) (fun ad' e => by cases e; exact .inl rfl)
    exact ⟨hk.out hw', h.out w' hw'⟩
end
end Go.Sx
