/- Part of a proof: several parts of a walk, one behind the other. -/
import Derived.Test.YtpnhoafmlhlfgaaCB2
namespace Go.Sx
open Go Go.Proofs
set_option maxRecDepth 10000
variable {w0 : World} {H : List Ck}
/-- Numbers that rise, the same ones. -/
structure Srt (xs ys : List Int) : Prop where
  perm : ys.Perm xs
  rise : ys.Pairwise (· ≤ ·)
structure MgI where
  i : Nat
  j : Nat
  a : Option Addr
  c : Nat
  out : List Int
structure MgI.ok (m : MgI) (us vs : List Int) : Prop where
  hi : m.i ≤ us.length
  hj : m.j ≤ vs.length
  perm : m.out.Perm (us.take m.i ++ vs.take m.j)
  rise : m.out.Pairwise (· ≤ ·)
  la : ∀ x ∈ m.out, ∀ y ∈ us.drop m.i, x ≤ y
  lb : ∀ x ∈ m.out, ∀ y ∈ vs.drop m.j, x ≤ y
theorem dropC {α : Type} {l : List α} {i : Nat} {x : α} (h : l[i]? = some x) : l.drop i = x :: l.drop (i + 1) := by
  obtain ⟨hi, rfl⟩ := List.getElem?_eq_some_iff.1 h
  exact List.drop_eq_getElem_cons hi
theorem rise_drop {l : List Int} (h : l.Pairwise (· ≤ ·)) {i : Nat} {x : Int} (hx : l[i]? = some x) : ∀ y ∈ l.drop (i + 1), x ≤ y := by
  have := List.Pairwise.sublist (List.drop_sublist i l) h
  rw [dropC hx] at this
  exact (List.pairwise_cons.1 this).1
theorem MgI.left {m : MgI} {us vs : List Int} (h : m.ok us vs) (ha : us.Pairwise (· ≤ ·)) {x : Int} (hx : us[m.i]? = some x) (hle : ∀ y ∈ vs.drop m.j, x ≤ y) {a : Option Addr} {c : Nat} : MgI.ok ⟨m.i + 1, m.j, a, c, m.out ++ [x]⟩ us vs := by
  have hd := dropC hx
  refine ⟨get_lt' hx, h.hj, ?_, ?_, ?_, ?_⟩
  · simp only [snocT hx]
    refine (h.perm.append_right [x]).trans ?_
    rw [List.append_assoc, List.append_assoc]
    exact List.Perm.append_left _ List.perm_append_comm
  · refine List.pairwise_append.2 ⟨h.rise, by simp, fun y hy z hz => ?_⟩
    rw [List.mem_singleton.1 hz]
    exact h.la y hy x (by rw [hd]; simp)
  · intro y hy z hz
    rcases List.mem_append.1 hy with h1 | h1
    · exact h.la y h1 z (by rw [hd]; exact List.mem_cons_of_mem _ hz)
    · rw [List.mem_singleton.1 h1]; exact rise_drop ha hx z hz
  · intro y hy z hz
    rcases List.mem_append.1 hy with h1 | h1
    · exact h.lb y h1 z hz
    · rw [List.mem_singleton.1 h1]; exact hle z hz
theorem MgI.right {m : MgI} {us vs : List Int} (h : m.ok us vs) (hb : vs.Pairwise (· ≤ ·)) {x : Int} (hx : vs[m.j]? = some x) (hle : ∀ y ∈ us.drop m.i, x ≤ y) {a : Option Addr} {c : Nat} : MgI.ok ⟨m.i, m.j + 1, a, c, m.out ++ [x]⟩ us vs := by
  have hd := dropC hx
  refine ⟨h.hi, get_lt' hx, ?_, ?_, ?_, ?_⟩
  · simp only [snocT hx]
    rw [← List.append_assoc]
    exact h.perm.append_right [x]
  · refine List.pairwise_append.2 ⟨h.rise, by simp, fun y hy z hz => ?_⟩
    rw [List.mem_singleton.1 hz]
    exact h.lb y hy x (by rw [hd]; simp)
  · intro y hy z hz
    rcases List.mem_append.1 hy with h1 | h1
    · exact h.la y h1 z hz
    · rw [List.mem_singleton.1 h1]; exact hle z hz
  · intro y hy z hz
    rcases List.mem_append.1 hy with h1 | h1
    · exact h.lb y h1 z (by rw [hd]; exact List.mem_cons_of_mem _ hz)
    · rw [List.mem_singleton.1 h1]; exact rise_drop hb hx z hz
theorem drop_le {l : List Int} (h : l.Pairwise (· ≤ ·)) {i : Nat} {x y : Int} (hx : l[i]? = some x) (hy : y ≤ x) : ∀ z ∈ l.drop i, y ≤ z := by
  rw [dropC hx]
  intro z hz
  rcases List.mem_cons.1 hz with rfl | h1
  · exact hy
  · exact Int.le_trans hy (rise_drop h hx z h1)
end Go.Sx
namespace Go.Sx
open Go Go.Proofs
set_option maxRecDepth 10000
variable {w0 : World} {H : List Ck}
def two2 (n : Int) : Bs := [UInt8.ofInt (n / 256), UInt8.ofInt n]
def four4 (n : Int) : Bs := [UInt8.ofInt (n / 16777216), UInt8.ofInt (n / 65536), UInt8.ofInt (n / 256), UInt8.ofInt n]
def keyE (x : Bs) : Bs := two2 x.length ++ x
def encK (d : List Int × List Bs) : Bs := two2 d.1.length ++ d.1.flatMap four4 ++ d.2.flatMap keyE
def encR (size : Int) (d : List Int × List Bs) : Bs := if chkK size d = 0 then encK d else []
theorem flatS {α β : Type} (f : α → List β) {l : List α} {i : Nat} {x : α} (h : l[i]? = some x) : (l.take (i + 1)).flatMap f = (l.take i).flatMap f ++ f x := by
  rw [snocT h, List.flatMap_append]; simp
theorem fourL (ps : List Int) : (ps.flatMap four4).length = 4 * ps.length := by
  induction ps with
  | nil => rfl
  | cons x r ih => simp only [List.flatMap_cons, List.length_append, ih, List.length_cons, four4, List.length_nil]; omega
theorem keyL (ks : List Bs) : (ks.flatMap keyE).length = keysB ks := by
  induction ks with
  | nil => rfl
  | cons x r ih => simp only [List.flatMap_cons, List.length_append, ih, keyE, two2, List.length_cons, List.length_nil, keysB, List.map_cons, List.sum_cons]
theorem encK_len (d : List Int × List Bs) : (encK d).length = bytesK d := by
  simp only [encK, List.length_append, fourL, keyL, two2, List.length_cons, List.length_nil, bytesK]
abbrev EncR (size : Int) (d : List Int × List Bs) (H : List Ck) : Value → List Ck → Prop := fun v H' => ∃ a c, v = .tuple #[.slice a (encR size d).length c, .int .i64 (chkK size d)] ∧ H' = ob a c (encR size d) :: H
theorem ofInt_mod {n : Int} : UInt8.ofInt (n % 65536) = UInt8.ofInt n := by
  simp only [UInt8.ofInt]
  rw [Int.emod_emod_of_dvd n (by decide : (2 ^ 8 : Int) ∣ 65536)]
theorem ofInt_mod2 {n : Int} : UInt8.ofInt (n % 65536 / 256) = UInt8.ofInt (n / 256) := by
  have : (n % 65536 / 256) % 256 = (n / 256) % 256 := by omega
  simp only [UInt8.ofInt]
  have e : (2 ^ 8 : Int) = 256 := rfl
  rw [e, this]
theorem four_two {n : Int} (h : 0 ≤ n) : two2 (n / 65536) ++ two2 (n % 65536) = four4 n := by
  have : n / 65536 / 256 = n / 16777216 := by omega
  simp only [two2, four4, this, ofInt_mod, ofInt_mod2]
  rfl
end Go.Sx
