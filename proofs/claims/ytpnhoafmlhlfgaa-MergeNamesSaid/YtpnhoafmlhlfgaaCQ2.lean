/- Part of a proof: ranges put in order, and joined, by the document. -/
import Derived.Test.YtpnhoafmlhlfgaaCQ1j
import Derived.Test.YtpnhoafmlhlfgaaCMAj
namespace Go.Sx
open Go Go.Proofs
set_option maxRecDepth 10000
variable {w0 : World} {H : List Ck}
/-- Two lists, each rising, as one. -/
def mgR : List Rg → List Rg → List Rg
  | [], ys => ys
  | x :: xs, [] => x :: xs
  | x :: xs, y :: ys => if cmp x.lo y.lo ≤ 0 then x :: mgR xs (y :: ys) else y :: mgR (x :: xs) ys
termination_by xs ys => xs.length + ys.length
theorem mgR_nil (xs : List Rg) : mgR xs [] = xs := by
  cases xs <;> simp [mgR]
theorem mgR_nil' (ys : List Rg) : mgR [] ys = ys := by simp [mgR]
theorem mgR_l {us vs : List Rg} {i j : Nat} {x : Rg} (hx : us[i]? = some x) (h : j = vs.length ∨ ∃ y, vs[j]? = some y ∧ cmp x.lo y.lo ≤ 0) : mgR (us.drop i) (vs.drop j) = x :: mgR (us.drop (i + 1)) (vs.drop j) := by
  rw [dropG hx]
  rcases h with rfl | ⟨y, hy, hc⟩
  · rw [List.drop_length, mgR_nil, mgR_nil]
  · rw [dropG hy, mgR, if_pos hc]
theorem mgR_r {us vs : List Rg} {i j : Nat} {y : Rg} (hy : vs[j]? = some y) (h : i = us.length ∨ ∃ x, us[i]? = some x ∧ ¬ cmp x.lo y.lo ≤ 0) : mgR (us.drop i) (vs.drop j) = y :: mgR (us.drop i) (vs.drop (j + 1)) := by
  rw [dropG hy]
  rcases h with rfl | ⟨x, hx, hc⟩
  · rw [List.drop_length, mgR_nil', mgR_nil']
  · rw [dropG hx, mgR, if_neg hc]
theorem mgR_len : ∀ (us vs : List Rg), (mgR us vs).length = us.length + vs.length
  | [], ys => by simp [mgR]
  | x :: xs, [] => by simp [mgR]
  | x :: xs, y :: ys => by
    rw [mgR]
    split
    · have := mgR_len xs (y :: ys)
      simp only [List.length_cons] at this ⊢
      omega
    · have := mgR_len (x :: xs) ys
      simp only [List.length_cons] at this ⊢
      omega
termination_by us vs => us.length + vs.length
theorem mgR_app : ∀ (us vs : List Rg), (∀ x ∈ us, ∀ y ∈ vs, cmp x.lo y.lo ≤ 0) → mgR us vs = us ++ vs
  | [], ys, _ => by simp [mgR]
  | x :: xs, [], _ => by simp [mgR]
  | x :: xs, y :: ys, h => by
    rw [mgR, if_pos (h x (List.mem_cons_self ..) y (List.mem_cons_self ..)), mgR_app xs (y :: ys) (fun a ha b hb => h a (List.mem_cons_of_mem _ ha) b hb)]
    rfl
theorem mgR_mem : ∀ (us vs : List Rg) (x : Rg), x ∈ mgR us vs → x ∈ us ∨ x ∈ vs
  | [], ys, x, h => by rw [mgR_nil'] at h; exact .inr h
  | y :: xs, [], x, h => by rw [mgR_nil] at h; exact .inl h
  | a :: xs, b :: ys, x, h => by
    rw [mgR] at h
    split at h
    · rcases List.mem_cons.1 h with rfl | h
      · exact .inl (List.mem_cons_self ..)
      · rcases mgR_mem xs (b :: ys) x h with h | h
        · exact .inl (List.mem_cons_of_mem _ h)
        · exact .inr h
    · rcases List.mem_cons.1 h with rfl | h
      · exact .inr (List.mem_cons_self ..)
      · rcases mgR_mem (a :: xs) ys x h with h | h
        · exact .inl h
        · exact .inr (List.mem_cons_of_mem _ h)
termination_by us vs => us.length + vs.length
def byR : Nat → List Rg → List Rg
  | 0, l => l
  | n + 1, l => if l.length < 2 then l else mgR (byR n (l.take (l.length / 2))) (byR n (l.drop (l.length / 2)))
theorem byR_len : ∀ (n : Nat) (l : List Rg), (byR n l).length = l.length
  | 0, _ => rfl
  | n + 1, l => by
    rw [byR]
    split
    · rfl
    · rw [mgR_len, byR_len n, byR_len n, List.length_take, List.length_drop]
      omega
/-- What rises already stays. -/
theorem byR_id : ∀ (n : Nat) (l : List Rg), l.Pairwise (fun x y => cmp x.lo y.lo ≤ 0) → byR n l = l
  | 0, _, _ => rfl
  | n + 1, l, h => by
    rw [byR]
    split
    · rfl
    · have h2 := h
      rw [← List.take_append_drop (l.length / 2) l, List.pairwise_append] at h2
      rw [byR_id n _ h2.1, byR_id n _ h2.2.1, mgR_app _ _ h2.2.2, List.take_append_drop]
structure MrI where
  i : Nat
  j : Nat
  a : Option Addr
  c : Nat
  out : List Rg
structure MrI.ok (m : MrI) (us vs : List Rg) : Prop where
  hi : m.i ≤ us.length
  hj : m.j ≤ vs.length
  eq : m.out ++ mgR (us.drop m.i) (vs.drop m.j) = mgR us vs
  len : m.out.length = m.i + m.j
end Go.Sx
