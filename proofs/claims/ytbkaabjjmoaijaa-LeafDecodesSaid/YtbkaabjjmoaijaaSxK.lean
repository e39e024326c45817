/- Part ten: lists of blocks that are pairwise apart. -/
import Derived.Test.YtbkaabjjmoaijaaSxH
namespace Go.Sx
open Go

theorem Dis.perm {l l' : List (Option Nat)} (h : Dis l) (hp : l.Perm l') : Dis l' :=
  (hp.pairwise_iff (fun h i a b => h i b a)).1 h
theorem Dis.cons {x : Option Nat} {l : List (Option Nat)} (h : Dis l) (hx : ∀ i, x = some i → some i ∉ l) : Dis (x :: l) :=
  List.pairwise_cons.2 ⟨fun y hy i h1 h2 => hx i h1 (by rw [← h2]; exact hy), h⟩
theorem Dis.tail {x : Option Nat} {l : List (Option Nat)} (h : Dis (x :: l)) : Dis l := (List.pairwise_cons.1 h).2
theorem Dis.head {x : Option Nat} {l : List (Option Nat)} (h : Dis (x :: l)) {i : Nat} (hx : x = some i) : some i ∉ l := fun hm => (List.pairwise_cons.1 h).1 _ hm i hx rfl
/-- One block is turned into itself or a new one. -/
theorem Dis.turn {x y : Option Nat} {l : List (Option Nat)} {N : Nat} (h : Dis (x :: l)) (hy : ∀ i, y = some i → x = some i ∨ N ≤ i) (hl : ∀ i, some i ∈ l → i < N) : Dis (y :: l) :=
  h.tail.cons (fun i hi hm => by
    rcases hy i hi with h1 | h1
    · exact h.head h1 hm
    · have := hl i hm; omega)
end Go.Sx
