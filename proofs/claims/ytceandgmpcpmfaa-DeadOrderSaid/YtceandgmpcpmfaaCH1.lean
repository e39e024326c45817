/- The second layer: small helpers: lists that are gone through, slots that are said otherwise. -/
import Derived.Test.YtceandgmpcpmfaaCKB
namespace Go.Sx
open Go
theorem get_map {α β : Type} {f : α → β} {l : List α} {i : Nat} {x : α} (h : l[i]? = some x) : (l.map f)[i]? = some (f x) := by simp [h]
theorem snocT {α : Type} {l : List α} {i : Nat} {e : α} (h : l[i]? = some e) : l.take (i + 1) = l.take i ++ [e] := by
  obtain ⟨hi, rfl⟩ := List.getElem?_eq_some_iff.1 h
  exact (List.take_append_getElem hi).symm
theorem dropG {α : Type} {l : List α} {i : Nat} {e : α} (h : l[i]? = some e) : l.drop i = e :: l.drop (i + 1) := by
  obtain ⟨hi, rfl⟩ := List.getElem?_eq_some_iff.1 h
  exact List.drop_eq_getElem_cons hi
section
variable {w0 : World} {H : List Ck}
theorem s_rwQ {n : Nat} {ds : List Deferred} {Q : Exit → Act → World → Prop} {e : Exit} {l : List (Nat × Value)} {t : Nat} {v v' : Value} (h : look l t = some v) (he : v = v') (k : SQ n ds Q e ((t, v') :: l) w0 H) : SQ n ds Q e l w0 H := by
  subst he
  refine .mk fun w hs => .mk fun a ha => (k.out w hs).out a ⟨ha.size, ha.defers, fun t' u ht => ?_⟩
  simp only [look] at ht
  by_cases e : t = t'
  · subst e; simp at ht; subst ht; exact ha.has _ _ h
  · have hb : Nat.beq t t' = false := by rw [← Bool.not_eq_true, Nat.beq_eq]; exact e
    rw [hb] at ht
    exact ha.has _ u ht
end
end Go.Sx
