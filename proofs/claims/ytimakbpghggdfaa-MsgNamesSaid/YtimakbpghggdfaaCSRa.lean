/- Part of a proof: what a row of a sort is, as a list of one's own. -/
import Derived.Test.YtimakbpghggdfaaCSR
namespace Go.Sx
open Go Go.Proofs Go.Sort
set_option maxRecDepth 10000
section
variable {β : Type} [Cel β] {G : β → Prop} [Inhabited {x : β // G x}]
abbrev encS (G : β → Prop) : {x : β // G x} → List Value := fun x => Cel.f x.1
theorem flatK_flat (d : Array {x : β // G x}) : (flatK (encS G) (Cel.sz β) d).toList = flat (d.toList.map Subtype.val) := by
  have hp := Cel.pos (α := β)
  apply List.ext_getElem?
  intro j
  by_cases hj : j < d.size * Cel.sz β
  · have h1 : j / Cel.sz β < d.size := (Nat.div_lt_iff_lt_mul hp).2 hj
    have h2 : j % Cel.sz β < Cel.sz β := Nat.mod_lt _ hp
    have h3 : (Cel.f (d[j / Cel.sz β]!).1)[j % Cel.sz β]? = some ((Cel.f (d[j / Cel.sz β]!).1)[j % Cel.sz β]'(by rw [Cel.len]; exact h2)) := List.getElem?_eq_getElem _
    have h4 := flat_at (d.toList.map Subtype.val) (j / Cel.sz β) (d[j / Cel.sz β]!).1 (j % Cel.sz β) _ (by simp [h1]) h3
    rw [Nat.div_add_mod' j (Cel.sz β)] at h4
    rw [h4]
    have h5 := get_flatK (encS G) (Cel.sz β) d j hj
    have h6 : j < (flatK (encS G) (Cel.sz β) d).size := by simpa using hj
    rw [Array.getElem?_toList, Array.getElem?_eq_getElem h6, ← getElem!_pos _ j h6, h5]
    rw [getElem!_pos _ _ (by rw [Cel.len]; exact h2)]
  · rw [List.getElem?_eq_none (by simp; omega), List.getElem?_eq_none (by rw [flat_length]; simp; omega)]
end
theorem HB.holds {w : World} {b : Nat} {E : TypeId} {F : Array Value} {re : List Value} (h : HB w b E (F.toList ++ re)) : Holds id w b 0 F := fun j hj => by
  unfold HB at h
  have h1 : (F.toList ++ re)[j]? = some F[j] := by
    rw [List.getElem?_append_left (by simpa using hj)]
    simp [hj]
  constructor
  · rw [Nat.zero_add]
    have h2 : (F.toList ++ re).toArray[j]? = some F[j] := by simpa using h1
    simp only [World.cell?, h]
    rw [h2, getElem!_pos F j hj]
    rfl
  · simp [World.frozen?, h]
theorem HB.putRow {w : World} {b : Nat} {E : TypeId} {xs re : List Value} (h : HB w b E (xs ++ re)) (F : Array Value) (hF : F.size = xs.length) : HB (Sort.putRow id w b 0 F) b E (F.toList ++ re) := by
  unfold HB at h ⊢
  unfold Sort.putRow mapBlock
  have hlt : b < w.heap.size := (Array.getElem?_eq_some_iff.1 h).1
  simp only [Array.getElem?_modify, if_true, h, Option.map_some, onCells]
  congr 2
  apply Array.ext_getElem?
  intro j
  simp only [putCells, Array.getElem?_mapIdx, List.getElem?_toArray]
  by_cases hj : j < F.size
  · rw [List.getElem?_append_left (by omega), List.getElem?_append_left (by simpa using hj)]
    rw [List.getElem?_eq_getElem (by omega)]
    simp [hj]
  · rw [List.getElem?_append_right (by omega), List.getElem?_append_right (by simpa using hj)]
    have e : (F.toList).length = xs.length := by simpa using hF
    rw [e]
    cases (re[j - xs.length]?) with
    | none => rfl
    | some v => simp; omega
theorem putRow_ext (w : World) (b m : Nat) (F : Array Value) (os : Array Obj) : Ext (fun i => i = b) w (grow (Sort.putRow id (Sort.ahead w m) b 0 F) os) := by
  refine ⟨rfl, rfl, rfl, ?_, fun k hk hn => ?_⟩
  · simp [grow, Sort.putRow, mapBlock]
  · unfold grow Sort.putRow mapBlock
    rw [Array.getElem?_append_left (by simpa using hk)]
    rw [Array.getElem?_modify, if_neg (fun e => hn e.symm)]
    rfl
theorem HB.grow {w : World} {b : Nat} {E : TypeId} {xs : List Value} (h : HB w b E xs) (os : Array Obj) : HB (Sort.grow w os) b E xs := by
  unfold HB at h ⊢
  unfold Sort.grow
  rw [Array.getElem?_append_left (Array.getElem?_eq_some_iff.1 h).1]
  exact h
theorem HB.ahead {w : World} {b : Nat} {E : TypeId} {xs : List Value} (h : HB w b E xs) (m : Nat) : HB (Sort.ahead w m) b E xs := h
end Go.Sx
