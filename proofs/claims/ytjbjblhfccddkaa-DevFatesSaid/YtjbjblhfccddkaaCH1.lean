/- The second layer: small helpers: lists that are gone through, slots that are said otherwise. -/
import Derived.Test.YtjbjblhfccddkaaCKB
namespace Go.Sx
open Go
theorem get_map {α β : Type} {f : α → β} {l : List α} {i : Nat} {x : α} (h : l[i]? = some x) : (l.map f)[i]? = some (f x) := by simp [h]
theorem snocT {α : Type} {l : List α} {i : Nat} {e : α} (h : l[i]? = some e) : l.take (i + 1) = l.take i ++ [e] := by
  obtain ⟨hi, rfl⟩ := List.getElem?_eq_some_iff.1 h
  exact (List.take_append_getElem hi).symm
theorem dropG {α : Type} {l : List α} {i : Nat} {e : α} (h : l[i]? = some e) : l.drop i = e :: l.drop (i + 1) := by
  obtain ⟨hi, rfl⟩ := List.getElem?_eq_some_iff.1 h
  exact List.drop_eq_getElem_cons hi
section
variable {w0 : World} {H : List Ck}
theorem s_rwQ {n : Nat} {ds : List Deferred} {Q : Exit → Act → World → Prop} {e : Exit} {l : List (Nat × Value)} {t : Nat} {v v' : Value} (h : look l t = some v) (he : v = v') (k : SQ n ds Q e ((t, v') :: l) w0 H) : SQ n ds Q e l w0 H := by
  subst he
  refine .mk fun w hs => .mk fun a ha => (k.out w hs).out a ⟨ha.size, ha.defers, fun t' u ht => ?_⟩
  simp only [look] at ht
  by_cases e : t = t'
  · subst e; simp at ht; subst ht; exact ha.has _ _ h
  · have hb : Nat.beq t t' = false := by rw [← Bool.not_eq_true, Nat.beq_eq]; exact e
    rw [hb] at ht
    exact ha.has _ u ht
end
section
variable {fn : Func} {R : Value → World → Prop} {P : Program} {n : Nat} {l : List (Nat × Value)} {w : World}
/-- Two structs are returned. -/
theorem q_retcc {t t' : Tmp} {T : TypeId} {sz : Nat} [h : AgT P T sz] {k U k' U' : Nat} {vs vs' : List Value} (hr : fn.results = #[.cell t T, .cell t' T]) (hl : look l t = some (.pointer (some ⟨k, 0, none⟩))) (hl' : look l t' = some (.pointer (some ⟨k', 0, none⟩))) (hB : HB w k U vs) (hz : vs.length = sz) (hB' : HB w k' U' vs') (hz' : vs'.length = sz)
    (hR : R (.tuple #[.agg vs.toArray, .agg vs'.toArray]) w) : QJ n [] (bodyPost P fn (RetR R)) .ret l w := .mk fun a ha => by
  subst hz
  have h1 := run_loadCells_list (P := P) (w := w) ⟨k, 0, none⟩ vs hB.cells
  have h2 := run_loadCells_list (P := P) (w := w) ⟨k', 0, none⟩ vs' hB'.cells
  rw [hz'] at h2
  exact ⟨ha.defers, .tuple #[.agg vs.toArray, .agg vs'.toArray], by simp [results, hr, Array.getD_eq_getD_getElem?, ha.has _ _ hl, ha.has _ _ hl', asAddr, loadVar, h.agg, h.size, h1, h2], _, rfl, hR⟩
end
section
variable {P : Program} {fn : Func} {R : Value → List Ck → Prop} {n : Nat} {l : List (Nat × Value)} {w0 : World} {H H' : List Ck}
theorem s_retcc {t t' : Tmp} {T : TypeId} {sz : Nat} [h : AgT P T sz] {k U k' U' : Nat} {vs vs' : List Value} {H1 H2 : List Ck} (hr : fn.results = #[.cell t T, .cell t' T]) (hl : look l t = some (.pointer (some ⟨k, 0, none⟩))) (hl' : look l t' = some (.pointer (some ⟨k', 0, none⟩))) (hB : At (.hb k U vs) (.hb k U vs) H H1) (hz : vs.length = sz) (hB' : At (.hb k' U' vs') (.hb k' U' vs') H H2) (hz' : vs'.length = sz)
    (hR : R (.tuple #[.agg vs.toArray, .agg vs'.toArray]) H') (he : Ent H H' := by first | exact entq | exact ent) : SQ n [] (bodyPost P fn (RetR (RS w0 R))) .ret l w0 H := .mk fun _ hs => q_retcc hr hl hl' (Sat.hbOf hB hs) hz (Sat.hbOf hB' hs) hz' ⟨H', hR, hs.ent he⟩
end
end Go.Sx
