/- What a row hands in, opened to lists of typed things. -/
import Derived.Test.YtbkaabjjmoaijaaSyT
import Derived.Test.YtbkaabjjmoaijaaSxJ
namespace Go.Sx
open Go Go.ChangeShapes Go.WideShapes Go.Deep Go.RowKit

/-- How a Go type's data are opened: to things of a Lean type, of which something is good. -/
class OpC (P : Program) (T : TypeId) (α : outParam Type) [Cel α] (good : outParam (World → α → Prop)) : Prop where
  opens : ∀ {H : Type} {enc : TypeId × Value → H} {w : World} {base : Nat} {spare : Nat → Bool} {held : Bool} {fuel : Nat} {cs : List Value} {x : DataW H × List MemPlace},
    DataW.trod enc P w base spare held fuel T cs = some x → (∀ n ∈ x.1.weights P T, n ≤ reachBytes) → ∃ y : α, cs = Cel.f y ∧ good w y
section
variable {P : Program}
theorem opc_u8 {T : TypeId} (h : P.underlying T = some (.int .u8)) : OpC P T UInt8 (fun _ _ => True) := ⟨fun ht _ => by
  obtain ⟨u, rfl⟩ := byte_of h ht
  exact ⟨u, rfl, trivial⟩⟩
theorem opc_int {T : TypeId} (h : P.underlying T = some (.int .i64)) : OpC P T Int (fun _ n => -9223372036854775808 ≤ n ∧ n ≤ 9223372036854775807) := ⟨fun ht _ => by
  obtain ⟨n, rfl, h1, h2⟩ := open_i64 h ht
  exact ⟨n, rfl, h1, h2⟩⟩
/-- What is good of a slice. -/
structure GSl {α : Type} [Cel α] (good : World → α → Prop) (by' : Nat) (w : World) (a : Option Addr) (c : Nat) (xs : List α) : Prop where
  sl : Sl w a c xs
  el : ∀ x, x ∈ xs → good w x
  sz : xs.length * by' ≤ Rb
theorem list_of' {α : Type} (n : Nat) (p : Nat → α → Prop) (h : ∀ i, i < n → ∃ x, p i x) : ∃ l : List α, l.length = n ∧ ∀ i x, l[i]? = some x → p i x := by
  cases n with
  | zero => exact ⟨[], rfl, by simp⟩
  | succ n =>
    obtain ⟨x0, _⟩ := h 0 (by omega)
    haveI : Inhabited α := ⟨x0⟩
    exact list_of (n + 1) p h
theorem flat_idx' {α : Type} [Cel α] : ∀ (xs : List α) (j : Nat) (v : Value), (flat xs)[j]? = some v → ∃ i x r, xs[i]? = some x ∧ j = i * Cel.sz α + r ∧ (Cel.f x)[r]? = some v
  | [], j, v, h => by simp at h
  | x :: xs, j, v, h => by
    simp only [flat, List.flatMap_cons] at h
    by_cases hj : j < Cel.sz α
    · rw [List.getElem?_append_left (by rw [Cel.len]; exact hj)] at h
      exact ⟨0, x, j, rfl, by omega, h⟩
    · rw [List.getElem?_append_right (by rw [Cel.len]; omega), Cel.len] at h
      obtain ⟨i, y, r, h1, h2, h3⟩ := flat_idx' xs (j - Cel.sz α) v h
      exact ⟨i + 1, y, r, by simpa using h1, by rw [Nat.add_mul]; omega, h3⟩
section
variable {H : Type} {enc : TypeId × Value → H} {w : World} {base : Nat} {spare : Nat → Bool} {held : Bool}
theorem open_sl {T E fuel by' : Nat} {α : Type} [Cel α] {good : World → α → Prop} [ho : OpC P E α good] {cs : List Value} {x : DataW H × List MemPlace} (ht : P.underlying T = some (.slice E)) (hC : P.cellsOf E = Cel.sz α) (hY : P.bytesOf E = by')
    (h : DataW.trod enc P w base spare held fuel T cs = some x) (hw : ∀ n ∈ x.1.weights P T, n ≤ reachBytes) : ∃ a c xs, cs = [.slice a (xs : List α).length c] ∧ GSl good by' w a c xs := by
  rcases open_slice ht h with ⟨rfl, _⟩ | ⟨a, len, cap, m, n, D, Pl, rfl, hb, hl, hm, hmm, hx, hi⟩
  · exact ⟨none, 0, [], rfl, ⟨Nat.le_refl _, Nat.zero_le _, fun _ => rfl, fun ad e => by cases e⟩, (by simp), by simp⟩
  · have hlm : len ≤ m := by rw [hmm]; split <;> omega
    obtain ⟨xs, h1, h2⟩ := list_of' (α := α) len (fun i y => Cells w (a.add (i * Cel.sz α)) (Cel.f y) ∧ good w y) (fun i hil => by
      obtain ⟨cs', hc, ht'⟩ := hi i (by omega)
      obtain ⟨y, rfl, hg⟩ := ho.opens ht' (fun n hn => hw n (by
        rw [hx]
        simp only [DataW.weights, ht, List.mem_cons, List.mem_append]
        exact .inr (.inl (weightsAll_mem (List.mem_map.2 ⟨i, List.mem_range.2 hil, rfl⟩) hn))))
      rw [hC] at hc
      obtain ⟨_, hcl, hat⟩ := World.cells?_some hc
      refine ⟨y, fun r v hv => ?_, hg⟩
      have hr : r < Cel.sz α := by
        have := (List.getElem?_eq_some_iff.1 hv).1
        rwa [Cel.len] at this
      have := hat r hr
      rw [this, hv])
    have hlr : len * by' ≤ Rb := by
      have := hw ((((List.range len).map D).length + ((List.range (m - len)).map fun j => D (len + j)).length) * P.bytesOf E) (by rw [hx]; simp [DataW.weights, ht])
      simp only [List.length_map, List.length_range, hY, reachBytes] at this
      have h3 : len * by' ≤ (len + (m - len)) * by' := Nat.mul_le_mul_right _ (by omega)
      show len * by' ≤ 140737488351232
      omega
    subst h1
    refine ⟨some a, cap, xs, rfl, ⟨hl, hm, (fun e => by cases e), fun ad e => ?_⟩, fun y hy => ?_, hlr⟩
    · cases e
      intro j v hv
      obtain ⟨i, y, r, g1, rfl, g3⟩ := flat_idx' xs j v hv
      have := (h2 i y g1).1 r v g3
      rwa [add_add] at this
    · obtain ⟨i, hi'⟩ := List.getElem?_of_mem hy
      exact (h2 i y hi').2
/-- A bool. -/
theorem open_bool {T fuel : Nat} {cs : List Value} {x : DataW H × List MemPlace} (ht : P.underlying T = some .bool) (h : DataW.trod enc P w base spare held fuel T cs = some x) : ∃ b : Bool, cs = [.bool b] := by
  obtain ⟨b, rfl, _⟩ := DataW.trod_bool ht h
  exact ⟨b, rfl⟩
end
/-- Bytes. -/
theorem opc_sb {T E : TypeId} (h : P.underlying T = some (.slice E)) (he : P.underlying E = some (.int .u8)) (hC : P.cellsOf E = 1) (hY : P.bytesOf E = 1) : OpC P T SB (fun w y => By w y.a y.c y.xs ∧ y.xs.length ≤ Rb) := ⟨fun ht hw => by
  haveI := opc_u8 he
  obtain ⟨a, c, xs, rfl, g⟩ := open_sl (α := UInt8) (good := fun _ _ => True) h hC hY ht hw
  exact ⟨⟨a, c, xs⟩, rfl, g.sl.by', by have := g.sz; rwa [Nat.mul_one] at this⟩⟩
/-- A key and its value. -/
theorem opc_kv {T Tb Eb : TypeId} (hF : fieldsOf P T = [(Tb, 0), (Tb, 1)]) (hc : P.cellsOf T = 2) (hb : P.cellsOf Tb = 1) (h : P.underlying Tb = some (.slice Eb)) (he : P.underlying Eb = some (.int .u8)) (hC : P.cellsOf Eb = 1) (hY : P.bytesOf Eb = 1) :
    OpC P T KV (fun w y => (By w y.ka y.kc y.k ∧ By w y.va y.vc y.v) ∧ y.k.length ≤ Rb ∧ y.v.length ≤ Rb) := ⟨fun {_ _ _ _ _ _ _ cs _} ht hw => by
  obtain ⟨hl, n, hfl⟩ := trod_fields hF (by simp) ht
  rw [hc] at hl
  match cs, hl with
  | [c0, c1], _ =>
    obtain ⟨y0, t0, g0⟩ := hfl 0 _ _ rfl
    obtain ⟨y1, t1, g1⟩ := hfl 1 _ _ rfl
    rw [hb] at t0 t1
    obtain ⟨s0, e0, b0, z0⟩ := (opc_sb h he hC hY).opens t0 (fun m hm => hw m (g0 m hm))
    obtain ⟨s1, e1, b1, z1⟩ := (opc_sb h he hC hY).opens t1 (fun m hm => hw m (g1 m hm))
    simp only [List.drop_zero, List.take_succ_cons, List.take_zero, List.drop_succ_cons] at e0 e1
    cases e0
    cases e1
    exact ⟨⟨s0.a, s0.c, s0.xs, s1.a, s1.c, s1.xs⟩, rfl, ⟨b0, b1⟩, z0, z1⟩⟩
/-- A value of a struct is its cells. -/
theorem okWide_fields {w : World} {base T : Nat} {v : Value} {L : List (TypeId × Nat)} (hF : fieldsOf P T = L) (hne : L ≠ []) (h : Value.okWide P w .any base T v) : ∃ cs : List Value, v = .agg cs.toArray ∧ v.cells.toList = cs := by
  obtain ⟨fs, h1, _⟩ := fieldsOf_struct hF hne
  obtain ⟨cs, rfl, _⟩ := okWide_struct h1 h
  exact ⟨cs.toList, rfl, by simp [Value.cells]⟩
theorem okWide_slv {w : World} {base T E : Nat} {v : Value} (ht : P.underlying T = some (.slice E)) (h : Value.okWide P w .any base T v) : v.cells.toList = [v] := by
  obtain ⟨a, n, c, rfl⟩ := okWide_slice ht h
  rfl
theorem okWide_intv {w : World} {base T : Nat} {k : IntKind} {v : Value} (ht : P.underlying T = some (.int k)) (h : Value.okWide P w .any base T v) : v.cells.toList = [v] := by
  obtain ⟨n, rfl⟩ := okWide_int ht h
  rfl
theorem okWide_boolv {w : World} {base T : Nat} {v : Value} (ht : P.underlying T = some .bool) (h : Value.okWide P w .any base T v) : v.cells.toList = [v] := by
  obtain ⟨n, rfl⟩ := okWide_bool ht h
  rfl
end
section
variable {w : World} {a : Option Addr} {c : Nat}
theorem By.r0 {xs : Bs} (h : By w a c xs) : RBy w [] a c xs := fun _ hs => h.ex hs.old
theorem Sl.r0 {α : Type} [Cel α] {xs : List α} (h : Sl w a c xs) : RSl w [] a c xs := fun _ hs => h.ex hs.old
theorem GSl.en {by' : Nat} {es : List KV} (h : GSl (fun w (y : KV) => (By w y.ka y.kc y.k ∧ By w y.va y.vc y.v) ∧ y.k.length ≤ Rb ∧ y.v.length ≤ Rb) by' w a c es) : REn w [] a c es :=
  REn.mk h.sl.r0 fun e he => ⟨(h.el e he).1.1.r0, (h.el e he).1.2.r0⟩
/-- A contract at the start. -/
theorem FnV.start {P : Program} {k : FuncId} {args : Array Value} {v : Value} {w : World} (h : FnV P w [] k args v) : Fn P k args w (fun v' w' => v' = v ∧ Ex w w') :=
  (h w (Sat.nil w)).mono fun _ _ ⟨_, ⟨h1, _⟩, h3⟩ => ⟨h1, h3.old⟩
end
end Go.Sx
