/- Part nine: what a row hands in, opened to bytes and entries; what it asks for behind the call. -/
import Derived.Test.YtbkaabjjmoaijaaSxE
import Derived.Deep.Slices
import Derived.ProofKit
import Derived.SizedLaws
namespace Go.Sx
open Go Go.ChangeShapes Go.WideShapes Go.Deep Go.RowKit

section
variable {H : Type} {enc : TypeId × Value → H} {P : Program} {w : World} {base : Nat} {spare : Nat → Bool} {held : Bool}

theorem byte_of {E fuel : Nat} {cs : List Value} {x : DataW H × List MemPlace} (he : P.underlying E = some (.int .u8)) (h : DataW.trod enc P w base spare held fuel E cs = some x) : ∃ u : UInt8, cs = [bv u] := by
  obtain ⟨n, rfl, _, hw⟩ := DataW.trod_int he h
  simp only [Lit.wf, IntKind.min, IntKind.max, IntKind.signed, IntKind.bits, Bool.and_eq_true] at hw
  refine ⟨UInt8.ofNat n.toNat, ?_⟩
  have h1 : 0 ≤ n := by simpa using hw.1
  have h2 : n ≤ 255 := by have := hw.2; simp at this; omega
  have h3 : (UInt8.ofNat n.toNat).toNat = n.toNat := by
    rw [UInt8.toNat_ofNat']
    omega
  have h4 : ((UInt8.ofNat n.toNat).toNat : Int) = n := by rw [h3]; omega
  simp only [bv, h4]

/-- A list by its elements. -/
theorem list_of {α : Type} [Inhabited α] (n : Nat) (p : Nat → α → Prop) (h : ∀ i, i < n → ∃ x, p i x) : ∃ l : List α, l.length = n ∧ ∀ i x, l[i]? = some x → p i x := by
  induction n with
  | zero => exact ⟨[], rfl, by simp⟩
  | succ n ih =>
    obtain ⟨l, hl, hp⟩ := ih (fun i hi => h i (by omega))
    obtain ⟨x, hx⟩ := h n (by omega)
    refine ⟨l ++ [x], by simp [hl], ?_⟩
    intro i y hy
    by_cases hi : i < l.length
    · rw [List.getElem?_append_left hi] at hy
      exact hp i y hy
    · rw [List.getElem?_append_right (by omega)] at hy
      have h0 : i - l.length = 0 := by
        cases hd : i - l.length with
        | zero => rfl
        | succ k => rw [hd] at hy; simp at hy
      rw [h0] at hy
      simp only [List.getElem?_cons_zero, Option.some.injEq] at hy
      subst hy
      have : i = n := by omega
      subst this
      exact hx

theorem weightsAll_mem {e : TypeId} : ∀ {l : List (DataW H)} {d : DataW H} {n : Nat}, d ∈ l → n ∈ d.weights P e → n ∈ DataW.weightsAll P e l
  | x :: l, d, n, hd, hn => by
    simp only [DataW.weightsAll, List.mem_append]
    rcases List.mem_cons.1 hd with rfl | h
    · exact .inl hn
    · exact .inr (weightsAll_mem h hn)
/-- As many bytes as a row's reach lets by. -/
abbrev Rb : Nat := 140737488351232
/-- A slice of bytes. -/
theorem open_bys {T E fuel : Nat} {cs : List Value} {x : DataW H × List MemPlace} (ht : P.underlying T = some (.slice E)) (he : P.underlying E = some (.int .u8)) (hC : P.cellsOf E = 1) (hY : P.bytesOf E = 1) (h : DataW.trod enc P w base spare held fuel T cs = some x) (hw : ∀ n ∈ x.1.weights P T, n ≤ reachBytes) :
    ∃ a c xs, cs = [.slice a (xs : List UInt8).length c] ∧ By w a c xs ∧ xs.length ≤ Rb := by
  rcases open_slice ht h with ⟨rfl, _⟩ | ⟨a, len, cap, m, n, D, Pl, rfl, hb, hl, hm, hmm, hx, hi⟩
  · exact ⟨none, 0, [], rfl, ⟨Nat.le_refl _, Nat.zero_le _, fun _ => rfl, fun ad e => by cases e⟩, Nat.zero_le _⟩
  · have hlm : len ≤ m := by rw [hmm]; split <;> omega
    obtain ⟨xs, h1, h2⟩ := list_of (α := UInt8) len (fun i u => w.cell? (a.add i) = some (bv u)) (fun i hil => by
      obtain ⟨cs', hc, ht'⟩ := hi i (by omega)
      obtain ⟨u, rfl⟩ := byte_of he ht'
      rw [hC, Nat.mul_one] at hc
      obtain ⟨_, hcl, hat⟩ := World.cells?_some hc
      have := hat 0 (by omega)
      rw [add_add] at this
      exact ⟨u, by simpa using this⟩)
    have hlr : len ≤ Rb := by
      have := hw ((((List.range len).map D).length + ((List.range (m - len)).map fun j => D (len + j)).length) * P.bytesOf E) (by rw [hx]; simp [DataW.weights, ht])
      simp only [List.length_map, List.length_range, hY, reachBytes] at this
      show len ≤ 140737488351232
      omega
    subst h1
    refine ⟨some a, cap, xs, rfl, ⟨hl, hm, fun e => (by cases e), fun ad e => ?_⟩, hlr⟩
    cases e
    intro i v hv
    rw [List.getElem?_map] at hv
    obtain ⟨u, hu, rfl⟩ := Option.map_eq_some_iff.1 hv
    exact h2 i u hu
/-- An entry. -/
theorem open_kv {E Tb Eb fuel : Nat} {f0 f1 : Field} {cs : List Value} {x : DataW H × List MemPlace} (hs : P.underlying E = some (.struct #[f0, f1])) (o0 : f0.offset = 0) (o1 : f1.offset = 1) (t0 : f0.type = Tb) (t1 : f1.type = Tb) (hCE : P.cellsOf E = 2) (hCT : P.cellsOf Tb = 1)
    (ht : P.underlying Tb = some (.slice Eb)) (he : P.underlying Eb = some (.int .u8)) (hC : P.cellsOf Eb = 1) (hY : P.bytesOf Eb = 1) (h : DataW.trod enc P w base spare held fuel E cs = some x) (hw : ∀ n ∈ x.1.weights P E, n ≤ reachBytes) :
    ∃ e : KV, cs = e.cells ∧ (By w e.ka e.kc e.k ∧ By w e.va e.vc e.v) ∧ e.k.length ≤ Rb ∧ e.v.length ≤ Rb := by
  obtain ⟨ys, n, _, hxx, hl, hyl, hf⟩ := DataW.trod_struct hs h
  rw [hCE] at hl
  match cs, hl with
  | [c0, c1], _ =>
    have h0 := hf 0 f0 rfl
    have h1 := hf 1 f1 rfl
    rw [o0, t0, hCT] at h0
    rw [o1, t1, hCT] at h1
    simp only [List.drop_zero, List.take_succ_cons, List.take_zero, List.drop_succ_cons] at h0 h1
    have hy : ys.length = 2 := hyl
    match ys, hy with
    | [y0, y1], _ =>
      have hx1 : x.1 = .agg [y0.1, y1.1] := by rw [hxx]; rfl
      have hww : ∀ n, n ∈ y0.1.weights P Tb ∨ n ∈ y1.1.weights P Tb → n ≤ reachBytes := fun n hn => hw n (by
        rw [hx1]
        simp only [DataW.weights, hs, List.map_cons, List.map_nil, DataW.weightsEach, t0, t1, List.mem_append]
        rcases hn with hn | hn
        · exact .inl hn
        · exact .inr (.inl hn))
      obtain ⟨a, c, k, e1, b1, z1⟩ := open_bys ht he hC hY h0 (fun n hn => hww n (.inl hn))
      obtain ⟨a', c', v, e2, b2, z2⟩ := open_bys ht he hC hY h1 (fun n hn => hww n (.inr hn))
      simp only [List.cons.injEq, and_true] at e1 e2
      subst e1
      subst e2
      exact ⟨⟨a, c, k, a', c', v⟩, rfl, ⟨b1, b2⟩, z1, z2⟩
instance : Inhabited KV := ⟨⟨none, 0, [], none, 0, []⟩⟩
theorem flat_idx : ∀ (es : List KV) (j : Nat) (v : Value), (es.flatMap KV.cells)[j]? = some v → ∃ i e r, es[i]? = some e ∧ j = i * 2 + r ∧ e.cells[r]? = some v
  | [], j, v, h => by simp at h
  | x :: es, j, v, h => by
    simp only [List.flatMap_cons] at h
    by_cases hj : j < 2
    · rw [List.getElem?_append_left (by simpa [KV.cells] using hj)] at h
      exact ⟨0, x, j, rfl, by omega, h⟩
    · rw [List.getElem?_append_right (by simp [KV.cells]; omega)] at h
      have hl : (KV.cells x).length = 2 := rfl
      rw [hl] at h
      obtain ⟨i, e, r, h1, h2, h3⟩ := flat_idx es (j - 2) v h
      exact ⟨i + 1, e, r, by simpa using h1, by omega, h3⟩
/-- A slice of entries. -/
theorem open_ens {T E Tb Eb fuel : Nat} {f0 f1 : Field} {cs : List Value} {x : DataW H × List MemPlace} (hT : P.underlying T = some (.slice E)) (hs : P.underlying E = some (.struct #[f0, f1])) (o0 : f0.offset = 0) (o1 : f1.offset = 1) (t0 : f0.type = Tb) (t1 : f1.type = Tb) (hCE : P.cellsOf E = 2) (hCT : P.cellsOf Tb = 1)
    (ht : P.underlying Tb = some (.slice Eb)) (he : P.underlying Eb = some (.int .u8)) (hC : P.cellsOf Eb = 1) (hY : P.bytesOf Eb = 1) (hYE : P.bytesOf E = 48) (h : DataW.trod enc P w base spare held fuel T cs = some x) (hw : ∀ n ∈ x.1.weights P T, n ≤ reachBytes) :
    ∃ a c es, cs = [.slice a (es : List KV).length c] ∧ En w a c es ∧ es.length * 48 ≤ Rb ∧ ∀ e, e ∈ es → e.k.length ≤ Rb ∧ e.v.length ≤ Rb := by
  rcases open_slice hT h with ⟨rfl, _⟩ | ⟨a, len, cap, m, n, D, Pl, rfl, hb, hl, hm, hmm, hx, hi⟩
  · exact ⟨none, 0, [], rfl, ⟨Nat.le_refl _, Nat.zero_le _, fun _ => rfl, (fun ad e => by cases e), (fun e he => by cases he)⟩, Nat.zero_le _, fun e he => by cases he⟩
  · have hlm : len ≤ m := by rw [hmm]; split <;> omega
    obtain ⟨es, h1, h2⟩ := list_of (α := KV) len (fun i e => (∀ r v, e.cells[r]? = some v → w.cell? (a.add (i * 2 + r)) = some v) ∧ (By w e.ka e.kc e.k ∧ By w e.va e.vc e.v) ∧ e.k.length ≤ Rb ∧ e.v.length ≤ Rb) (fun i hil => by
      obtain ⟨cs', hc, ht'⟩ := hi i (by omega)
      obtain ⟨e, rfl, b1, b2⟩ := open_kv hs o0 o1 t0 t1 hCE hCT ht he hC hY ht' (fun n hn => hw n (by
        rw [hx]
        simp only [DataW.weights, hT, List.mem_cons, List.mem_append]
        exact .inr (.inl (weightsAll_mem (List.mem_map.2 ⟨i, List.mem_range.2 hil, rfl⟩) hn))))
      rw [hCE] at hc
      obtain ⟨_, hcl, hat⟩ := World.cells?_some hc
      refine ⟨e, fun r v hv => ?_, b1, b2⟩
      have hr : r < 2 := by
        have := (List.getElem?_eq_some_iff.1 hv).1
        simpa [KV.cells] using this
      have := hat r hr
      rw [add_add] at this
      rw [this, hv])
    have hlr : len * 48 ≤ Rb := by
      have := hw ((((List.range len).map D).length + ((List.range (m - len)).map fun j => D (len + j)).length) * P.bytesOf E) (by rw [hx]; simp [DataW.weights, hT])
      simp only [List.length_map, List.length_range, hYE, reachBytes] at this
      show len * 48 ≤ 140737488351232
      omega
    subst h1
    refine ⟨some a, cap, es, rfl, ⟨hl, hm, (fun e => by cases e), fun ad e => ?_, fun e hm' => ?_⟩, hlr, fun e hm' => ?_⟩
    · cases e
      intro j v hv
      obtain ⟨i, e, r, g1, rfl, g3⟩ := flat_idx es j v hv
      exact (h2 i e g1).1 r v g3
    · obtain ⟨i, hi'⟩ := List.getElem?_of_mem hm'
      exact (h2 i e hi').2.1
    · obtain ⟨i, hi'⟩ := List.getElem?_of_mem hm'
      exact (h2 i e hi').2.2
/-- A struct's parts: types and places. -/
def fieldsOf (P : Program) (T : TypeId) : List (TypeId × Nat) := match P.underlying T with
  | some (.struct fs) => fs.toList.map (fun f => (f.type, f.offset))
  | _ => []
theorem fieldsOf_struct {T : TypeId} {L : List (TypeId × Nat)} (h : fieldsOf P T = L) (hne : L ≠ []) : ∃ fs, P.underlying T = some (.struct fs) ∧ fs.toList.map (fun f => (f.type, f.offset)) = L := by
  unfold fieldsOf at h
  split at h
  · rename_i fs hf
    exact ⟨fs, hf, h⟩
  · exact absurd h.symm hne
theorem kv_fields {E Tb : TypeId} (h : fieldsOf P E = [(Tb, 0), (Tb, 1)]) : ∃ f0 f1, P.underlying E = some (.struct #[f0, f1]) ∧ f0.offset = 0 ∧ f1.offset = 1 ∧ f0.type = Tb ∧ f1.type = Tb := by
  obtain ⟨fs, h1, h2⟩ := fieldsOf_struct h (by simp)
  obtain ⟨l⟩ := fs
  have hlen : l.length = 2 := by simpa using congrArg List.length h2
  match l, hlen with
  | [f0, f1], _ =>
    simp only [List.map_cons, List.map_nil, List.cons.injEq, Prod.mk.injEq, and_true] at h2
    exact ⟨f0, f1, h1, h2.1.2, h2.2.2, h2.1.1, h2.2.1⟩
/-- A struct, part by part. -/
theorem trod_fields {T fuel : Nat} {L : List (TypeId × Nat)} {cs : List Value} {x : DataW H × List MemPlace} (hF : fieldsOf P T = L) (hne : L ≠ []) (h : DataW.trod enc P w base spare held fuel T cs = some x) :
    cs.length = P.cellsOf T ∧ ∃ n, ∀ (i t o : Nat), L[i]? = some (t, o) → ∃ y, DataW.trod enc P w base spare held n t ((cs.drop o).take (P.cellsOf t)) = some y ∧ ∀ m ∈ y.1.weights P t, m ∈ x.1.weights P T := by
  obtain ⟨fs, h1, h2⟩ := fieldsOf_struct hF hne
  obtain ⟨ys, n, _, hxx, hl, hyl, hf⟩ := DataW.trod_struct h1 h
  refine ⟨hl, n, fun i t o hi => ?_⟩
  rw [← h2, List.getElem?_map] at hi
  obtain ⟨f, hfi, he⟩ := Option.map_eq_some_iff.1 hi
  simp only [Prod.mk.injEq] at he
  obtain ⟨rfl, rfl⟩ := he
  have hfi' : fs[i]? = some f := by simpa using hfi
  have hlt : i < fs.size := (Array.getElem?_eq_some_iff.1 hfi').1
  have hy := hf i f hfi'
  have hys : ys[i]? = some (ys[i]'(by omega)) := List.getElem?_eq_getElem (by omega)
  refine ⟨_, hy.trans hys, fun m hm => ?_⟩
  have hx1 : x.1 = .agg (ys.map (·.1)) := by rw [hxx]
  rw [hx1]
  simp only [DataW.weights, h1]
  exact DataW.weights_mem_each (by rw [List.getElem?_map, hfi]; rfl) (by rw [List.getElem?_map, hys]; rfl) m hm
theorem open_i64 {T fuel : Nat} {cs : List Value} {x : DataW H × List MemPlace} (ht : P.underlying T = some (.int .i64)) (h : DataW.trod enc P w base spare held fuel T cs = some x) : ∃ n : Int, cs = [.int .i64 n] ∧ -9223372036854775808 ≤ n ∧ n ≤ 9223372036854775807 := by
  obtain ⟨n, rfl, _, hw⟩ := DataW.trod_int ht h
  simp only [Lit.wf, IntKind.min, IntKind.max, IntKind.signed, IntKind.bits, Bool.and_eq_true] at hw
  have h1 := hw.1
  have h2 := hw.2
  simp at h1 h2
  exact ⟨n, rfl, by omega, by omega⟩
/-- The arguments read as they did. -/
theorem all_stays (hl : laidOutB P = true) {W W' : World} (hB : Below W.heap.size W W') : ∀ (ts : List TypeId) (vs : List Value) (ds : List (DataW H)) (ps : List MemPlace), (ts.all fun t => P.readableRec t && decide (t < P.types.size)) = true → (∀ x ∈ ps, x.block < W.heap.size) →
    DataW.TrodAll enc P W 0 (fun _ => true) true ts vs ds ps → DataW.TrodAll enc P W' 0 (fun b => decide (b < W.heap.size)) true ts vs ds ps
  | [], vs, ds, ps, _, _, h => by
    obtain ⟨rfl, rfl, rfl⟩ := trodAll_nil h
    exact rfl
  | t :: ts, vs, ds, ps, ht, hp, h => by
    obtain ⟨v, vs1, d, ds1, a, b, rfl, rfl, rfl, h1, h2⟩ := trodAll_cons h
    simp only [List.all_cons, Bool.and_eq_true, decide_eq_true_eq] at ht
    refine ⟨a, b, Below.trod hl ht.1.1 ht.1.2 h1 hB (fun x hx => hp x (by simp [hx])), all_stays hl hB ts vs1 ds1 b (by simpa using ht.2) (fun x hx => hp x (by simp [hx])) h2, rfl⟩
/-- The row's closing condition: true, and the arguments read as they did. -/
theorem post_true (hl : laidOutB P = true) {f : Func} {s : ChangeSpec} {apart handsOn : Bool} {W W' : World} {args : Array Value} {tb : TypeId} {ds gs : List (DataW H)} {before : List MemPlace} (hv : s.vars = []) (hrt : f.resultTypes = #[tb]) (hbt : P.underlying tb = some .bool)
    (hts : (f.params.toList.all fun t => P.readableRec t && decide (t < P.types.size)) = true) (hf1 : (s.fn H ds).results = [.lit (.bool true)]) (hf2 : (s.fn H ds).args = ds) (hf3 : (s.fn H ds).vars = [])
    (hW : DataW.Whole enc P f.params.toList s.vars apart W args.toList ds gs before) (hB : Below W.heap.size W W') : s.post enc P f apart true handsOn false W args (.bool true) W' := by
  have hW' := hW
  obtain ⟨p, q, hA, hV, rfl, _, _⟩ := hW
  rw [hv] at hV
  obtain ⟨rfl, rfl⟩ := trodVars_none hV
  have hlt : ∀ x ∈ p, x.block < W.heap.size := fun x hx => by simpa using hW'.lt x (by simpa using hx)
  refine ⟨ds, [], _, [], p, [], hW', ?_, ?_, ?_, hB.frame _, fun h => by cases h⟩
  · rw [List.append_nil, hf1, hrt]
    exact trodAll_mk1 (shut_bool hbt _)
  · rw [List.append_nil, hf2]
    exact all_stays hl hB _ _ _ _ hts hlt hA
  · rw [List.append_nil, hf3, hv]
    exact rfl
end
end Go.Sx
