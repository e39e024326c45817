/- Part six: what grows; slices of slices; strings. -/
import Derived.Test.YtbkaabjjmoaijaaSxE
import Derived.Laws.Cover3
namespace Go.Sx
open Go

abbrev blk (a : Option Addr) : Option Nat := a.map (·.block)
/-- From world w, where a slice of one's own lies at a, to w', where it lies at a': nothing else that was there has turned. -/
structure Grow (w : World) (a : Option Addr) (w' : World) (a' : Option Addr) : Prop where
  ext : Ext (fun i => blk a = some i) w w'
  fr : ∀ ad', a' = some ad' → blk a = some ad'.block ∨ w.heap.size ≤ ad'.block
theorem Grow.refl (w : World) (a : Option Addr) : Grow w a w a := ⟨Ext.refl w, fun ad e => .inl (by rw [e]; rfl)⟩
theorem Grow.trans {w w' w'' : World} {a a' a'' : Option Addr} (h : Grow w a w' a') (k : Grow w' a' w'' a'') : Grow w a w'' a'' := by
  have hs := h.ext.size
  refine ⟨h.ext.trans' k.ext (fun _ _ h => h) ?_, ?_⟩
  · intro i hi hb
    cases ha : a' with
    | none => rw [ha] at hb; cases hb
    | some ad =>
      rw [ha] at hb
      have hb' : ad.block = i := by simpa [blk] using hb
      rcases h.fr ad ha with h1 | h1
      · rw [← hb']; exact h1
      · omega
  · intro ad e
    rcases k.fr ad e with h1 | h1
    · cases ha : a' with
      | none => rw [ha] at h1; cases h1
      | some ad' =>
        rw [ha] at h1
        have hb' : ad'.block = ad.block := by simpa [blk] using h1
        rcases h.fr ad' ha with h2 | h2
        · left; rw [← hb']; exact h2
        · right; omega
    · right; omega
theorem Grow.ex {w w' w'' : World} {a a' : Option Addr} (h : Grow w a w' a') (k : Ex w' w'') : Grow w a w'' a' :=
  ⟨h.ext.trans k.ext, h.fr⟩
theorem Own.out {w : World} {B E sz : Nat} {a : Option Addr} {n c : Nat} {xs : List Value} (h : Own w B E sz a n c xs) {i : Nat} (hi : i < B) : ¬ blk a = some i := by
  intro hb
  cases a with
  | none => cases hb
  | some ad =>
    have := h.ge
    have hb' : ad.block = i := by simpa [blk] using hb
    omega
/-- Nothing that was there at the start has turned, where what grew was of one's own. -/
theorem Grow.ex0 {W w w' : World} {B E sz : Nat} {a a' : Option Addr} {n c : Nat} {xs : List Value} (h : Ex W w) (ho : Own w B E sz a n c xs) (hB : W.heap.size ≤ B) (g : Grow w a w' a') : Ex W w' :=
  h.fresh g.ext (fun _ hi => ho.out (by omega))
theorem Grow.ne {w w' : World} {a a' : Option Addr} (g : Grow w a w' a') {b : Nat} (hb : b < w.heap.size) (hn : ¬ blk a = some b) : ¬ blk a' = some b := by
  intro h
  cases ha : a' with
  | none => rw [ha] at h; cases h
  | some ad =>
    rw [ha] at h
    have h' : ad.block = b := by simpa [blk] using h
    rcases g.fr ad ha with h1 | h1
    · rw [h'] at h1; exact hn h1
    · omega
theorem Own.ne {w : World} {B E sz : Nat} {a : Option Addr} {n c : Nat} {xs : List Value} (h : Own w B E sz a n c xs) {b : Nat} (hb : w.heap.size ≤ b) : ¬ blk a = some b := by
  intro hb'
  cases a with
  | none => cases hb'
  | some ad =>
    have := h.ge
    have h' : ad.block = b := by simpa [blk] using hb'
    omega
/-- Bytes of one's own. -/
abbrev OwB (w : World) (B E : Nat) (a : Option Addr) (c : Nat) (bs : Bs) : Prop := Own w B E 1 a bs.length c (bs.map bv)
theorem OwB.by {w : World} {B E : Nat} {a : Option Addr} {c : Nat} {bs : Bs} (h : OwB w B E a c bs) : By w a c bs := (Own.by h).2

section
variable {P : Program} {S : World → Prop} {l : List (Nat × Value)} {d : Option Tmp} {ty : TypeId} {pos : String} {af : Array Edge} {g : Option (Nat × Bool)}
/-- Where a slice from lo on lies. -/
def sl (a : Option Addr) (c lo sz : Nat) : Option Addr := if c = lo then a else a.map (·.add (lo * sz))
theorem run_sl {P : Program} {T E : TypeId} {sz by' : Nat} [hT : SlT P T E sz by'] (w : World) (a : Option Addr) (n c lo hi : Nat) (vlo vhi : Option Value) (h1 : lo ≤ hi) (h2 : hi ≤ c)
    (hlo : vlo = none ∧ lo = 0 ∨ ∃ k, vlo = some (.int k (lo : Int))) (hhi : vhi = none ∧ hi = n ∨ ∃ k, vhi = some (.int k (hi : Int))) :
    (Instr.sliceAt T (.slice a n c) vlo vhi none).run P w = .ok (.slice (sl a c lo sz) (hi - lo) (c - lo)) w := by
  obtain ⟨i, z, i1, i2, i3, i4, i5⟩ := hT.info
  have hb : (Instr.sliceBounds true n c vlo vhi none).run P w = .ok (lo, hi, c) w := by
    unfold Instr.sliceBounds
    rcases hlo with ⟨rfl, rfl⟩ | ⟨k, rfl⟩ <;> rcases hhi with ⟨rfl, rfl⟩ | ⟨k', rfl⟩ <;> simp [Instr.sliceBound, asIntOf, h1, h2]
  simp [Instr.sliceAt, Instr.slice, run_underlying hT.und, hb, sizeOf, typeInfo, i1, i3, sl]
theorem y_slF {x lo : Operand} {T E : TypeId} {sz by' : Nat} [hT : SlT P T E sz by'] {a : Option Addr} {n c k : Nat} {kk : IntKind} (hx : ev l x = some (.slice a n c)) (hlo : ev l lo = some (.int kk (k : Int))) (hk : k ≤ n ∧ n ≤ c) :
    Y P S ⟨d, .slice T x (some lo) none none, ty, pos, af, g⟩ l (.slice (sl a c k sz) (n - k) (c - k)) := .mk fun w _ ρ hρ => by
  have := run_sl (P := P) (T := T) w a n c k n (some (.int kk (k : Int))) none hk.1 hk.2 (.inr ⟨kk, rfl⟩) (.inl ⟨rfl, rfl⟩)
  simp [execOp, hρ _ _ hx, hρ _ _ hlo, this]
theorem y_slT {x hi : Operand} {T E : TypeId} {sz by' : Nat} [hT : SlT P T E sz by'] {a : Option Addr} {n c k : Nat} {kk : IntKind} (hx : ev l x = some (.slice a n c)) (hhi : ev l hi = some (.int kk (k : Int))) (hk : k ≤ c) :
    Y P S ⟨d, .slice T x none (some hi) none, ty, pos, af, g⟩ l (.slice a k c) := .mk fun w _ ρ hρ => by
  have := run_sl (P := P) (T := T) w a n c 0 k none (some (.int kk (k : Int))) (Nat.zero_le _) hk (.inl ⟨rfl, rfl⟩) (.inr ⟨kk, rfl⟩)
  have hs : sl a c 0 sz = a := by
    unfold sl
    split
    · rfl
    · cases a <;> simp [Addr.add]
  rw [hs] at this
  simp [execOp, hρ _ _ hx, hρ _ _ hhi, this]
theorem y_slB {x lo hi : Operand} {T E : TypeId} {sz by' : Nat} [hT : SlT P T E sz by'] {a : Option Addr} {n c j k : Nat} {kk kl : IntKind} (hx : ev l x = some (.slice a n c)) (hlo : ev l lo = some (.int kl (j : Int))) (hhi : ev l hi = some (.int kk (k : Int))) (hk : j ≤ k ∧ k ≤ c) :
    Y P S ⟨d, .slice T x (some lo) (some hi) none, ty, pos, af, g⟩ l (.slice (sl a c j sz) (k - j) (c - j)) := .mk fun w _ ρ hρ => by
  have := run_sl (P := P) (T := T) w a n c j k (some (.int kl (j : Int))) (some (.int kk (k : Int))) hk.1 hk.2 (.inr ⟨kl, rfl⟩) (.inr ⟨kk, rfl⟩)
  simp [execOp, hρ _ _ hx, hρ _ _ hlo, hρ _ _ hhi, this]
end
/-- A part of a slice of bytes reads as that part. -/
theorem By.sl {w : World} {a : Option Addr} {c : Nat} {xs : Bs} (h : By w a c xs) {j k : Nat} (hj : j ≤ k) (hk : k ≤ xs.length) : By w (Sx.sl a c j 1) (c - j) ((xs.take k).drop j) := by
  have hl : ((xs.take k).drop j).length = k - j := by simp; omega
  have hle := h.le
  have hcap := h.cap
  refine ⟨by rw [hl]; omega, by omega, ?_, ?_⟩
  · intro e
    unfold Sx.sl at e
    split at e
    · omega
    · cases a with
      | none => have := h.nil rfl; omega
      | some ad => cases e
  · intro ad e
    unfold Sx.sl at e
    split at e
    · rename_i hc
      have : (xs.take k).drop j = [] := List.eq_nil_of_length_eq_zero (by omega)
      rw [this]
      intro i v hv; simp at hv
    · cases a with
      | none => cases e
      | some ad0 =>
        simp only [Option.map_some, Option.some.injEq, Nat.mul_one] at e
        subst e
        intro i v hv
        rw [add_add]
        refine h.cells ad0 rfl _ _ ?_
        simp only [List.map_drop, List.map_take, List.getElem?_drop, List.getElem?_take] at hv
        split at hv
        · exact hv
        · cases hv
/-- The beginning of a slice of bytes. -/
theorem By.take {w : World} {a : Option Addr} {c : Nat} {xs : Bs} (h : By w a c xs) {k : Nat} (hk : k ≤ xs.length) : By w a c (xs.take k) := by
  have hle := h.le
  refine ⟨by simp; omega, h.cap, h.nil, ?_⟩
  intro ad e i v hv
  refine h.cells ad e i v ?_
  simp only [List.map_take, List.getElem?_take] at hv
  split at hv
  · exact hv
  · cases hv
theorem By.drop {w : World} {a : Option Addr} {c : Nat} {xs : Bs} (h : By w a c xs) {j : Nat} (hj : j ≤ xs.length) : By w (Sx.sl a c j 1) (c - j) (xs.drop j) := by
  have := h.sl hj (Nat.le_refl _)
  rwa [List.take_length] at this

/-! ### Strings -/
def str (xs : Bs) : Value := .string ⟨xs.toArray⟩
section
variable {P : Program} {S : World → Prop} {l : List (Nat × Value)} {d : Option Tmp} {ty : TypeId} {pos : String} {af : Array Edge} {g : Option (Nat × Bool)}
theorem y_str {x : Operand} {T U : TypeId} [hT : ByT P T] [hU : StT P U] {a : Option Addr} {c : Nat} {xs : Bs} (hx : ev l x = some (.slice a xs.length c)) (hb : ∀ w, S w → By w a c xs) :
    Y P S ⟨d, .convert T U x, ty, pos, af, g⟩ l (str xs) := .mk fun w hw ρ hρ => by
  obtain ⟨e, h1, h2⟩ := hT.und
  have hb := hb w hw
  cases a with
  | none =>
    have := hb.nil rfl
    have := hb.le
    obtain rfl : xs = [] := List.eq_nil_of_length_eq_zero (by omega)
    simp [execOp, hρ _ _ hx, convert, run_underlying h1, run_underlying hU.und, run_underlying h2, Conv.bytesToString, str]
    rfl
  | some ad =>
    have := run_convert_bytes_back (P := P) w T U e ad c xs h1 h2 hU.und (fun j hj => hb.cells ad rfl j _ (by simp [hj, bv]))
    simp [execOp, hρ _ _ hx, this, str]
theorem y_seq {x y : Operand} {T U : TypeId} {xs ys : Bs} (hx : ev l x = some (str xs)) (hy : ev l y = some (str ys)) :
    Y P S ⟨d, .binOp .eql T x y U, ty, pos, af, g⟩ l (.bool (decide (xs = ys))) := .mk fun w _ ρ hρ => by
  simp only [execOp, hρ _ _ hx, hρ _ _ hy, str, eqGuard_at_string]
  simp [binOp, Op.stringOp]
  rw [Bool.eq_iff_iff]; simp
theorem y_sne {x y : Operand} {T U : TypeId} {xs ys : Bs} (hx : ev l x = some (str xs)) (hy : ev l y = some (str ys)) :
    Y P S ⟨d, .binOp .neq T x y U, ty, pos, af, g⟩ l (.bool (!decide (xs = ys))) := .mk fun w _ ρ hρ => by
  simp only [execOp, hρ _ _ hx, hρ _ _ hy, str, eqGuard_at_string]
  simp [binOp, Op.stringOp]
  rw [Bool.eq_iff_iff]; simp
theorem y_slt {x y : Operand} {T U : TypeId} {xs ys : Bs} (hx : ev l x = some (str xs)) (hy : ev l y = some (str ys)) :
    Y P S ⟨d, .binOp .lss T x y U, ty, pos, af, g⟩ l (.bool (decide (cmp xs ys < 0))) := .mk fun w _ ρ hρ => by
  simp only [execOp, hρ _ _ hx, hρ _ _ hy, str, eqGuard_at_string]
  simp [binOp, Op.stringOp, bytesLess_cmp]
theorem y_sle {x y : Operand} {T U : TypeId} {xs ys : Bs} (hx : ev l x = some (str xs)) (hy : ev l y = some (str ys)) :
    Y P S ⟨d, .binOp .leq T x y U, ty, pos, af, g⟩ l (.bool (decide (cmp xs ys ≤ 0))) := .mk fun w _ ρ hρ => by
  simp only [execOp, hρ _ _ hx, hρ _ _ hy, str, eqGuard_at_string]
  have : (decide (cmp xs ys < 0) || xs == ys) = decide (cmp xs ys ≤ 0) := by
    have := cmp_eq xs ys
    rw [Bool.eq_iff_iff]; simp only [Bool.or_eq_true, decide_eq_true_eq, beq_iff_eq, ← this]; omega
  simp [binOp, Op.stringOp, bytesLess_cmp, this]
theorem y_sgt {x y : Operand} {T U : TypeId} {xs ys : Bs} (hx : ev l x = some (str xs)) (hy : ev l y = some (str ys)) :
    Y P S ⟨d, .binOp .gtr T x y U, ty, pos, af, g⟩ l (.bool (decide (0 < cmp xs ys))) := .mk fun w _ ρ hρ => by
  simp only [execOp, hρ _ _ hx, hρ _ _ hy, str, eqGuard_at_string]
  have : (!(decide (cmp xs ys < 0) || xs == ys)) = decide (0 < cmp xs ys) := by
    have := cmp_eq xs ys
    rw [Bool.eq_iff_iff]; simp only [Bool.not_eq_true', Bool.or_eq_false_iff, decide_eq_false_iff_not, decide_eq_true_eq, beq_eq_false_iff_ne, ne_eq, ← this]; omega
  simp only [binOp, Op.stringOp, ByteArray.toList_mk, bytesLess_cmp, this, Sem.run_bind, Sem.run_pure, Result.andThen_ok]
theorem y_sge {x y : Operand} {T U : TypeId} {xs ys : Bs} (hx : ev l x = some (str xs)) (hy : ev l y = some (str ys)) :
    Y P S ⟨d, .binOp .geq T x y U, ty, pos, af, g⟩ l (.bool (decide (0 ≤ cmp xs ys))) := .mk fun w _ ρ hρ => by
  simp only [execOp, hρ _ _ hx, hρ _ _ hy, str, eqGuard_at_string]
  have : (!(decide (cmp xs ys < 0))) = decide (0 ≤ cmp xs ys) := by
    rw [Bool.eq_iff_iff]; simp
  simp only [binOp, Op.stringOp, ByteArray.toList_mk, bytesLess_cmp, this, Sem.run_bind, Sem.run_pure, Result.andThen_ok]
end

/-! ### nil, results that lie in memory -/
section
variable {P : Program} {S : World → Prop} {l : List (Nat × Value)} {d : Option Tmp} {ty : TypeId} {pos : String} {af : Array Edge} {g : Option (Nat × Bool)}
theorem run_slnil {P : Program} {T E : TypeId} {sz b : Nat} [h : SlT P T E sz b] (w : World) (a : Option Addr) (k c : Nat) : (Op.equal T (.slice a k c) (.slice none 0 0)).run P w = .ok a.isNone w := by
  exact run_equal_slice_nil w T E a k c h.und
theorem y_eqnil {x : Operand} {T E U : TypeId} {sz b : Nat} [h : SlT P T E sz b] {a : Option Addr} {k c : Nat} (hx : ev l x = some (.slice a k c)) :
    Y P S ⟨d, .binOp .eql T x (.const (.slice none 0 0)) U, ty, pos, af, g⟩ l (.bool a.isNone) := .mk fun w _ ρ hρ => by
  have h2 := hρ (.const (.slice none 0 0)) _ rfl
  simp [execOp, hρ _ _ hx, h2, eqGuard_at_slice, binOp, run_slnil]
theorem y_nenil {x : Operand} {T E U : TypeId} {sz b : Nat} [h : SlT P T E sz b] {a : Option Addr} {k c : Nat} (hx : ev l x = some (.slice a k c)) :
    Y P S ⟨d, .binOp .neq T x (.const (.slice none 0 0)) U, ty, pos, af, g⟩ l (.bool (!a.isNone)) := .mk fun w _ ρ hρ => by
  have h2 := hρ (.const (.slice none 0 0)) _ rfl
  simp [execOp, hρ _ _ hx, h2, eqGuard_at_slice, binOp, run_slnil]
theorem y_index0 {x i : Operand} {T E : TypeId} {sz b : Nat} [h : SlT P T E sz b] {a : Addr} {n c : Nat} {k : IntKind}
    (hx : ev l x = some (.slice (some a) n c)) (hi : ev l i = some (.int k 0)) (hj : 0 < n) :
    Y P S ⟨d, .indexAddr T x i, ty, pos, af, g⟩ l (.pointer (some (a.add (0 * sz)))) := y_index (j := 0) hx hi hj
theorem y_index1 {x i : Operand} {T E : TypeId} {sz b : Nat} [h : SlT P T E sz b] {a : Addr} {n c : Nat} {k : IntKind}
    (hx : ev l x = some (.slice (some a) n c)) (hi : ev l i = some (.int k 1)) (hj : 1 < n) :
    Y P S ⟨d, .indexAddr T x i, ty, pos, af, g⟩ l (.pointer (some (a.add (1 * sz)))) := y_index (j := 1) hx hi hj
theorem y_index2 {x i : Operand} {T E : TypeId} {sz b : Nat} [h : SlT P T E sz b] {a : Addr} {n c : Nat} {k : IntKind}
    (hx : ev l x = some (.slice (some a) n c)) (hi : ev l i = some (.int k 2)) (hj : 2 < n) :
    Y P S ⟨d, .indexAddr T x i, ty, pos, af, g⟩ l (.pointer (some (a.add (2 * sz)))) := y_index (j := 2) hx hi hj
theorem y_index3 {x i : Operand} {T E : TypeId} {sz b : Nat} [h : SlT P T E sz b] {a : Addr} {n c : Nat} {k : IntKind}
    (hx : ev l x = some (.slice (some a) n c)) (hi : ev l i = some (.int k 3)) (hj : 3 < n) :
    Y P S ⟨d, .indexAddr T x i, ty, pos, af, g⟩ l (.pointer (some (a.add (3 * sz)))) := y_index (j := 3) hx hi hj
theorem y_cap {x : Operand} {T E : TypeId} {sz b : Nat} [h : SlT P T E sz b] {a : Option Addr} {k c : Nat} (hx : ev l x = some (.slice a k c)) :
    Y P S ⟨d, .call { callee := .builtin .cap, args := #[x], argTypes := #[T] }, ty, pos, af, g⟩ l (.int .i64 c) := .mk fun w _ ρ hρ => by
  simp [execOp, hρ _ _ hx, resolve, invoke, builtin, Builtin.cap_, run_underlying h.und, goInt]
theorem y_ext {x : Operand} {i : Nat} {vs : List Value} {v : Value} (hx : ev l x = some (.tuple vs.toArray)) (hv : vs[i]? = some v) :
    Y P S ⟨d, .extract x i, ty, pos, af, g⟩ l v := .mk fun w _ ρ hρ => by
  simp [execOp, hρ _ _ hx, Instr.extract, hv]
/-- A byte as an int. -/
theorem wrap_byte (x : UInt8) : IntKind.i64.wrap (x.toNat : Int) = ((x.toNat : Nat) : Int) := IntWalk.i64_in _ (by have := x.toNat_lt; omega)
theorem y_b2i {x : Operand} {T U : TypeId} {a : UInt8} [hT : InT P T .u8] [hU : InT P U .i64] (hx : ev l x = some (bv a)) :
    Y P S ⟨d, .convert T U x, ty, pos, af, g⟩ l (.int .i64 (a.toNat : Nat)) := by
  have := y_conv (P := P) (S := S) (d := d) (ty := ty) (pos := pos) (af := af) (g := g) (T := T) (U := U) (k := .i64) hx
  rwa [wrap_byte] at this
end
section
variable {P : Program} {fn : Func} {R : Value → World → Prop} {n : Nat} {l : List (Nat × Value)} {w : World}
theorem q_retc {t : Tmp} {T : TypeId} {sz : Nat} [h : AgT P T sz] {k U : Nat} {vs : List Value} (hr : fn.results = #[.cell t T]) (hl : look l t = some (.pointer (some ⟨k, 0, none⟩))) (hB : HB w k U vs) (hz : vs.length = sz)
    (hR : R (.agg vs.toArray) w) : QJ n [] (bodyPost P fn (RetR R)) .ret l w := .mk fun a ha => by
  subst hz
  have := run_loadCells_list (P := P) (w := w) ⟨k, 0, none⟩ vs hB.cells
  exact ⟨ha.defers, .agg vs.toArray, by simp [results, hr, Array.getD_eq_getD_getElem?, ha.has _ _ hl, asAddr, loadVar, h.agg, h.size, this], _, rfl, hR⟩
end
/-! ### Structs that are written out -/
/-- A struct's cells with parts laid in. -/
def bld (offs : List Nat) : List Value → List (Nat × Value) → List Value
  | zs, [] => zs
  | zs, (i, v) :: r => bld offs (zs.set (offs.getD i 0) v) r
section
variable {P : Program} {S : World → Prop} {l : List (Nat × Value)} {d : Option Tmp} {ty : TypeId} {pos : String} {af : Array Edge} {g : Option (Nat × Bool)}
/-- Values of parts, in their order. -/
def evb (l : List (Nat × Value)) : List (Nat × Operand) → Option (List (Nat × Value))
  | [] => some []
  | (i, x) :: r => match ev l x, evb l r with
    | some v, some vs => some ((i, v) :: vs)
    | _, _ => none
theorem evb_spec {ρ : Operand → Value} (hρ : Agr l ρ) : ∀ {ps : List (Nat × Operand)} {vs : List (Nat × Value)}, evb l ps = some vs → ps.map (fun x => (x.1, ρ x.2)) = vs
  | [], vs, h => by simp [evb] at h; subst h; rfl
  | (i, x) :: r, vs, h => by
    unfold evb at h
    split at h
    · rename_i v us h1 h2
      simp only [Option.some.injEq] at h
      subst h
      simp [hρ _ _ h1, evb_spec hρ h2]
    · cases h
/-- The built struct, by a closed fact on its type. -/
theorem y_build {T : TypeId} {ps : List (Nat × Operand)} {vals : List (Nat × Value)} {cs : List Value} (hp : evb l ps = some vals) (hr : ∀ w, (Instr.build T vals.toArray).run P w = .ok (.agg cs.toArray) w) :
    Y P S ⟨d, .build T ps.toArray, ty, pos, af, g⟩ l (.agg cs.toArray) := .mk fun w _ ρ hρ => by
  have := evb_spec hρ hp
  simp [execOp, this, hr]
end
end Go.Sx
