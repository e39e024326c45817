/- The second layer, part five: bundles of steps, each written once. -/
import Derived.Test.YtbkaabjjmoaijaaSyD
import Derived.Test.YtbkaabjjmoaijaaSxO
import Derived.Laws.Small
import Derived.Laws.Tables
namespace Go.Sx
open Go
section
variable {P : Program} {S : World → Prop} {l : List (Nat × Value)} {d : Option Tmp} {ty : TypeId} {pos : String} {af : Array Edge} {g : Option (Nat × Bool)}
theorem y_max {x y : Operand} {T U : TypeId} {a b : Int} (hx : ev l x = some (.int .i64 a)) (hy : ev l y = some (.int .i64 b)) :
    Y P S ⟨d, .call { callee := .builtin .max, args := #[x, y], argTypes := #[T, U] }, ty, pos, af, g⟩ l (.int .i64 (max a b)) := .mk fun w _ ρ hρ => by
  have : (if a < b then b else a) = max a b := by split <;> omega
  simp only [execOp, resolve, invoke, builtin, List.map_toArray, List.map_cons, List.map_nil, hρ _ _ hx, hρ _ _ hy, Builtin.max_, ← this]
  rfl
theorem bv_ofInt (a : Int) : bv (UInt8.ofInt a) = .int .u8 (IntKind.u8.wrap a) := by
  have h : (UInt8.ofInt a).toNat = (a % 256).toNat := by simp [UInt8.ofInt]; omega
  simp only [bv, h, IntKind.wrap, IntKind.bits, IntKind.signed]
  simp
  omega
theorem y_i2b {x : Operand} {T U : TypeId} {k' : IntKind} {a : Int} [hT : InT P T k'] [hU : InT P U .u8] (hx : ev l x = some (.int k' a)) :
    Y P S ⟨d, .convert T U x, ty, pos, af, g⟩ l (bv (UInt8.ofInt a)) := by
  have := y_conv (P := P) (S := S) (d := d) (ty := ty) (pos := pos) (af := af) (g := g) (T := T) (U := U) (k := .u8) hx
  rwa [← bv_ofInt] at this
/-- A conversion that changes no number. -/
theorem y_cv {x : Operand} {T U : TypeId} {k' : IntKind} {a : Int} [hT : InT P T k'] [hU : InT P U .i64] (hx : ev l x = some (.int k' a)) (h : -9223372036854775808 ≤ a ∧ a ≤ 9223372036854775807) :
    Y P S ⟨d, .convert T U x, ty, pos, af, g⟩ l (.int .i64 a) := by
  have := y_conv (P := P) (S := S) (d := d) (ty := ty) (pos := pos) (af := af) (g := g) (T := T) (U := U) (k := .i64) hx
  rwa [IntWalk.i64_in a h] at this
theorem y_cvu {x : Operand} {T U : TypeId} {k' : IntKind} {a : Int} [hT : InT P T k'] [hU : InT P U .u64] (hx : ev l x = some (.int k' a)) (h : 0 ≤ a ∧ a ≤ 18446744073709551615) :
    Y P S ⟨d, .convert T U x, ty, pos, af, g⟩ l (.int .u64 a) := by
  have := y_conv (P := P) (S := S) (d := d) (ty := ty) (pos := pos) (af := af) (g := g) (T := T) (U := U) (k := .u64) hx
  have e : IntKind.u64.wrap a = a := by simp [IntKind.wrap, IntKind.bits, IntKind.signed]; omega
  rwa [e] at this
theorem y_pickT {c x y : Operand} {u v : Value} (hc : ev l c = some (.bool true)) (hx : ev l x = some u) (hy : ev l y = some v) : Y P S ⟨d, .pick c x y, ty, pos, af, g⟩ l u := y_pick (t := true) hc hx hy
theorem y_pickF {c x y : Operand} {u v : Value} (hc : ev l c = some (.bool false)) (hx : ev l x = some u) (hy : ev l y = some v) : Y P S ⟨d, .pick c x y, ty, pos, af, g⟩ l v := y_pick (t := false) hc hx hy
/-- Of the same number twice. -/
theorem y_eqls {x y : Operand} {T U : TypeId} {k : IntKind} {a b : Int} (hx : ev l x = some (.int k a)) (hy : ev l y = some (.int k b)) (he : a = b) : Y P S ⟨d, .binOp .eql T x y U, ty, pos, af, g⟩ l (.bool true) := by
  subst he
  have := y_eql (P := P) (S := S) (l := l) (d := d) (ty := ty) (pos := pos) (af := af) (g := g) (T := T) (U := U) hx hy
  rwa [decide_eq_true (rfl : a = a)] at this
theorem y_nels {x y : Operand} {T U : TypeId} {k : IntKind} {a b : Int} (hx : ev l x = some (.int k a)) (hy : ev l y = some (.int k b)) (he : a = b) : Y P S ⟨d, .binOp .neq T x y U, ty, pos, af, g⟩ l (.bool false) := by
  subst he
  have := y_neq (P := P) (S := S) (l := l) (d := d) (ty := ty) (pos := pos) (af := af) (g := g) (T := T) (U := U) hx hy
  rwa [decide_eq_true (rfl : a = a)] at this
theorem y_seqs {x y : Operand} {T U : TypeId} {a b : Bs} (hx : ev l x = some (str a)) (hy : ev l y = some (str b)) (he : a = b) : Y P S ⟨d, .binOp .eql T x y U, ty, pos, af, g⟩ l (.bool true) := by
  subst he
  have := y_seq (P := P) (S := S) (l := l) (d := d) (ty := ty) (pos := pos) (af := af) (g := g) (T := T) (U := U) hx hy
  rwa [decide_eq_true (rfl : a = a)] at this
theorem y_snes {x y : Operand} {T U : TypeId} {a b : Bs} (hx : ev l x = some (str a)) (hy : ev l y = some (str b)) (he : a = b) : Y P S ⟨d, .binOp .neq T x y U, ty, pos, af, g⟩ l (.bool false) := by
  subst he
  have := y_sne (P := P) (S := S) (l := l) (d := d) (ty := ty) (pos := pos) (af := af) (g := g) (T := T) (U := U) hx hy
  rwa [decide_eq_true (rfl : a = a)] at this
theorem y_sadd {x y : Operand} {T U : TypeId} {xs ys : Bs} (hx : ev l x = some (str xs)) (hy : ev l y = some (str ys)) (h : xs.length + ys.length ≤ 9223372036854775807) :
    Y P S ⟨d, .binOp .add T x y U, ty, pos, af, g⟩ l (str (xs ++ ys)) := .mk fun w _ ρ hρ => by
  have e : (⟨xs.toArray⟩ : ByteArray) ++ ⟨ys.toArray⟩ = ⟨(xs ++ ys).toArray⟩ := by
    apply ByteArray.ext
    simp
  simp only [execOp, hρ _ _ hx, hρ _ _ hy, str, binOp, Op.stringOp]
  simp [eqGuard, e, ByteArray.size]
  omega
theorem y_beq {x y : Operand} {T U : TypeId} [hT : BoT P T] {a b : Bool} (hx : ev l x = some (.bool a)) (hy : ev l y = some (.bool b)) :
    Y P S ⟨d, .binOp .eql T x y U, ty, pos, af, g⟩ l (.bool (a == b)) := .mk fun w _ ρ hρ => by
  have := run_equal_bool (P := P) (w := w) T a b hT.und
  simp [execOp, hρ _ _ hx, hρ _ _ hy, eqGuard, binOp, this]
theorem y_bne {x y : Operand} {T U : TypeId} [hT : BoT P T] {a b : Bool} (hx : ev l x = some (.bool a)) (hy : ev l y = some (.bool b)) :
    Y P S ⟨d, .binOp .neq T x y U, ty, pos, af, g⟩ l (.bool (a != b)) := .mk fun w _ ρ hρ => by
  have := run_equal_bool (P := P) (w := w) T a b hT.und
  simp [execOp, hρ _ _ hx, hρ _ _ hy, eqGuard, binOp, this]
  cases a <;> cases b <;> rfl
end
section
variable {w0 : World} {H : List Ck} {α : Type} [Cel α] {ad : Addr} {c : Nat}
omit [Cel α] in
theorem Rc.sl' {_i : Cel α} {sz : Nat} {xs : List α} (h : RSl w0 H (some ad) c xs) {i : Nat} {x : α} (hx : xs[i]? = some x) {v : Value} (hz : sz = Cel.sz α) (hv : (Cel.f x)[0]? = some v) : Rc w0 H (ad.add (i * sz)) v := by subst hz; exact Rc.sl h hx hv
omit [Cel α] in
theorem Rc.slo' {_i : Cel α} {sz : Nat} {xs : List α} (h : RSl w0 H (some ad) c xs) {i o : Nat} {x : α} (hx : xs[i]? = some x) {v : Value} (hz : sz = Cel.sz α) (hv : (Cel.f x)[o]? = some v) : Rc w0 H ((ad.add (i * sz)).add o) v := by subst hz; exact Rc.slo h hx hv
omit [Cel α] in
theorem RcA.sl' {_i : Cel α} {sz : Nat} {xs : List α} (h : RSl w0 H (some ad) c xs) {i : Nat} {x : α} (hx : xs[i]? = some x) (hz : sz = Cel.sz α) : RcA w0 H (ad.add (i * sz)) (Cel.f x) := by subst hz; exact RcA.sl h hx
end
/-- A variable's block among the pieces. -/
def RcH (w0 : World) (H : List Ck) (b : Nat) (vs : List Value) : Prop := RcA w0 H ⟨b, 0, none⟩ vs
section
variable {w0 : World} {H : List Ck} {b o : Nat} {vs : List Value} {v : Value}
theorem RcH.hd {T : TypeId} : RcH w0 (.hb b T vs :: H) b vs := RcA.hb
theorem RcH.tl {d : Ck} (h : RcH w0 H b vs) : RcH w0 (d :: H) b vs := RcA.tl h
theorem Rc.hbS0 (h : RcH w0 H b vs) (hv : vs[0]? = some v) : Rc w0 H ⟨b, 0, none⟩ v := fun w hs => h w hs 0 v hv
theorem Rc.hbS (h : RcH w0 H b vs) (hv : vs[o]? = some v) : Rc w0 H ((⟨b, 0, none⟩ : Addr).add o) v := fun w hs => h w hs o v hv
theorem RcA.hbS0 (h : RcH w0 H b vs) : RcA w0 H ⟨b, 0, none⟩ vs := h
theorem RcA.hbS {n : Nat} (h : RcH w0 H b vs) : RcA w0 H ((⟨b, 0, none⟩ : Addr).add o) ((vs.drop o).take n) := fun w hs i v hv => by
  rw [add_add]
  refine h w hs (o + i) v ?_
  simp only [List.getElem?_take, List.getElem?_drop] at hv
  split at hv
  · exact hv
  · cases hv
end
section
variable {P : Program} {l : List (Nat × Value)} {d : Option Tmp} {ty : TypeId} {pos : String} {af : Array Edge} {g : Option (Nat × Bool)} {w0 : World} {H : List Ck}
/-- A struct within a variable. -/
theorem y_ldS {x : Operand} {T : TypeId} {sz b o : Nat} {vs : List Value} [h : AgT P T sz] (hx : ev l x = some (.pointer (some ((⟨b, 0, none⟩ : Addr).add o)))) (hc : RcH w0 H b vs) (hl : ((vs.drop o).take sz).length = sz) :
    Y P (Sat w0 H) ⟨d, .load T x, ty, pos, af, g⟩ l (.agg ((vs.drop o).take sz).toArray) := y_ldA hx (RcA.hbS hc) hl
end
/-! Structs that are built of parts. -/
def plOf (P : Program) (T : TypeId) : Option (List Value × List (Nat × Nat)) :=
  match P.info? T, P.underlying T with
  | some it, some (.struct fields) => match it.zero, fields.toList.mapM (fun f => (P.info? f.type).map fun i => (f.offset, i.size)) with
    | some z, some pl => some (z.cells.toList, pl)
    | _, _ => none
  | _, _ => none
class BuT (P : Program) (T : TypeId) (zs : outParam (List Value)) (pl : outParam (List (Nat × Nat))) : Prop where
  h : plOf P T = some (zs, pl)
def bldL (pl : List (Nat × Nat)) : List Value → List (Nat × Value) → List Value
  | zs, [] => zs
  | zs, (i, v) :: r => match pl[i]? with
    | some (off, _) => bldL pl (lay zs off v.cells.toList) r
    | none => zs
def bldOk (pl : List (Nat × Nat)) (n : Nat) : List (Nat × Value) → Bool
  | [] => true
  | (i, v) :: r => match pl[i]? with
    | some (off, sz) => Nat.beq v.cells.size sz && Nat.ble (off + sz) n && bldOk pl n r
    | none => false
theorem lay_length (zs : List Value) (off : Nat) (cs : List Value) (h : off + cs.length ≤ zs.length) : (lay zs off cs).length = zs.length := by
  simp [lay]; omega
theorem fill_bld (pl : List (Nat × Nat)) : ∀ (vals : List (Nat × Value)) (zs : List Value), bldOk pl zs.length vals = true → Instr.fill (fun x => pl.toArray[x]?) zs.toArray vals = some (bldL pl zs vals).toArray
  | [], zs, _ => rfl
  | (i, v) :: r, zs, h => by
    unfold bldOk at h
    split at h
    · rename_i off sz hp
      simp only [Bool.and_eq_true] at h
      have h1 := Nat.eq_of_beq_eq_true h.1.1
      have h2 := Nat.le_of_ble_eq_true h.1.2
      have hl : off + v.cells.toList.length ≤ zs.length := by rw [Array.length_toList, h1]; exact h2
      have hf : (v.cells.zipIdx.foldl (fun (cs : Array Value) (x : Value × Nat) => cs.setIfInBounds (off + x.2) x.1) zs.toArray) = (lay zs off v.cells.toList).toArray := by
        have := foldl_set v.cells.toList (zs.take off) ((zs.drop off).take v.cells.toList.length) (zs.drop (off + v.cells.toList.length)) (by simp; rw [Array.length_toList] at hl; omega) 0
        simp only [Nat.not_lt_zero, or_false, Nat.sub_zero] at this
        have e1 : (zs.take off).length = off := by simp; omega
        have e2 : zs.take off ++ (zs.drop off).take v.cells.toList.length ++ zs.drop (off + v.cells.toList.length) = zs := by
          rw [List.append_assoc, ← List.drop_drop, List.take_append_drop, List.take_append_drop]
        rw [e1, e2] at this
        rw [lay, ← this, ← Array.foldl_toList, Array.toList_zipIdx]
      have hn : ¬ (v.cells.size ≠ sz ∨ off + v.cells.size > zs.toArray.size) := by simp; omega
      simp only [Instr.fill, List.getElem?_toArray, hp, bldL]
      have hc : (v.cells.size ≠ sz || decide (off + v.cells.size > zs.toArray.size)) = false := by simp; omega
      simp only [hc]
      have hf' := hf
      simp only [Bool.false_eq_true, if_false]
      rw [show (v.cells.zipIdx.foldl (fun cs x => match x with | (c, j) => cs.setIfInBounds (off + j) c) zs.toArray) = (lay zs off v.cells.toList).toArray from hf]
      simpa using fill_bld pl r _ (by rw [lay_length _ _ _ hl]; exact h.2)
    · cases h
section
variable {P : Program} {S : World → Prop} {l : List (Nat × Value)} {d : Option Tmp} {ty : TypeId} {pos : String} {af : Array Edge} {g : Option (Nat × Bool)}
theorem y_bld {T : TypeId} {zs : List Value} {pl : List (Nat × Nat)} [hT : BuT P T zs pl] {ps : List (Nat × Operand)} {vals : List (Nat × Value)} (hp : evb l ps = some vals) (hok : bldOk pl zs.length vals = true) :
    Y P S ⟨d, .build T ps.toArray, ty, pos, af, g⟩ l (.agg (bldL pl zs vals).toArray) :=
  y_build hp fun w => run_build w T _ _ (by
    have h := hT.h
    unfold plOf at h
    split at h
    · rename_i it fields h1 h2
      split at h
      · rename_i z pl' h3 h4
        simp only [Option.some.injEq, Prod.mk.injEq] at h
        obtain ⟨rfl, rfl⟩ := h
        unfold Program.built
        simp only [h1, h2, h3, h4]
        have := fill_bld pl' vals z.cells.toList hok
        simpa using this
      · cases h
    · cases h)
end
/-- Where a slice lies that is not nil. -/
def gA (a : Option Addr) : Addr := a.getD ⟨0, 0, none⟩
section
variable {P : Program} {l : List (Nat × Value)} {d : Option Tmp} {ty : TypeId} {pos : String} {af : Array Edge} {g : Option (Nat × Bool)} {w0 : World} {H : List Ck} {α : Type} [Cel α] {a : Option Addr} {c : Nat}
theorem rsl_gA {xs : List α} (h : RSl w0 H a c xs) (hx : 0 < xs.length) {w : World} (hs : Sat w0 H w) : a = some (Sx.gA a) := by
  obtain ⟨ad, rfl⟩ := RSl.some h hx w hs
  rfl
/-- A slice of n things that is no nil if there are some. -/
def RLn (w0 : World) (H : List Ck) (a : Option Addr) (n : Nat) : Prop := ∀ w, Sat w0 H w → 0 < n → a = some (gA a)
theorem RLn.tl {k : Ck} {n : Nat} (h : RLn w0 H a n) : RLn w0 (k :: H) a n := fun w hs => h w hs.tl
omit [Cel α] in
theorem RLn.sl {_i : Cel α} {xs : List α} (h : RSl w0 H a c xs) : RLn w0 H a xs.length := fun _ hs hn => rsl_gA h hn hs
theorem RLn.by {xs : List UInt8} (h : RBy w0 H a c xs) : RLn w0 H a xs.length := fun _ hs hn => rsl_gA h.sl' hn hs
theorem RLn.en {xs : List KV} (h : REn w0 H a c xs) : RLn w0 H a xs.length := fun _ hs hn => rsl_gA h.sl' hn hs
omit [Cel α] in
theorem RLn.slw {_i : Cel α} {n : Nat} {xs : List α} (h : RSl w0 H a c xs) (hn : n ≤ xs.length) : RLn w0 H a n := fun _ hs h0 => rsl_gA h (by omega) hs
theorem RLn.byw {n : Nat} {xs : List UInt8} (h : RBy w0 H a c xs) (hn : n ≤ xs.length) : RLn w0 H a n := fun _ hs h0 => rsl_gA h.sl' (by omega) hs
theorem RLn.enw {n : Nat} {xs : List KV} (h : REn w0 H a c xs) (hn : n ≤ xs.length) : RLn w0 H a n := fun _ hs h0 => rsl_gA h.sl' (by omega) hs
theorem RLn.hd {E sz n : Nat} {cs : List Value} : RLn w0 (.own E sz a n c cs :: H) a n := fun _ hs hn => by
  have h := Sat.ownOf (c' := .own E sz a n c cs) .hd hs
  rcases h.open with ⟨_, h0, _⟩ | ⟨g, _, rfl, _⟩
  · omega
  · rfl
theorem y_ixg {x i : Operand} {T E : TypeId} {sz b n : Nat} [hT : SlT P T E sz b] {k : IntKind} {j : Nat} (hx : ev l x = some (.slice a n c)) (hi : ev l i = some (.int k j)) (h : RLn w0 H a n) (hj : j < n) :
    Y P (Sat w0 H) ⟨d, .indexAddr T x i, ty, pos, af, g⟩ l (.pointer (some ((gA a).add (j * sz)))) := .mk fun w hs ρ hρ => by
  have e := h w hs (by omega)
  rw [e] at hx
  exact (y_index (P := P) (S := Sat w0 H) hx hi hj).out w hs ρ hρ
theorem y_ixg0 {x i : Operand} {T E : TypeId} {sz b n : Nat} [hT : SlT P T E sz b] {k : IntKind} (hx : ev l x = some (.slice a n c)) (hi : ev l i = some (.int k 0)) (h : RLn w0 H a n) (hj : 0 < n) :
    Y P (Sat w0 H) ⟨d, .indexAddr T x i, ty, pos, af, g⟩ l (.pointer (some ((gA a).add (0 * sz)))) := y_ixg (j := 0) hx hi h hj
theorem y_ixg1 {x i : Operand} {T E : TypeId} {sz b n : Nat} [hT : SlT P T E sz b] {k : IntKind} (hx : ev l x = some (.slice a n c)) (hi : ev l i = some (.int k 1)) (h : RLn w0 H a n) (hj : 1 < n) :
    Y P (Sat w0 H) ⟨d, .indexAddr T x i, ty, pos, af, g⟩ l (.pointer (some ((gA a).add (1 * sz)))) := y_ixg (j := 1) hx hi h hj
theorem y_ixg2 {x i : Operand} {T E : TypeId} {sz b n : Nat} [hT : SlT P T E sz b] {k : IntKind} (hx : ev l x = some (.slice a n c)) (hi : ev l i = some (.int k 2)) (h : RLn w0 H a n) (hj : 2 < n) :
    Y P (Sat w0 H) ⟨d, .indexAddr T x i, ty, pos, af, g⟩ l (.pointer (some ((gA a).add (2 * sz)))) := y_ixg (j := 2) hx hi h hj
theorem y_ixg3 {x i : Operand} {T E : TypeId} {sz b n : Nat} [hT : SlT P T E sz b] {k : IntKind} (hx : ev l x = some (.slice a n c)) (hi : ev l i = some (.int k 3)) (h : RLn w0 H a n) (hj : 3 < n) :
    Y P (Sat w0 H) ⟨d, .indexAddr T x i, ty, pos, af, g⟩ l (.pointer (some ((gA a).add (3 * sz)))) := y_ixg (j := 3) hx hi h hj
theorem y_ixgp {x i : Operand} {T E : TypeId} {sz b n : Nat} [hT : SlT P T E sz b] {k : IntKind} {j : Nat} (hx : ev l x = some (.slice a n c)) (hi : ev l i = some (.int k ((j : Int) + 1))) (h : RLn w0 H a n) (hj : j + 1 < n) :
    Y P (Sat w0 H) ⟨d, .indexAddr T x i, ty, pos, af, g⟩ l (.pointer (some ((gA a).add ((j + 1) * sz)))) := y_ixg (j := j + 1) hx hi h hj
theorem y_ixgm {x i : Operand} {T E : TypeId} {sz b n : Nat} [hT : SlT P T E sz b] {k : IntKind} {j : Nat} (hx : ev l x = some (.slice a n c)) (hi : ev l i = some (.int k ((j : Int) - 1))) (h : RLn w0 H a n) (hj : 1 ≤ j ∧ j - 1 < n) :
    Y P (Sat w0 H) ⟨d, .indexAddr T x i, ty, pos, af, g⟩ l (.pointer (some ((gA a).add ((j - 1) * sz)))) := y_ixg (j := j - 1) hx (by rw [hi, show ((j : Int) - 1) = ((j - 1 : Nat) : Int) by omega]) h hj.2
section
variable {M : Md} {n : Nat} {ds : List Deferred} {ops : Array Oper} {Q : Exit → Act → World → Prop} {b : Bool} {rest : Tr}
theorem s_setAg {T : TypeId} {sz : Nat} [ht : AgT P T sz] {E : TypeId} {p x : Operand} {i : Nat} {xs : List α} (y : α) {cs : List Value} {H' : List Ck} (hp : ev l p = some (.pointer (some ((gA a).add (i * sz))))) (hx : ev l x = some (.agg cs.toArray))
    (hA : At (ol E a c xs) (ol E a c (xs.set i y)) H H') (hc : cs = Cel.f y) (hi : i < xs.length) (h : SL M P n ds ops Q rest l w0 H')
    (hb : M.act b = true := by exact rfl) (hg : gOk ops l g = true := by exact rfl) (hz : sz = Cel.sz α := by exact rfl) (hk : Chk M H' := by intros; first | exact chk_seq | exact chk_held (by exact ent)) : SL M P n ds ops Q (.one b ⟨none, .store T p x, ty, pos, af, g⟩ rest) l w0 H := .mk fun w hw => by
  obtain ⟨ad, rfl⟩ := own_gA (Sat.ownOf hA hw) (by omega)
  exact (s_setA y hp hx hA hc hi h hb hg hz hk).out w hw
theorem s_set1g {T : TypeId} [ht : ScT P T] {E : TypeId} {p x : Operand} {i : Nat} {xs : List α} {y : α} {v : Value} {H' : List Ck} (hp : ev l p = some (.pointer (some ((gA a).add (i * 1))))) (hx : ev l x = some v)
    (hA : At (ol E a c xs) (ol E a c (xs.set i y)) H H') (hc : [v] = Cel.f y) (hi : i < xs.length) (h : SL M P n ds ops Q rest l w0 H')
    (hb : M.act b = true := by exact rfl) (hg : gOk ops l g = true := by exact rfl) (hz : Cel.sz α = 1 := by exact rfl) (hk : Chk M H' := by intros; first | exact chk_seq | exact chk_held (by exact ent)) : SL M P n ds ops Q (.one b ⟨none, .store T p x, ty, pos, af, g⟩ rest) l w0 H := .mk fun w hw => by
  obtain ⟨ad, rfl⟩ := own_gA (Sat.ownOf hA hw) (by omega)
  exact (s_set1 hp hx hA hc hi h hb hg hz hk).out w hw
end
theorem Rc.byg {xs : List UInt8} (h : RBy w0 H a c xs) {i : Nat} (hi : i < xs.length) : Rc w0 H ((Sx.gA a).add (i * 1)) (bv (xs.getD i 0)) := fun w hs => by
  have e := rsl_gA (RBy.sl' h) (by omega) hs
  rw [e] at h
  exact Rc.by h hi w hs
omit [Cel α] in
theorem Rc.slg {_i : Cel α} {sz : Nat} {xs : List α} (h : RSl w0 H a c xs) {i : Nat} {x : α} (hx : xs[i]? = some x) {v : Value} (hz : sz = Cel.sz α) (hv : (Cel.f x)[0]? = some v) : Rc w0 H ((Sx.gA a).add (i * sz)) v := fun w hs => by
  have e := rsl_gA h (by have := (List.getElem?_eq_some_iff.1 hx).1; omega) hs
  rw [e] at h
  exact Rc.sl' h hx hz hv w hs
omit [Cel α] in
theorem Rc.slog {_i : Cel α} {sz : Nat} {xs : List α} (h : RSl w0 H a c xs) {i o : Nat} {x : α} (hx : xs[i]? = some x) {v : Value} (hz : sz = Cel.sz α) (hv : (Cel.f x)[o]? = some v) : Rc w0 H (((Sx.gA a).add (i * sz)).add o) v := fun w hs => by
  have e := rsl_gA h (by have := (List.getElem?_eq_some_iff.1 hx).1; omega) hs
  rw [e] at h
  exact Rc.slo' h hx hz hv w hs
omit [Cel α] in
theorem RcA.slg {_i : Cel α} {sz : Nat} {xs : List α} (h : RSl w0 H a c xs) {i : Nat} {x : α} (hx : xs[i]? = some x) (hz : sz = Cel.sz α) : RcA w0 H ((Sx.gA a).add (i * sz)) (Cel.f x) := fun w hs => by
  have e := rsl_gA h (by have := (List.getElem?_eq_some_iff.1 hx).1; omega) hs
  rw [e] at h
  exact RcA.sl' h hx hz w hs
end
/-- What an operation yields that only looks. -/
theorem yy {P : Program} {S : World → Prop} {o : Oper} {l : List (Nat × Value)} {v : Value} (h : Y P S o l v := by
  first
    | ((with_reducible (first | apply y_move | apply y_assign | apply y_lensl | apply y_field | apply y_nilc | apply y_not | apply y_min | apply y_max | apply y_cap | apply y_eqnil | apply y_nenil | apply y_shr8 | apply y_shr16 | apply y_shr24 | apply y_shr1)) <;> rfl)
    | ((with_reducible apply y_pickT); rfl; rfl; rfl)
    | ((with_reducible apply y_pickF); rfl; rfl; rfl)
    | ((with_reducible apply y_pick) <;> rfl)
    | ((with_reducible apply y_ld); rfl; (focus (first | ((with_reducible apply Rc.hbS0); (focus ((repeat (first | exact RcH.hd | apply RcH.tl)); first | done | fail)); rfl) | ((with_reducible apply Rc.hbS); (focus ((repeat (first | exact RcH.hd | apply RcH.tl)); first | done | fail)); rfl) | ((with_reducible apply Rc.byg); (focus ((repeat (first | assumption | exact RBy.hd | exact RBy.ro rfl (by decide) | exact RBy.nil | apply RBy.tl)); first | done | fail)); omega) | ((with_reducible apply Rc.slog); (focus ((repeat (first | assumption | exact RSl.hd | exact RBy.sl' (by assumption) | exact REn.sl' (by assumption) | exact RSl.nil | apply RSl.tl)); first | done | fail)); (focus (first | assumption | rfl)); rfl; rfl) | ((with_reducible apply Rc.slg); (focus ((repeat (first | assumption | exact RSl.hd | exact RBy.sl' (by assumption) | exact REn.sl' (by assumption) | exact RSl.nil | apply RSl.tl)); first | done | fail)); (focus (first | assumption | rfl)); rfl; rfl) | ((with_reducible apply Rc.by); (focus ((repeat (first | assumption | exact RBy.hd | exact RBy.ro rfl (by decide) | exact RBy.nil | apply RBy.tl)); first | done | fail)); omega) | ((with_reducible apply Rc.slo'); (focus ((repeat (first | assumption | exact RSl.hd | exact RBy.sl' (by assumption) | exact REn.sl' (by assumption) | exact RSl.nil | apply RSl.tl)); first | done | fail)); (focus (first | assumption | rfl)); rfl; rfl) | ((with_reducible apply Rc.sl'); (focus ((repeat (first | assumption | exact RSl.hd | exact RBy.sl' (by assumption) | exact REn.sl' (by assumption) | exact RSl.nil | apply RSl.tl)); first | done | fail)); (focus (first | assumption | rfl)); rfl; rfl) | fail)))
    | ((with_reducible apply y_ldS); rfl; (focus ((repeat (first | exact RcH.hd | apply RcH.tl)); first | done | fail)); rfl)
    | ((with_reducible apply y_ldA); rfl; (focus (first | ((with_reducible apply RcA.hbS0); (focus ((repeat (first | exact RcH.hd | apply RcH.tl)); first | done | fail))) | ((with_reducible apply RcA.slg); (focus ((repeat (first | assumption | exact RSl.hd | exact RBy.sl' (by assumption) | exact REn.sl' (by assumption) | exact RSl.nil | apply RSl.tl)); first | done | fail)); (focus (first | assumption | rfl)); rfl) | ((with_reducible apply RcA.sl'); (focus ((repeat (first | assumption | exact RSl.hd | exact RBy.sl' (by assumption) | exact REn.sl' (by assumption) | exact RSl.nil | apply RSl.tl)); first | done | fail)); (focus (first | assumption | rfl)); rfl) | fail)); rfl)
    | ((with_reducible apply y_index0); rfl; rfl; omega) | ((with_reducible apply y_index1); rfl; rfl; omega) | ((with_reducible apply y_index2); rfl; rfl; omega) | ((with_reducible apply y_index3); rfl; rfl; omega)
    | ((with_reducible apply y_ixg0); rfl; rfl; (focus ((repeat (first | exact RLn.by (by assumption) | exact RLn.sl (by assumption) | exact RLn.en (by assumption) | exact RLn.hd | exact RLn.slw (by assumption) (by omega) | exact RLn.byw (by assumption) (by omega) | exact RLn.enw (by assumption) (by omega) | apply RLn.tl)); first | done | fail)); omega)
    | ((with_reducible apply y_ixg1); rfl; rfl; (focus ((repeat (first | exact RLn.by (by assumption) | exact RLn.sl (by assumption) | exact RLn.en (by assumption) | exact RLn.hd | exact RLn.slw (by assumption) (by omega) | exact RLn.byw (by assumption) (by omega) | exact RLn.enw (by assumption) (by omega) | apply RLn.tl)); first | done | fail)); omega)
    | ((with_reducible apply y_ixg2); rfl; rfl; (focus ((repeat (first | exact RLn.by (by assumption) | exact RLn.sl (by assumption) | exact RLn.en (by assumption) | exact RLn.hd | exact RLn.slw (by assumption) (by omega) | exact RLn.byw (by assumption) (by omega) | exact RLn.enw (by assumption) (by omega) | apply RLn.tl)); first | done | fail)); omega)
    | ((with_reducible apply y_ixg3); rfl; rfl; (focus ((repeat (first | exact RLn.by (by assumption) | exact RLn.sl (by assumption) | exact RLn.en (by assumption) | exact RLn.hd | exact RLn.slw (by assumption) (by omega) | exact RLn.byw (by assumption) (by omega) | exact RLn.enw (by assumption) (by omega) | apply RLn.tl)); first | done | fail)); omega)
    | ((with_reducible apply y_ixg); rfl; rfl; (focus ((repeat (first | exact RLn.by (by assumption) | exact RLn.sl (by assumption) | exact RLn.en (by assumption) | exact RLn.hd | exact RLn.slw (by assumption) (by omega) | exact RLn.byw (by assumption) (by omega) | exact RLn.enw (by assumption) (by omega) | apply RLn.tl)); first | done | fail)); omega)
    | ((with_reducible apply y_ixgp); rfl; rfl; (focus ((repeat (first | exact RLn.by (by assumption) | exact RLn.sl (by assumption) | exact RLn.en (by assumption) | exact RLn.hd | exact RLn.slw (by assumption) (by omega) | exact RLn.byw (by assumption) (by omega) | exact RLn.enw (by assumption) (by omega) | apply RLn.tl)); first | done | fail)); omega)
    | ((with_reducible apply y_ixgm); rfl; rfl; (focus ((repeat (first | exact RLn.by (by assumption) | exact RLn.sl (by assumption) | exact RLn.en (by assumption) | exact RLn.hd | exact RLn.slw (by assumption) (by omega) | exact RLn.byw (by assumption) (by omega) | exact RLn.enw (by assumption) (by omega) | apply RLn.tl)); first | done | fail)); omega)
    | ((with_reducible (first | apply y_add | apply y_sub | apply y_mul | apply y_slF | apply y_slT)); rfl; rfl; omega)
    | ((with_reducible apply y_index); rfl; rfl; omega)
    | ((with_reducible apply y_quo); rfl; omega)
    | ((with_reducible apply y_slB); rfl; rfl; rfl; omega)
    | ((with_reducible apply y_st); rfl; (focus ((repeat (first | assumption | exact RBy.hd | exact RBy.ro rfl (by decide) | exact RBy.nil | apply RBy.tl)); first | done | fail)))
    | ((with_reducible (first | apply y_eqb | apply y_neb | apply y_gtb | apply y_ltb)) <;> rfl)
    | ((with_reducible apply y_seqs); rfl; rfl; with_reducible rfl)
    | ((with_reducible apply y_snes); rfl; rfl; with_reducible rfl)
    | ((with_reducible (first | apply y_seq | apply y_sne | apply y_slt | apply y_sle | apply y_sgt | apply y_sge | apply y_b2i | apply y_i2b | apply y_ext)) <;> rfl)
    | ((with_reducible apply y_sadd); rfl; rfl; first | omega | (simp only [List.length_cons, List.length_nil]; omega))
    | ((with_reducible apply y_shl8); rfl; omega) | ((with_reducible apply y_or8); rfl; rfl; omega; omega)
    | ((with_reducible (first | apply y_neg)); rfl; omega)
    | ((with_reducible apply y_rem); rfl; rfl; omega)
    | ((with_reducible apply y_eqls); rfl; rfl; with_reducible rfl)
    | ((with_reducible apply y_nels); rfl; rfl; with_reducible rfl)
    | ((with_reducible (first | apply y_beq | apply y_bne)) <;> rfl)
    | ((with_reducible (first | apply y_lss | apply y_leq | apply y_gtr | apply y_geq | apply y_eql | apply y_neq)) <;> rfl)
    | ((with_reducible apply y_cv); rfl; omega)
    | ((with_reducible apply y_cvu); rfl; omega)
    | ((with_reducible apply y_conv) <;> rfl)
    | ((with_reducible apply y_bld); rfl; rfl)
    | ((with_reducible apply y_mkf); rfl)
    | fail) : Y P S o l v := h
/-- So many steps as may be. -/
theorem sx {J J' : Prop} (h' : J') (h : Hd J' → J := by
  intro kk
  (repeat (first
  | ((first | with_reducible apply s_yS | ((with_reducible apply s_gH); apply s_yH)); rfl; rfl; rfl; (focus (first
    | ((with_reducible (first | apply y_move | apply y_assign | apply y_lensl | apply y_field | apply y_nilc | apply y_not | apply y_min | apply y_max | apply y_cap | apply y_eqnil | apply y_nenil | apply y_shr8 | apply y_shr16 | apply y_shr24 | apply y_shr1)) <;> rfl)
    | ((with_reducible apply y_pickT); rfl; rfl; rfl)
    | ((with_reducible apply y_pickF); rfl; rfl; rfl)
    | ((with_reducible apply y_pick) <;> rfl)
    | ((with_reducible apply y_ld); rfl; (focus (first | ((with_reducible apply Rc.hbS0); (focus ((repeat (first | exact RcH.hd | apply RcH.tl)); first | done | fail)); rfl) | ((with_reducible apply Rc.hbS); (focus ((repeat (first | exact RcH.hd | apply RcH.tl)); first | done | fail)); rfl) | ((with_reducible apply Rc.byg); (focus ((repeat (first | assumption | exact RBy.hd | exact RBy.ro rfl (by decide) | exact RBy.nil | apply RBy.tl)); first | done | fail)); omega) | ((with_reducible apply Rc.slog); (focus ((repeat (first | assumption | exact RSl.hd | exact RBy.sl' (by assumption) | exact REn.sl' (by assumption) | exact RSl.nil | apply RSl.tl)); first | done | fail)); (focus (first | assumption | rfl)); rfl; rfl) | ((with_reducible apply Rc.slg); (focus ((repeat (first | assumption | exact RSl.hd | exact RBy.sl' (by assumption) | exact REn.sl' (by assumption) | exact RSl.nil | apply RSl.tl)); first | done | fail)); (focus (first | assumption | rfl)); rfl; rfl) | ((with_reducible apply Rc.by); (focus ((repeat (first | assumption | exact RBy.hd | exact RBy.ro rfl (by decide) | exact RBy.nil | apply RBy.tl)); first | done | fail)); omega) | ((with_reducible apply Rc.slo'); (focus ((repeat (first | assumption | exact RSl.hd | exact RBy.sl' (by assumption) | exact REn.sl' (by assumption) | exact RSl.nil | apply RSl.tl)); first | done | fail)); (focus (first | assumption | rfl)); rfl; rfl) | ((with_reducible apply Rc.sl'); (focus ((repeat (first | assumption | exact RSl.hd | exact RBy.sl' (by assumption) | exact REn.sl' (by assumption) | exact RSl.nil | apply RSl.tl)); first | done | fail)); (focus (first | assumption | rfl)); rfl; rfl) | fail)))
    | ((with_reducible apply y_ldS); rfl; (focus ((repeat (first | exact RcH.hd | apply RcH.tl)); first | done | fail)); rfl)
    | ((with_reducible apply y_ldA); rfl; (focus (first | ((with_reducible apply RcA.hbS0); (focus ((repeat (first | exact RcH.hd | apply RcH.tl)); first | done | fail))) | ((with_reducible apply RcA.slg); (focus ((repeat (first | assumption | exact RSl.hd | exact RBy.sl' (by assumption) | exact REn.sl' (by assumption) | exact RSl.nil | apply RSl.tl)); first | done | fail)); (focus (first | assumption | rfl)); rfl) | ((with_reducible apply RcA.sl'); (focus ((repeat (first | assumption | exact RSl.hd | exact RBy.sl' (by assumption) | exact REn.sl' (by assumption) | exact RSl.nil | apply RSl.tl)); first | done | fail)); (focus (first | assumption | rfl)); rfl) | fail)); rfl)
    | ((with_reducible apply y_index0); rfl; rfl; omega) | ((with_reducible apply y_index1); rfl; rfl; omega) | ((with_reducible apply y_index2); rfl; rfl; omega) | ((with_reducible apply y_index3); rfl; rfl; omega)
    | ((with_reducible apply y_ixg0); rfl; rfl; (focus ((repeat (first | exact RLn.by (by assumption) | exact RLn.sl (by assumption) | exact RLn.en (by assumption) | exact RLn.hd | exact RLn.slw (by assumption) (by omega) | exact RLn.byw (by assumption) (by omega) | exact RLn.enw (by assumption) (by omega) | apply RLn.tl)); first | done | fail)); omega)
    | ((with_reducible apply y_ixg1); rfl; rfl; (focus ((repeat (first | exact RLn.by (by assumption) | exact RLn.sl (by assumption) | exact RLn.en (by assumption) | exact RLn.hd | exact RLn.slw (by assumption) (by omega) | exact RLn.byw (by assumption) (by omega) | exact RLn.enw (by assumption) (by omega) | apply RLn.tl)); first | done | fail)); omega)
    | ((with_reducible apply y_ixg2); rfl; rfl; (focus ((repeat (first | exact RLn.by (by assumption) | exact RLn.sl (by assumption) | exact RLn.en (by assumption) | exact RLn.hd | exact RLn.slw (by assumption) (by omega) | exact RLn.byw (by assumption) (by omega) | exact RLn.enw (by assumption) (by omega) | apply RLn.tl)); first | done | fail)); omega)
    | ((with_reducible apply y_ixg3); rfl; rfl; (focus ((repeat (first | exact RLn.by (by assumption) | exact RLn.sl (by assumption) | exact RLn.en (by assumption) | exact RLn.hd | exact RLn.slw (by assumption) (by omega) | exact RLn.byw (by assumption) (by omega) | exact RLn.enw (by assumption) (by omega) | apply RLn.tl)); first | done | fail)); omega)
    | ((with_reducible apply y_ixg); rfl; rfl; (focus ((repeat (first | exact RLn.by (by assumption) | exact RLn.sl (by assumption) | exact RLn.en (by assumption) | exact RLn.hd | exact RLn.slw (by assumption) (by omega) | exact RLn.byw (by assumption) (by omega) | exact RLn.enw (by assumption) (by omega) | apply RLn.tl)); first | done | fail)); omega)
    | ((with_reducible apply y_ixgp); rfl; rfl; (focus ((repeat (first | exact RLn.by (by assumption) | exact RLn.sl (by assumption) | exact RLn.en (by assumption) | exact RLn.hd | exact RLn.slw (by assumption) (by omega) | exact RLn.byw (by assumption) (by omega) | exact RLn.enw (by assumption) (by omega) | apply RLn.tl)); first | done | fail)); omega)
    | ((with_reducible apply y_ixgm); rfl; rfl; (focus ((repeat (first | exact RLn.by (by assumption) | exact RLn.sl (by assumption) | exact RLn.en (by assumption) | exact RLn.hd | exact RLn.slw (by assumption) (by omega) | exact RLn.byw (by assumption) (by omega) | exact RLn.enw (by assumption) (by omega) | apply RLn.tl)); first | done | fail)); omega)
    | ((with_reducible (first | apply y_add | apply y_sub | apply y_mul | apply y_slF | apply y_slT)); rfl; rfl; omega)
    | ((with_reducible apply y_index); rfl; rfl; omega)
    | ((with_reducible apply y_quo); rfl; omega)
    | ((with_reducible apply y_slB); rfl; rfl; rfl; omega)
    | ((with_reducible apply y_st); rfl; (focus ((repeat (first | assumption | exact RBy.hd | exact RBy.ro rfl (by decide) | exact RBy.nil | apply RBy.tl)); first | done | fail)))
    | ((with_reducible (first | apply y_eqb | apply y_neb | apply y_gtb | apply y_ltb)) <;> rfl)
    | ((with_reducible apply y_seqs); rfl; rfl; with_reducible rfl)
    | ((with_reducible apply y_snes); rfl; rfl; with_reducible rfl)
    | ((with_reducible (first | apply y_seq | apply y_sne | apply y_slt | apply y_sle | apply y_sgt | apply y_sge | apply y_b2i | apply y_i2b | apply y_ext)) <;> rfl)
    | ((with_reducible apply y_sadd); rfl; rfl; first | omega | (simp only [List.length_cons, List.length_nil]; omega))
    | ((with_reducible apply y_shl8); rfl; omega) | ((with_reducible apply y_or8); rfl; rfl; omega; omega)
    | ((with_reducible (first | apply y_neg)); rfl; omega)
    | ((with_reducible apply y_rem); rfl; rfl; omega)
    | ((with_reducible apply y_eqls); rfl; rfl; with_reducible rfl)
    | ((with_reducible apply y_nels); rfl; rfl; with_reducible rfl)
    | ((with_reducible (first | apply y_beq | apply y_bne)) <;> rfl)
    | ((with_reducible (first | apply y_lss | apply y_leq | apply y_gtr | apply y_geq | apply y_eql | apply y_neq)) <;> rfl)
    | ((with_reducible apply y_cv); rfl; omega)
    | ((with_reducible apply y_cvu); rfl; omega)
    | ((with_reducible apply y_conv) <;> rfl)
    | ((with_reducible apply y_bld); rfl; rfl)
    | ((with_reducible apply y_mkf); rfl)
    | fail)))
  | with_reducible (first | apply s_seq | apply s_reg | apply s_nil | apply s_next | apply s_block | apply s_exit | apply s_ret | apply s_skip | apply s_then_exit | apply s_then_ret | apply s_blk_hit | apply s_blk_ret | apply s_blk_normal | apply s_nopan)
  | ((with_reducible apply s_blk_miss); rfl)
  | ((with_reducible apply s_condT); rfl)
  | ((with_reducible apply s_condF); rfl)
  | ((with_reducible apply s_gL); apply s_sk; rfl; rfl)
  | ((with_reducible apply s_gL); apply s_gst; first
    | refine s_store rfl rfl (by exact at_) (by exact rfl) rfl ?_
    | refine s_store0 rfl rfl (by exact at_) (by exact rfl) rfl ?_
    | refine s_storeW rfl rfl (by exact at_) (by exact rfl) rfl rfl ?_
    | refine s_storeA rfl rfl (by exact at_) (by exact rfl) rfl rfl ?_
    | fail)
  | fail))
  exact kk.out) : J := h ⟨h'⟩
/-- One step at least. -/
theorem sx1 {J J' : Prop} (h' : J') (h : Hd J' → J := by
  intro kk
  (first
  | ((first | with_reducible apply s_yS | ((with_reducible apply s_gH); apply s_yH)); rfl; rfl; rfl; (focus (first
    | ((with_reducible (first | apply y_move | apply y_assign | apply y_lensl | apply y_field | apply y_nilc | apply y_not | apply y_min | apply y_max | apply y_cap | apply y_eqnil | apply y_nenil | apply y_shr8 | apply y_shr16 | apply y_shr24 | apply y_shr1)) <;> rfl)
    | ((with_reducible apply y_pickT); rfl; rfl; rfl)
    | ((with_reducible apply y_pickF); rfl; rfl; rfl)
    | ((with_reducible apply y_pick) <;> rfl)
    | ((with_reducible apply y_ld); rfl; (focus (first | ((with_reducible apply Rc.hbS0); (focus ((repeat (first | exact RcH.hd | apply RcH.tl)); first | done | fail)); rfl) | ((with_reducible apply Rc.hbS); (focus ((repeat (first | exact RcH.hd | apply RcH.tl)); first | done | fail)); rfl) | ((with_reducible apply Rc.byg); (focus ((repeat (first | assumption | exact RBy.hd | exact RBy.ro rfl (by decide) | exact RBy.nil | apply RBy.tl)); first | done | fail)); omega) | ((with_reducible apply Rc.slog); (focus ((repeat (first | assumption | exact RSl.hd | exact RBy.sl' (by assumption) | exact REn.sl' (by assumption) | exact RSl.nil | apply RSl.tl)); first | done | fail)); (focus (first | assumption | rfl)); rfl; rfl) | ((with_reducible apply Rc.slg); (focus ((repeat (first | assumption | exact RSl.hd | exact RBy.sl' (by assumption) | exact REn.sl' (by assumption) | exact RSl.nil | apply RSl.tl)); first | done | fail)); (focus (first | assumption | rfl)); rfl; rfl) | ((with_reducible apply Rc.by); (focus ((repeat (first | assumption | exact RBy.hd | exact RBy.ro rfl (by decide) | exact RBy.nil | apply RBy.tl)); first | done | fail)); omega) | ((with_reducible apply Rc.slo'); (focus ((repeat (first | assumption | exact RSl.hd | exact RBy.sl' (by assumption) | exact REn.sl' (by assumption) | exact RSl.nil | apply RSl.tl)); first | done | fail)); (focus (first | assumption | rfl)); rfl; rfl) | ((with_reducible apply Rc.sl'); (focus ((repeat (first | assumption | exact RSl.hd | exact RBy.sl' (by assumption) | exact REn.sl' (by assumption) | exact RSl.nil | apply RSl.tl)); first | done | fail)); (focus (first | assumption | rfl)); rfl; rfl) | fail)))
    | ((with_reducible apply y_ldS); rfl; (focus ((repeat (first | exact RcH.hd | apply RcH.tl)); first | done | fail)); rfl)
    | ((with_reducible apply y_ldA); rfl; (focus (first | ((with_reducible apply RcA.hbS0); (focus ((repeat (first | exact RcH.hd | apply RcH.tl)); first | done | fail))) | ((with_reducible apply RcA.slg); (focus ((repeat (first | assumption | exact RSl.hd | exact RBy.sl' (by assumption) | exact REn.sl' (by assumption) | exact RSl.nil | apply RSl.tl)); first | done | fail)); (focus (first | assumption | rfl)); rfl) | ((with_reducible apply RcA.sl'); (focus ((repeat (first | assumption | exact RSl.hd | exact RBy.sl' (by assumption) | exact REn.sl' (by assumption) | exact RSl.nil | apply RSl.tl)); first | done | fail)); (focus (first | assumption | rfl)); rfl) | fail)); rfl)
    | ((with_reducible apply y_index0); rfl; rfl; omega) | ((with_reducible apply y_index1); rfl; rfl; omega) | ((with_reducible apply y_index2); rfl; rfl; omega) | ((with_reducible apply y_index3); rfl; rfl; omega)
    | ((with_reducible apply y_ixg0); rfl; rfl; (focus ((repeat (first | exact RLn.by (by assumption) | exact RLn.sl (by assumption) | exact RLn.en (by assumption) | exact RLn.hd | exact RLn.slw (by assumption) (by omega) | exact RLn.byw (by assumption) (by omega) | exact RLn.enw (by assumption) (by omega) | apply RLn.tl)); first | done | fail)); omega)
    | ((with_reducible apply y_ixg1); rfl; rfl; (focus ((repeat (first | exact RLn.by (by assumption) | exact RLn.sl (by assumption) | exact RLn.en (by assumption) | exact RLn.hd | exact RLn.slw (by assumption) (by omega) | exact RLn.byw (by assumption) (by omega) | exact RLn.enw (by assumption) (by omega) | apply RLn.tl)); first | done | fail)); omega)
    | ((with_reducible apply y_ixg2); rfl; rfl; (focus ((repeat (first | exact RLn.by (by assumption) | exact RLn.sl (by assumption) | exact RLn.en (by assumption) | exact RLn.hd | exact RLn.slw (by assumption) (by omega) | exact RLn.byw (by assumption) (by omega) | exact RLn.enw (by assumption) (by omega) | apply RLn.tl)); first | done | fail)); omega)
    | ((with_reducible apply y_ixg3); rfl; rfl; (focus ((repeat (first | exact RLn.by (by assumption) | exact RLn.sl (by assumption) | exact RLn.en (by assumption) | exact RLn.hd | exact RLn.slw (by assumption) (by omega) | exact RLn.byw (by assumption) (by omega) | exact RLn.enw (by assumption) (by omega) | apply RLn.tl)); first | done | fail)); omega)
    | ((with_reducible apply y_ixg); rfl; rfl; (focus ((repeat (first | exact RLn.by (by assumption) | exact RLn.sl (by assumption) | exact RLn.en (by assumption) | exact RLn.hd | exact RLn.slw (by assumption) (by omega) | exact RLn.byw (by assumption) (by omega) | exact RLn.enw (by assumption) (by omega) | apply RLn.tl)); first | done | fail)); omega)
    | ((with_reducible apply y_ixgp); rfl; rfl; (focus ((repeat (first | exact RLn.by (by assumption) | exact RLn.sl (by assumption) | exact RLn.en (by assumption) | exact RLn.hd | exact RLn.slw (by assumption) (by omega) | exact RLn.byw (by assumption) (by omega) | exact RLn.enw (by assumption) (by omega) | apply RLn.tl)); first | done | fail)); omega)
    | ((with_reducible apply y_ixgm); rfl; rfl; (focus ((repeat (first | exact RLn.by (by assumption) | exact RLn.sl (by assumption) | exact RLn.en (by assumption) | exact RLn.hd | exact RLn.slw (by assumption) (by omega) | exact RLn.byw (by assumption) (by omega) | exact RLn.enw (by assumption) (by omega) | apply RLn.tl)); first | done | fail)); omega)
    | ((with_reducible (first | apply y_add | apply y_sub | apply y_mul | apply y_slF | apply y_slT)); rfl; rfl; omega)
    | ((with_reducible apply y_index); rfl; rfl; omega)
    | ((with_reducible apply y_quo); rfl; omega)
    | ((with_reducible apply y_slB); rfl; rfl; rfl; omega)
    | ((with_reducible apply y_st); rfl; (focus ((repeat (first | assumption | exact RBy.hd | exact RBy.ro rfl (by decide) | exact RBy.nil | apply RBy.tl)); first | done | fail)))
    | ((with_reducible (first | apply y_eqb | apply y_neb | apply y_gtb | apply y_ltb)) <;> rfl)
    | ((with_reducible apply y_seqs); rfl; rfl; with_reducible rfl)
    | ((with_reducible apply y_snes); rfl; rfl; with_reducible rfl)
    | ((with_reducible (first | apply y_seq | apply y_sne | apply y_slt | apply y_sle | apply y_sgt | apply y_sge | apply y_b2i | apply y_i2b | apply y_ext)) <;> rfl)
    | ((with_reducible apply y_sadd); rfl; rfl; first | omega | (simp only [List.length_cons, List.length_nil]; omega))
    | ((with_reducible apply y_shl8); rfl; omega) | ((with_reducible apply y_or8); rfl; rfl; omega; omega)
    | ((with_reducible (first | apply y_neg)); rfl; omega)
    | ((with_reducible apply y_rem); rfl; rfl; omega)
    | ((with_reducible apply y_eqls); rfl; rfl; with_reducible rfl)
    | ((with_reducible apply y_nels); rfl; rfl; with_reducible rfl)
    | ((with_reducible (first | apply y_beq | apply y_bne)) <;> rfl)
    | ((with_reducible (first | apply y_lss | apply y_leq | apply y_gtr | apply y_geq | apply y_eql | apply y_neq)) <;> rfl)
    | ((with_reducible apply y_cv); rfl; omega)
    | ((with_reducible apply y_cvu); rfl; omega)
    | ((with_reducible apply y_conv) <;> rfl)
    | ((with_reducible apply y_bld); rfl; rfl)
    | ((with_reducible apply y_mkf); rfl)
    | fail)))
  | with_reducible (first | apply s_seq | apply s_reg | apply s_nil | apply s_next | apply s_block | apply s_exit | apply s_ret | apply s_skip | apply s_then_exit | apply s_then_ret | apply s_blk_hit | apply s_blk_ret | apply s_blk_normal | apply s_nopan)
  | ((with_reducible apply s_blk_miss); rfl)
  | ((with_reducible apply s_condT); rfl)
  | ((with_reducible apply s_condF); rfl)
  | ((with_reducible apply s_gL); apply s_sk; rfl; rfl)
  | ((with_reducible apply s_gL); apply s_gst; first
    | refine s_store rfl rfl (by exact at_) (by exact rfl) rfl ?_
    | refine s_store0 rfl rfl (by exact at_) (by exact rfl) rfl ?_
    | refine s_storeW rfl rfl (by exact at_) (by exact rfl) rfl rfl ?_
    | refine s_storeA rfl rfl (by exact at_) (by exact rfl) rfl rfl ?_
    | fail)
  | fail)
  (repeat (first
  | ((first | with_reducible apply s_yS | ((with_reducible apply s_gH); apply s_yH)); rfl; rfl; rfl; (focus (first
    | ((with_reducible (first | apply y_move | apply y_assign | apply y_lensl | apply y_field | apply y_nilc | apply y_not | apply y_min | apply y_max | apply y_cap | apply y_eqnil | apply y_nenil | apply y_shr8 | apply y_shr16 | apply y_shr24 | apply y_shr1)) <;> rfl)
    | ((with_reducible apply y_pickT); rfl; rfl; rfl)
    | ((with_reducible apply y_pickF); rfl; rfl; rfl)
    | ((with_reducible apply y_pick) <;> rfl)
    | ((with_reducible apply y_ld); rfl; (focus (first | ((with_reducible apply Rc.hbS0); (focus ((repeat (first | exact RcH.hd | apply RcH.tl)); first | done | fail)); rfl) | ((with_reducible apply Rc.hbS); (focus ((repeat (first | exact RcH.hd | apply RcH.tl)); first | done | fail)); rfl) | ((with_reducible apply Rc.byg); (focus ((repeat (first | assumption | exact RBy.hd | exact RBy.ro rfl (by decide) | exact RBy.nil | apply RBy.tl)); first | done | fail)); omega) | ((with_reducible apply Rc.slog); (focus ((repeat (first | assumption | exact RSl.hd | exact RBy.sl' (by assumption) | exact REn.sl' (by assumption) | exact RSl.nil | apply RSl.tl)); first | done | fail)); (focus (first | assumption | rfl)); rfl; rfl) | ((with_reducible apply Rc.slg); (focus ((repeat (first | assumption | exact RSl.hd | exact RBy.sl' (by assumption) | exact REn.sl' (by assumption) | exact RSl.nil | apply RSl.tl)); first | done | fail)); (focus (first | assumption | rfl)); rfl; rfl) | ((with_reducible apply Rc.by); (focus ((repeat (first | assumption | exact RBy.hd | exact RBy.ro rfl (by decide) | exact RBy.nil | apply RBy.tl)); first | done | fail)); omega) | ((with_reducible apply Rc.slo'); (focus ((repeat (first | assumption | exact RSl.hd | exact RBy.sl' (by assumption) | exact REn.sl' (by assumption) | exact RSl.nil | apply RSl.tl)); first | done | fail)); (focus (first | assumption | rfl)); rfl; rfl) | ((with_reducible apply Rc.sl'); (focus ((repeat (first | assumption | exact RSl.hd | exact RBy.sl' (by assumption) | exact REn.sl' (by assumption) | exact RSl.nil | apply RSl.tl)); first | done | fail)); (focus (first | assumption | rfl)); rfl; rfl) | fail)))
    | ((with_reducible apply y_ldS); rfl; (focus ((repeat (first | exact RcH.hd | apply RcH.tl)); first | done | fail)); rfl)
    | ((with_reducible apply y_ldA); rfl; (focus (first | ((with_reducible apply RcA.hbS0); (focus ((repeat (first | exact RcH.hd | apply RcH.tl)); first | done | fail))) | ((with_reducible apply RcA.slg); (focus ((repeat (first | assumption | exact RSl.hd | exact RBy.sl' (by assumption) | exact REn.sl' (by assumption) | exact RSl.nil | apply RSl.tl)); first | done | fail)); (focus (first | assumption | rfl)); rfl) | ((with_reducible apply RcA.sl'); (focus ((repeat (first | assumption | exact RSl.hd | exact RBy.sl' (by assumption) | exact REn.sl' (by assumption) | exact RSl.nil | apply RSl.tl)); first | done | fail)); (focus (first | assumption | rfl)); rfl) | fail)); rfl)
    | ((with_reducible apply y_index0); rfl; rfl; omega) | ((with_reducible apply y_index1); rfl; rfl; omega) | ((with_reducible apply y_index2); rfl; rfl; omega) | ((with_reducible apply y_index3); rfl; rfl; omega)
    | ((with_reducible apply y_ixg0); rfl; rfl; (focus ((repeat (first | exact RLn.by (by assumption) | exact RLn.sl (by assumption) | exact RLn.en (by assumption) | exact RLn.hd | exact RLn.slw (by assumption) (by omega) | exact RLn.byw (by assumption) (by omega) | exact RLn.enw (by assumption) (by omega) | apply RLn.tl)); first | done | fail)); omega)
    | ((with_reducible apply y_ixg1); rfl; rfl; (focus ((repeat (first | exact RLn.by (by assumption) | exact RLn.sl (by assumption) | exact RLn.en (by assumption) | exact RLn.hd | exact RLn.slw (by assumption) (by omega) | exact RLn.byw (by assumption) (by omega) | exact RLn.enw (by assumption) (by omega) | apply RLn.tl)); first | done | fail)); omega)
    | ((with_reducible apply y_ixg2); rfl; rfl; (focus ((repeat (first | exact RLn.by (by assumption) | exact RLn.sl (by assumption) | exact RLn.en (by assumption) | exact RLn.hd | exact RLn.slw (by assumption) (by omega) | exact RLn.byw (by assumption) (by omega) | exact RLn.enw (by assumption) (by omega) | apply RLn.tl)); first | done | fail)); omega)
    | ((with_reducible apply y_ixg3); rfl; rfl; (focus ((repeat (first | exact RLn.by (by assumption) | exact RLn.sl (by assumption) | exact RLn.en (by assumption) | exact RLn.hd | exact RLn.slw (by assumption) (by omega) | exact RLn.byw (by assumption) (by omega) | exact RLn.enw (by assumption) (by omega) | apply RLn.tl)); first | done | fail)); omega)
    | ((with_reducible apply y_ixg); rfl; rfl; (focus ((repeat (first | exact RLn.by (by assumption) | exact RLn.sl (by assumption) | exact RLn.en (by assumption) | exact RLn.hd | exact RLn.slw (by assumption) (by omega) | exact RLn.byw (by assumption) (by omega) | exact RLn.enw (by assumption) (by omega) | apply RLn.tl)); first | done | fail)); omega)
    | ((with_reducible apply y_ixgp); rfl; rfl; (focus ((repeat (first | exact RLn.by (by assumption) | exact RLn.sl (by assumption) | exact RLn.en (by assumption) | exact RLn.hd | exact RLn.slw (by assumption) (by omega) | exact RLn.byw (by assumption) (by omega) | exact RLn.enw (by assumption) (by omega) | apply RLn.tl)); first | done | fail)); omega)
    | ((with_reducible apply y_ixgm); rfl; rfl; (focus ((repeat (first | exact RLn.by (by assumption) | exact RLn.sl (by assumption) | exact RLn.en (by assumption) | exact RLn.hd | exact RLn.slw (by assumption) (by omega) | exact RLn.byw (by assumption) (by omega) | exact RLn.enw (by assumption) (by omega) | apply RLn.tl)); first | done | fail)); omega)
    | ((with_reducible (first | apply y_add | apply y_sub | apply y_mul | apply y_slF | apply y_slT)); rfl; rfl; omega)
    | ((with_reducible apply y_index); rfl; rfl; omega)
    | ((with_reducible apply y_quo); rfl; omega)
    | ((with_reducible apply y_slB); rfl; rfl; rfl; omega)
    | ((with_reducible apply y_st); rfl; (focus ((repeat (first | assumption | exact RBy.hd | exact RBy.ro rfl (by decide) | exact RBy.nil | apply RBy.tl)); first | done | fail)))
    | ((with_reducible (first | apply y_eqb | apply y_neb | apply y_gtb | apply y_ltb)) <;> rfl)
    | ((with_reducible apply y_seqs); rfl; rfl; with_reducible rfl)
    | ((with_reducible apply y_snes); rfl; rfl; with_reducible rfl)
    | ((with_reducible (first | apply y_seq | apply y_sne | apply y_slt | apply y_sle | apply y_sgt | apply y_sge | apply y_b2i | apply y_i2b | apply y_ext)) <;> rfl)
    | ((with_reducible apply y_sadd); rfl; rfl; first | omega | (simp only [List.length_cons, List.length_nil]; omega))
    | ((with_reducible apply y_shl8); rfl; omega) | ((with_reducible apply y_or8); rfl; rfl; omega; omega)
    | ((with_reducible (first | apply y_neg)); rfl; omega)
    | ((with_reducible apply y_rem); rfl; rfl; omega)
    | ((with_reducible apply y_eqls); rfl; rfl; with_reducible rfl)
    | ((with_reducible apply y_nels); rfl; rfl; with_reducible rfl)
    | ((with_reducible (first | apply y_beq | apply y_bne)) <;> rfl)
    | ((with_reducible (first | apply y_lss | apply y_leq | apply y_gtr | apply y_geq | apply y_eql | apply y_neq)) <;> rfl)
    | ((with_reducible apply y_cv); rfl; omega)
    | ((with_reducible apply y_cvu); rfl; omega)
    | ((with_reducible apply y_conv) <;> rfl)
    | ((with_reducible apply y_bld); rfl; rfl)
    | ((with_reducible apply y_mkf); rfl)
    | fail)))
  | with_reducible (first | apply s_seq | apply s_reg | apply s_nil | apply s_next | apply s_block | apply s_exit | apply s_ret | apply s_skip | apply s_then_exit | apply s_then_ret | apply s_blk_hit | apply s_blk_ret | apply s_blk_normal | apply s_nopan)
  | ((with_reducible apply s_blk_miss); rfl)
  | ((with_reducible apply s_condT); rfl)
  | ((with_reducible apply s_condF); rfl)
  | ((with_reducible apply s_gL); apply s_sk; rfl; rfl)
  | ((with_reducible apply s_gL); apply s_gst; first
    | refine s_store rfl rfl (by exact at_) (by exact rfl) rfl ?_
    | refine s_store0 rfl rfl (by exact at_) (by exact rfl) rfl ?_
    | refine s_storeW rfl rfl (by exact at_) (by exact rfl) rfl rfl ?_
    | refine s_storeA rfl rfl (by exact at_) (by exact rfl) rfl rfl ?_
    | fail)
  | fail))
  exact kk.out) : J := h ⟨h'⟩
theorem rby {w0 : World} {H : List Ck} {a : Option Addr} {c : Nat} {xs : List UInt8} (h : RBy w0 H a c xs := by (repeat (first | assumption | exact RBy.hd | exact RBy.ro rfl (by decide) | exact RBy.nil | apply RBy.tl)); first | done | fail) : RBy w0 H a c xs := h
theorem rsl {α : Type} {_i : Cel α} {w0 : World} {H : List Ck} {a : Option Addr} {c : Nat} {xs : List α} (h : RSl w0 H a c xs := by (repeat (first | assumption | exact RSl.hd | exact RBy.sl' (by assumption) | exact REn.sl' (by assumption) | exact RSl.nil | apply RSl.tl)); first | done | fail) : RSl w0 H a c xs := h
theorem ren {w0 : World} {H : List Ck} {a : Option Addr} {c : Nat} {xs : List KV} (h : REn w0 H a c xs := by (repeat (first | assumption | exact REn.oE | exact REn.nil | apply REn.tl)); first | done | fail) : REn w0 H a c xs := h
end Go.Sx
