/- The second layer, part four: steps that act. -/
import Derived.Test.YtbkaabjjmoaijaaSyC
namespace Go.Sx
open Go

/-- The cells of a new variable. -/
class ZcT (P : Program) (T : TypeId) (vs : outParam (List Value)) : Prop where
  run : ∃ z, (∀ w, (zeroValue T).run P w = .ok z w) ∧ z.cells.toList = vs
instance {P : Program} {T : TypeId} {cs : List Value} [h : ZeT P T (.agg cs.toArray)] : ZcT P T cs := ⟨_, h.run, rfl⟩
instance {P : Program} {T : TypeId} {k : IntKind} {n : Int} [h : ZeT P T (.int k n)] : ZcT P T [.int k n] := ⟨_, h.run, rfl⟩
instance {P : Program} {T : TypeId} {b : Bool} [h : ZeT P T (.bool b)] : ZcT P T [.bool b] := ⟨_, h.run, rfl⟩
instance {P : Program} {T : TypeId} {s : ByteArray} [h : ZeT P T (.string s)] : ZcT P T [.string s] := ⟨_, h.run, rfl⟩
instance {P : Program} {T : TypeId} {a : Option Addr} {n c : Nat} [h : ZeT P T (.slice a n c)] : ZcT P T [.slice a n c] := ⟨_, h.run, rfl⟩
instance {P : Program} {T : TypeId} {a : Option Addr} [h : ZeT P T (.pointer a)] : ZcT P T [.pointer a] := ⟨_, h.run, rfl⟩
instance {P : Program} {T : TypeId} {a : Option Nat} [h : ZeT P T (.map a)] : ZcT P T [.map a] := ⟨_, h.run, rfl⟩
instance {P : Program} {T : TypeId} [h : ZeT P T .nilFunc] : ZcT P T [.nilFunc] := ⟨_, h.run, rfl⟩
instance {P : Program} {T : TypeId} [h : ZeT P T .nilIface] : ZcT P T [.nilIface] := ⟨_, h.run, rfl⟩
/-- Of which Lean type a Go type's things are. -/
class ElT (P : Program) (E : TypeId) (α : outParam Type) : Prop where
  ok : True

/-- Cells that may be read, and written no more. -/
def roAs (k : Nat) (vs : List Value) : As := ⟨fun w S => Cells w ⟨k, 0, none⟩ vs ∧ S k, fun {w w'} {_} h he => ⟨fun i v hi => by
  have := h.1 i v hi
  have hb : ((⟨k, 0, none⟩ : Addr).add i).block = k := by unfold Addr.add; split <;> rfl
  rw [World.cell?_of_block (w := w) (w' := w') (he _ (by rw [hb]; exact h.2))]; exact this, h.2⟩⟩
def Ck.ro (k : Nat) (vs : List Value) : Ck := .u (roAs k vs)

section
variable {P : Program} {n : Nat} {ds : List Deferred} {Q : Exit → Act → World → Prop} {l l' : List (Nat × Value)} {w0 : World} {H : List Ck} {M : Md} {ops : Array Oper} {rest : Tr} {b : Bool} {ty : TypeId} {pos : String} {af : Array Edge} {g : Option (Nat × Bool)}

theorem RBy.ro {k : Nat} {xs : List UInt8} {vs : List Value} (hv : vs = xs.map bv) (hl : xs.length ≤ maxLen) : RBy w0 (Ck.ro k vs :: H) (some ⟨k, 0, none⟩) xs.length xs := fun w hs => by
  subst hv
  obtain ⟨S, _, h, _⟩ := hs.hd
  exact ⟨Nat.le_refl _, hl, fun e => (by cases e), fun ad e => (by cases e; exact h)⟩

/-! ### New variables -/
theorem s_alloc {d : Nat} {T : TypeId} {vs : List Value} [hz : ZcT P T vs] (h : ∀ k, SL M P n ds ops Q rest ((d, .pointer (some ⟨k, 0, none⟩)) :: l) w0 (.hb k T vs :: H))
    (hb : M.act b = true := by exact rfl) (hg : gOk ops l g = true := by exact rfl) (hd : Nat.blt d n = true := by exact rfl) (hk : ∀ k, Chk M (.hb k T vs :: H) := by intros; first | exact chk_seq | exact chk_held (by exact ent)) : SL M P n ds ops Q (.one b ⟨some d, .alloc T, ty, pos, af, g⟩ rest) l w0 H := .mk fun w hs => by
  obtain ⟨z, h1, rfl⟩ := hz.run
  haveI : ZeT P T z := ⟨h1⟩
  exact l_alloc (Md.any hb) hg hd fun k w' hN => ⟨(hk k).out (hN.sat hs), (h k).out w' (hN.sat hs)⟩
theorem s_boxA {d : Nat} {T : TypeId} {x : Operand} {cs : List Value} (hx : ev l x = some (.agg cs.toArray)) (h : ∀ k, SL M P n ds ops Q rest ((d, .pointer (some ⟨k, 0, none⟩)) :: l) w0 (.hb k T cs :: H))
    (hb : M.act b = true := by exact rfl) (hg : gOk ops l g = true := by exact rfl) (hd : Nat.blt d n = true := by exact rfl) (hk : ∀ k, Chk M (.hb k T cs :: H) := by intros; first | exact chk_seq | exact chk_held (by exact ent)) : SL M P n ds ops Q (.one b ⟨some d, .box T x, ty, pos, af, g⟩ rest) l w0 H := .mk fun _ hs =>
  l_box (Md.any hb) hg hd hx fun k w' hN => ⟨(hk k).out (hN.sat (vs := cs) hs), (h k).out w' (hN.sat (vs := cs) hs)⟩
theorem s_box1 {d : Nat} {T : TypeId} {x : Operand} {v : Value} (hx : ev l x = some v) (hv : v.oneCell' = true) (h : ∀ k, SL M P n ds ops Q rest ((d, .pointer (some ⟨k, 0, none⟩)) :: l) w0 (.hb k T [v] :: H))
    (hb : M.act b = true := by exact rfl) (hg : gOk ops l g = true := by exact rfl) (hd : Nat.blt d n = true := by exact rfl) (hk : ∀ k, Chk M (.hb k T [v] :: H) := by intros; first | exact chk_seq | exact chk_held (by exact ent)) : SL M P n ds ops Q (.one b ⟨some d, .box T x, ty, pos, af, g⟩ rest) l w0 H := .mk fun _ hs => by
  have hc : v.cells.toList = [v] := by cases v <;> first | rfl | simp [Value.oneCell'] at hv
  exact l_box (Md.any hb) hg hd hx fun k w' hN => by
    rw [hc] at hN
    exact ⟨(hk k).out (hN.sat hs), (h k).out w' (hN.sat hs)⟩

/-! ### Stores into variables -/
/-- It is a store. -/
theorem s_gst {T : TypeId} {p x : Operand} (k : SL M P n ds ops Q (.one b ⟨none, .store T p x, ty, pos, af, g⟩ rest) l w0 H) : SL M P n ds ops Q (.one b ⟨none, .store T p x, ty, pos, af, g⟩ rest) l w0 H := k
theorem s_store {T : TypeId} [ht : ScT P T] {p x : Operand} {k o : Nat} {U : TypeId} {vs : List Value} {v : Value} {H' : List Ck} (hp : ev l p = some (.pointer (some ((⟨k, 0, none⟩ : Addr).add o)))) (hx : ev l x = some v)
    (hA : At (.hb k U vs) (.hb k U (vs.set o v)) H H') (ho : Nat.blt o vs.length = true) (hv : v.oneCell' = true) (h : SL M P n ds ops Q rest l w0 H')
    (hb : M.act b = true := by exact rfl) (hg : gOk ops l g = true := by exact rfl) (hk : Chk M H' := by intros; first | exact chk_seq | exact chk_held (by exact ent)) : SL M P n ds ops Q (.one b ⟨none, .store T p x, ty, pos, af, g⟩ rest) l w0 H := .mk fun _ hs =>
  l_store (Md.any hb) hg hp hx (Sat.hbOf hA hs) (by simpa using ho) hv fun w' h1 h2 _ => ⟨hk.out (hs.hb hA h1 h2), h.out w' (hs.hb hA h1 h2)⟩
theorem add0 (k : Nat) : (⟨k, 0, none⟩ : Addr).add 0 = ⟨k, 0, none⟩ := rfl
theorem s_store0 {T : TypeId} [ht : ScT P T] {p x : Operand} {k : Nat} {U : TypeId} {vs : List Value} {v : Value} {H' : List Ck} (hp : ev l p = some (.pointer (some ⟨k, 0, none⟩))) (hx : ev l x = some v)
    (hA : At (.hb k U vs) (.hb k U (vs.set 0 v)) H H') (ho : Nat.blt 0 vs.length = true) (hv : v.oneCell' = true) (h : SL M P n ds ops Q rest l w0 H')
    (hb : M.act b = true := by exact rfl) (hg : gOk ops l g = true := by exact rfl) (hk : Chk M H' := by intros; first | exact chk_seq | exact chk_held (by exact ent)) : SL M P n ds ops Q (.one b ⟨none, .store T p x, ty, pos, af, g⟩ rest) l w0 H :=
  s_store (o := 0) hp hx hA ho hv h hb hg hk
/-- A struct's cells laid into others. -/
def lay (vs : List Value) (o : Nat) (cs : List Value) : List Value := vs.take o ++ cs ++ vs.drop (o + cs.length)
theorem s_storeA {T : TypeId} {sz : Nat} [ht : AgT P T sz] {p x : Operand} {k o : Nat} {U : TypeId} {vs cs : List Value} {H' : List Ck} (hp : ev l p = some (.pointer (some ((⟨k, 0, none⟩ : Addr).add o)))) (hx : ev l x = some (.agg cs.toArray))
    (hA : At (.hb k U vs) (.hb k U (lay vs o cs)) H H') (ho : Nat.ble (o + sz) vs.length = true) (hz : cs.length = sz) (hv : cs.all Value.oneCell' = true) (h : SL M P n ds ops Q rest l w0 H')
    (hb : M.act b = true := by exact rfl) (hg : gOk ops l g = true := by exact rfl) (hk : Chk M H' := by intros; first | exact chk_seq | exact chk_held (by exact ent)) : SL M P n ds ops Q (.one b ⟨none, .store T p x, ty, pos, af, g⟩ rest) l w0 H := .mk fun _ hs =>
  l_storeA (Md.any hb) hg hp hx (Sat.hbOf hA hs) (by simpa using ho) hz hv fun w' h1 h2 _ => by
    subst hz
    exact ⟨hk.out (hs.hb hA h1 h2), h.out w' (hs.hb hA h1 h2)⟩
/-- A whole variable of a struct. -/
theorem s_storeW {T : TypeId} {sz : Nat} [ht : AgT P T sz] {p x : Operand} {k : Nat} {U : TypeId} {vs cs : List Value} {H' : List Ck} (hp : ev l p = some (.pointer (some ⟨k, 0, none⟩))) (hx : ev l x = some (.agg cs.toArray))
    (hA : At (.hb k U vs) (.hb k U cs) H H') (ho : vs.length = sz) (hz : cs.length = sz) (hv : cs.all Value.oneCell' = true) (h : SL M P n ds ops Q rest l w0 H')
    (hb : M.act b = true := by exact rfl) (hg : gOk ops l g = true := by exact rfl) (hk : Chk M H' := by intros; first | exact chk_seq | exact chk_held (by exact ent)) : SL M P n ds ops Q (.one b ⟨none, .store T p x, ty, pos, af, g⟩ rest) l w0 H := .mk fun _ hs =>
  l_storeA (o := 0) (Md.any hb) hg hp hx (Sat.hbOf hA hs) (by omega) hz hv fun w' h1 h2 _ => by
    have e : vs.take 0 ++ cs ++ vs.drop (0 + sz) = cs := by rw [List.drop_of_length_le (by omega)]; simp
    rw [e] at h1
    exact ⟨hk.out (hs.hb hA h1 h2), h.out w' (hs.hb hA h1 h2)⟩

/-! ### Slices of one's own -/
section
variable {α : Type} [Cel α]
theorem s_make0 {d : Nat} {T E : TypeId} {sz by' : Nat} [hT : SlT P T E sz by'] [ElT P E α] {x y : Operand} {kx ky : IntKind} {c : Nat} (hx : ev l x = some (.int kx 0)) (hy : ev l y = some (.int ky c)) (h1 : by' * c ≤ 281474976710656 ∧ c ≤ 140737488355328)
    (h : ∀ a, SL M P n ds ops Q rest ((d, .slice (some a) 0 c) :: l) w0 (ol E (some a) c ([] : List α) :: H))
    (hb : M.act b = true := by exact rfl) (hg : gOk ops l g = true := by exact rfl) (hd : Nat.blt d n = true := by exact rfl) (hz : sz = Cel.sz α := by exact rfl) (hk : ∀ a, Chk M (ol E (some a) c ([] : List α) :: H) := by intros; first | exact chk_seq | exact chk_held (by exact ent)) : SL M P n ds ops Q (.one b ⟨some d, .makeSlice T x y, ty, pos, af, g⟩ rest) l w0 H := .mk fun w hs => by
  subst hz
  exact l_make0 (Md.any hb) hg hd hx hy h1.1 (by simp only [maxLen]; omega) fun a w' ho he => ⟨(hk a).out (ho.sat hs he), (h a).out w' (ho.sat hs he)⟩
theorem made_flat {z : Value} {x : α} (hz : z.cells.toList = Cel.f x) (c : Nat) : (madeCells z.cells (c * Cel.sz α)).toList = flat (List.replicate c x) := by
  have hs : z.cells.size = Cel.sz α := by rw [← Array.length_toList, hz, Cel.len]
  have hp := Cel.pos (α := α)
  apply List.ext_getElem?
  intro j
  by_cases hj : j < c * Cel.sz α
  · have h1 : j / Cel.sz α < c := (Nat.div_lt_iff_lt_mul hp).2 hj
    have h2 : j % Cel.sz α < Cel.sz α := Nat.mod_lt _ hp
    have h3 : (Cel.f x)[j % Cel.sz α]? = some ((Cel.f x)[j % Cel.sz α]'(by rw [Cel.len]; exact h2)) := List.getElem?_eq_getElem _
    have h4 := flat_at (List.replicate c x) (j / Cel.sz α) x (j % Cel.sz α) _ (by simp [h1]) h3
    rw [Nat.div_add_mod' j (Cel.sz α)] at h4
    rw [h4]
    have h5 : j % Cel.sz α < z.cells.size := by omega
    simp [madeCells, hj, hs]
    rw [getElem!_pos z.cells _ h5]
    simp only [← hz, Array.getElem_toList]
  · rw [List.getElem?_eq_none (by simp [madeCells]; omega), List.getElem?_eq_none (by rw [flat_length]; simp; omega)]
/-- What a new element holds. -/
class ZxT (P : Program) (E : TypeId) (α : Type) [Cel α] (x : outParam α) : Prop where
  run : ∃ z, (∀ w, (zeroValue E).run P w = .ok z w) ∧ z.cells.toList = Cel.f x
theorem s_make {d : Nat} {T E : TypeId} {sz by' : Nat} [hT : SlT P T E sz by'] [ElT P E α] {x0 : α} [hx0 : ZxT P E α x0] {x y : Operand} {kx ky : IntKind} {c : Nat} (hx : ev l x = some (.int kx c)) (hy : ev l y = some (.int ky c)) (h1 : by' * c ≤ 281474976710656 ∧ c ≤ 140737488355328)
    (h : ∀ a, SL M P n ds ops Q rest ((d, .slice (some a) c c) :: l) w0 (ol E (some a) c (List.replicate c x0) :: H))
    (hb : M.act b = true := by exact rfl) (hg : gOk ops l g = true := by exact rfl) (hd : Nat.blt d n = true := by exact rfl) (hz : sz = Cel.sz α := by exact rfl) (hk : ∀ a, Chk M (ol E (some a) c (List.replicate c x0) :: H) := by intros; first | exact chk_seq | exact chk_held (by exact ent)) : SL M P n ds ops Q (.one b ⟨some d, .makeSlice T x y, ty, pos, af, g⟩ rest) l w0 H := .mk fun w hs => by
  subst hz
  obtain ⟨z, z1, z2⟩ := hx0.run
  haveI : ZeT P E z := ⟨z1⟩
  refine l_make (Md.any hb) hg hd hx hy h1.1 (by simp only [maxLen]; omega) fun a w' ho he => ?_
  rw [made_flat z2] at ho
  have ho : Own w' w.heap.size E (Cel.sz α) (some a) (List.replicate c x0).length c (flat (List.replicate c x0)) := by rw [List.length_replicate]; exact ho
  exact ⟨(hk a).out (ho.sat hs he), (h a).out w' (ho.sat hs he)⟩
/-- []T{v0, v1, ..}. -/
theorem s_bsl {d : Nat} {T E : TypeId} {sz by' m : Nat} [hT : SlT P T E sz by'] {ps : List (Nat × Operand)} {vals : List Value} (ys : List α) (hp : evp l 0 ps = some vals) (hy : (vals.flatMap fun v => v.cells.toList) = flat ys)
    (h : ∀ k, SL M P n ds ops Q rest ((d, .slice (some ⟨k, 0, none⟩) m m) :: l) w0 (ol E (some ⟨k, 0, none⟩) m ys :: H))
    (hm : vals.length = m := by exact rfl) (hs' : (vals.all fun v => Nat.beq v.cells.size sz) = true := by exact rfl) (hle : Nat.ble (m * sz) 16777216 = true := by exact rfl)
    (hb : M.act b = true := by exact rfl) (hg : gOk ops l g = true := by exact rfl) (hd : Nat.blt d n = true := by exact rfl) (hz : sz = Cel.sz α := by exact rfl) (hk : ∀ k, Chk M (ol E (some ⟨k, 0, none⟩) m ys :: H) := by intros; first | exact chk_seq | exact chk_held (by exact ent)) :
    SL M P n ds ops Q (.one b ⟨some d, .buildSlice T m ps.toArray, ty, pos, af, g⟩ rest) l w0 H := .mk fun w hs => by
  subst hz
  refine l_bsl (Md.any hb) hg hd hp hm hs' hle fun k w' hN => ?_
  rw [hy] at hN
  have hlen : (flat ys).length = m * Cel.sz α := by
    rw [← hy, ← hm]
    clear hp hm hN h hk hy
    induction vals with
    | nil => simp
    | cons v vals ih =>
      simp only [List.all_cons, Bool.and_eq_true] at hs'
      have hv := Nat.eq_of_beq_eq_true hs'.1
      simp only [List.flatMap_cons, List.length_append, List.length_cons, Array.length_toList, ih hs'.2, Nat.add_mul, Nat.one_mul]
      omega
  have hym : m = ys.length := by
    rw [flat_length] at hlen
    exact (Nat.mul_right_cancel (Cel.pos (α := α)) hlen).symm
  have hmm : m ≤ maxLen := by
    have h1 := Nat.le_of_ble_eq_true hle
    have h2 := Nat.le_mul_of_pos_right m (Cel.pos (α := α))
    simp only [maxLen]; omega
  have ho : Own w' w.heap.size E (Cel.sz α) (some ⟨k, 0, none⟩) ys.length m (flat ys) := Own.mk (rest := []) (by have := hN.at_; omega) (by rw [List.append_nil]; exact hN.hb) (flat_length ys) (by omega) hmm (by rw [hlen]; simp)
  exact ⟨(hk k).out (ho.sat hs hN.ex), (h k).out w' (ho.sat hs hN.ex)⟩

theorem Sl.src {w : World} {a : Option Addr} {c : Nat} {xs : List α} (h : Sl w a c xs) : Src w a (flat xs) :=
  ⟨fun e => by have := h.nil e; have := h.le; rw [List.eq_nil_of_length_eq_zero (by omega : xs.length = 0)]; rfl, fun ad e => h.cells ad e⟩
/-- append(s, x...): to a slice of one's own. -/
theorem s_app {d : Nat} {T E : TypeId} {sz by' : Nat} [hT : SlT P T E sz by'] {s x : Operand} {a a2 : Option Addr} {c c2 : Nat} {k m : Nat} {xs ys : List α} {H' : Option Addr → Nat → List Ck} (h : ∀ a' c', SL M P n ds ops Q rest ((d, .slice a' (xs ++ ys).length c') :: l) w0 (H' a' c'))
    (hs : ev l s = some (.slice a k c) := by exact rfl) (hx : ev l x = some (.slice a2 m c2) := by exact rfl)
    (hsrc : RSl w0 H a2 c2 ys := by exact rsl) (hm : m = ys.length := by first | exact rfl | omega | simp) (hA : ∀ a' c', At (ol E a c xs) (ol E a' c' (xs ++ ys)) H (H' a' c') := by intro _ _; exact at_) (hk0 : k = xs.length := by first | exact rfl | omega | simp) (hby : (xs.length + ys.length) * by' ≤ 140737488355328 := by first | omega | (simp only [List.length_append, List.length_cons, List.length_nil, List.length_map, List.length_take, List.length_drop, List.length_replicate]; omega))
    (hb : M.act b = true := by exact rfl) (hg : gOk ops l g = true := by exact rfl) (hd : Nat.blt d n = true := by exact rfl) (hz : sz = Cel.sz α := by exact rfl) (hy1 : Nat.ble 1 by' = true := by exact rfl) (hk : ∀ a' c', Chk M (H' a' c') := by intros; first | exact chk_seq | exact chk_held (by exact ent)) :
    SL M P n ds ops Q (.one b ⟨some d, .call { callee := .builtin .append, args := #[s, x], argTypes := #[T, T] }, ty, pos, af, g⟩ rest) l w0 H := .mk fun w hw => by
  subst hz
  subst hm
  subst hk0
  have h1 := Nat.le_of_ble_eq_true hy1
  have h2 := Nat.le_mul_of_pos_right (xs.length + ys.length) h1
  have hS := hsrc w hw
  refine l_app (Cel.pos (α := α)) (Md.any hb) hg hd hs hx (Sat.ownOf (hA none 0) hw) hS.src hS.nil (flat_length ys) (flat_oneC ys) hby (by simp only [maxLen]; omega) hw.size fun a' c' w' ho he hf => ?_
  have e : flat xs ++ flat ys = flat (xs ++ ys) := by simp [flat]
  rw [e, ← List.length_append] at ho
  rw [← List.length_append]
  have hw' := hw.own (hA a' c') ho he hf
  exact ⟨(hk a' c').out hw', (h a' c').out w' hw'⟩
/-- append to nil. -/
theorem s_appN {d : Nat} {T E : TypeId} {sz by' : Nat} [hT : SlT P T E sz by'] {s x : Operand} {a2 : Option Addr} {c2 m : Nat} {ys : List α} (h : ∀ a' c', SL M P n ds ops Q rest ((d, .slice a' ys.length c') :: l) w0 (ol E a' c' ys :: H))
    (hs : ev l s = some (.slice none 0 0) := by exact rfl) (hx : ev l x = some (.slice a2 m c2) := by exact rfl)
    (hsrc : RSl w0 H a2 c2 ys := by exact rsl) (hm : m = ys.length := by first | exact rfl | omega | simp) (hby : ys.length * by' ≤ 140737488355328 := by first | omega | (simp only [List.length_append, List.length_cons, List.length_nil, List.length_map, List.length_take, List.length_drop, List.length_replicate]; omega))
    (hb : M.act b = true := by exact rfl) (hg : gOk ops l g = true := by exact rfl) (hd : Nat.blt d n = true := by exact rfl) (hz : sz = Cel.sz α := by exact rfl) (hy1 : Nat.ble 1 by' = true := by exact rfl) (hk : ∀ a' c', Chk M (ol E a' c' ys :: H) := by intros; first | exact chk_seq | exact chk_held (by exact ent)) :
    SL M P n ds ops Q (.one b ⟨some d, .call { callee := .builtin .append, args := #[s, x], argTypes := #[T, T] }, ty, pos, af, g⟩ rest) l w0 H := .mk fun w hw =>
  (s_app (E := E) (H' := fun a' c' => ol E a' c' ys :: H) (xs := ([] : List α)) (H := ol E none 0 ([] : List α) :: H) h hs hx hsrc.tl hm (fun _ _ => .hd) rfl (by simpa using hby) hb hg hd hz hy1 hk).out w (hw.ent Ent.nilS)
/-- A store of a whole element, or of an element of one cell. -/
theorem set_core {w w' : World} {E k c i : Nat} {xs : List α} {y : α} {re : List Value} (h2 : w0.heap.size ≤ k) (h3 : HB w k E (flat xs ++ re)) (h4 : xs.length ≤ c) (h5 : c ≤ maxLen) (h6 : (flat xs).length + re.length = c * Cel.sz α) (hi : i < xs.length)
    (g1 : HB w' k E ((flat xs ++ re).take (i * Cel.sz α) ++ Cel.f y ++ (flat xs ++ re).drop (i * Cel.sz α + Cel.sz α))) : Own w' w0.heap.size E (Cel.sz α) (some ⟨k, 0, none⟩) (xs.set i y).length c (flat (xs.set i y)) := by
  have hlt : i * Cel.sz α + Cel.sz α ≤ (flat xs).length := by
    rw [flat_length, ← Nat.succ_mul]
    exact Nat.mul_le_mul_right _ hi
  have e : (flat xs ++ re).take (i * Cel.sz α) ++ Cel.f y ++ (flat xs ++ re).drop (i * Cel.sz α + Cel.sz α) = flat (xs.set i y) ++ re := by
    rw [flat_set xs i y hi, List.take_append_of_le_length (by omega), List.drop_append_of_le_length (by omega)]
    simp [List.append_assoc]
  rw [e] at g1
  exact Own.mk h2 g1 (flat_length _) (by rw [List.length_set]; exact h4) h5 (by rw [flat_length, List.length_set, ← flat_length]; exact h6)
theorem s_setA {T : TypeId} {sz : Nat} [ht : AgT P T sz] {E : TypeId} {p x : Operand} {ad : Addr} {i c : Nat} {xs : List α} (y : α) {cs : List Value} {H' : List Ck} (hp : ev l p = some (.pointer (some (ad.add (i * sz))))) (hx : ev l x = some (.agg cs.toArray))
    (hA : At (ol E (some ad) c xs) (ol E (some ad) c (xs.set i y)) H H') (hc : cs = Cel.f y) (hi : i < xs.length) (h : SL M P n ds ops Q rest l w0 H')
    (hb : M.act b = true := by exact rfl) (hg : gOk ops l g = true := by exact rfl) (hz : sz = Cel.sz α := by exact rfl) (hk : Chk M H' := by intros; first | exact chk_seq | exact chk_held (by exact ent)) : SL M P n ds ops Q (.one b ⟨none, .store T p x, ty, pos, af, g⟩ rest) l w0 H := .mk fun w hw => by
  subst hz
  subst hc
  have ho := Sat.ownOf hA hw
  rcases ho.open with ⟨h0, _⟩ | ⟨k, re, h1, h2, h3, h4, h5, h6⟩
  · cases h0
  · simp only [Option.some.injEq] at h1
    subst h1
    have hlt : i * Cel.sz α + Cel.sz α ≤ (flat xs).length := by
      rw [flat_length, ← Nat.succ_mul]
      exact Nat.mul_le_mul_right _ hi
    refine l_storeA (Md.any hb) hg hp hx h3 (by rw [List.length_append]; omega) (Cel.len y) (Cel.one y) fun w' g1 g2 g3 => ?_
    have hw' := hw.own hA (set_core h2 h3 h4 h5 h6 hi g1) (g2.mono fun i _ e => by rw [e]; rfl) (fun ad' e => by cases e; exact .inl rfl)
    exact ⟨hk.out hw', h.out w' hw'⟩
theorem s_set1 {T : TypeId} [ht : ScT P T] {E : TypeId} {p x : Operand} {ad : Addr} {i c : Nat} {xs : List α} {y : α} {v : Value} {H' : List Ck} (hp : ev l p = some (.pointer (some (ad.add (i * 1))))) (hx : ev l x = some v)
    (hA : At (ol E (some ad) c xs) (ol E (some ad) c (xs.set i y)) H H') (hc : [v] = Cel.f y) (hi : i < xs.length) (h : SL M P n ds ops Q rest l w0 H')
    (hb : M.act b = true := by exact rfl) (hg : gOk ops l g = true := by exact rfl) (hz : Cel.sz α = 1 := by exact rfl) (hk : Chk M H' := by intros; first | exact chk_seq | exact chk_held (by exact ent)) : SL M P n ds ops Q (.one b ⟨none, .store T p x, ty, pos, af, g⟩ rest) l w0 H := .mk fun w hw => by
  have ho := Sat.ownOf hA hw
  rcases ho.open with ⟨h0, _⟩ | ⟨k, re, h1, h2, h3, h4, h5, h6⟩
  · cases h0
  · simp only [Option.some.injEq] at h1
    subst h1
    have hlt : i * Cel.sz α + Cel.sz α ≤ (flat xs).length := by
      rw [flat_length, ← Nat.succ_mul]
      exact Nat.mul_le_mul_right _ hi
    have hv : v.oneCell' = true := List.all_eq_true.1 (Cel.one y) v (by rw [← hc]; simp)
    refine l_store (Md.any hb) hg hp hx h3 (by rw [List.length_append]; rw [hz] at hlt; omega) hv fun w' g1 g2 g3 => ?_
    have e : (flat xs ++ re).set (i * 1) v = (flat xs ++ re).take (i * Cel.sz α) ++ Cel.f y ++ (flat xs ++ re).drop (i * Cel.sz α + Cel.sz α) := by
      rw [List.set_eq_take_append_cons_drop, if_pos (by rw [List.length_append]; rw [hz] at hlt; omega), ← hc, hz]
      simp [List.append_assoc]
    rw [e] at g1
    have hw' := hw.own hA (set_core h2 h3 h4 h5 h6 hi g1) (g2.mono fun i _ e => by rw [e]; rfl) (fun ad' e => by cases e; exact .inl rfl)
    exact ⟨hk.out hw', h.out w' hw'⟩
/-- Where a slice of one's own lies that is not empty. -/
theorem own_gA {w : World} {B E c : Nat} {a : Option Addr} {xs : List α} (ho : Own w B E (Cel.sz α) a xs.length c (flat xs)) (hi : 0 < xs.length) : ∃ ad, a = some ad := by
  rcases ho.open with ⟨_, h0, _⟩ | ⟨k, re, h1, _⟩
  · omega
  · exact ⟨_, h1⟩
end

/-! ### Calls -/
theorem s_call {d : Nat} {k : FuncId} {xs : List Operand} {ts : Array TypeId} {args : List Value} {R : Value → List Ck → Prop} [hf' : FnT P k] (ha : evs l xs = some args) (hf : FnS P w0 H k args.toArray R)
    (h : ∀ v H', R v H' → Chk M H' ∧ SL M P n ds ops Q rest ((d, v) :: l) w0 H') (hb : M.act b = true := by exact rfl) (hg : gOk ops l g = true := by exact rfl) (hd : Nat.blt d n = true := by exact rfl) :
    SL M P n ds ops Q (.one b ⟨some d, .call { callee := .value (.func k), args := xs.toArray, argTypes := ts }, ty, pos, af, g⟩ rest) l w0 H := .mk fun w hs =>
  l_call (Md.any hb) hg hd ha (hf w hs) fun v w' ⟨H', h1, h2⟩ => ⟨(h v H' h1).1.out h2, (h v H' h1).2.out w' h2⟩
theorem s_call0 {k : FuncId} {xs : List Operand} {ts : Array TypeId} {args : List Value} {R : Value → List Ck → Prop} [hf' : FnT P k] (ha : evs l xs = some args) (hf : FnS P w0 H k args.toArray R)
    (h : ∀ v H', R v H' → Chk M H' ∧ SL M P n ds ops Q rest l w0 H') (hb : M.act b = true := by exact rfl) (hg : gOk ops l g = true := by exact rfl) :
    SL M P n ds ops Q (.one b ⟨none, .call { callee := .value (.func k), args := xs.toArray, argTypes := ts }, ty, pos, af, g⟩ rest) l w0 H := .mk fun w hs =>
  l_call0 (Md.any hb) hg ha (hf w hs) fun v w' ⟨H', h1, h2⟩ => ⟨(h v H' h1).1.out h2, (h v H' h1).2.out w' h2⟩
/-- A call that gives a value and turns nothing. -/
theorem s_callV {d : Nat} {k : FuncId} {xs : List Operand} {ts : Array TypeId} {args : List Value} {v : Value} [hf' : FnT P k] (ha : evs l xs = some args) (hf : FnV P w0 H k args.toArray v)
    (h : SL M P n ds ops Q rest ((d, v) :: l) w0 H) (hb : M.act b = true := by exact rfl) (hg : gOk ops l g = true := by exact rfl) (hd : Nat.blt d n = true := by exact rfl) (hk : Chk M H := by intros; first | exact chk_seq | exact chk_held (by exact ent)) :
    SL M P n ds ops Q (.one b ⟨some d, .call { callee := .value (.func k), args := xs.toArray, argTypes := ts }, ty, pos, af, g⟩ rest) l w0 H :=
  s_call ha hf (fun _ _ ⟨h1, h2⟩ => by subst h1; subst h2; exact ⟨hk, h⟩) hb hg hd
/-- A call of a function value. -/
theorem s_callF {d : Nat} {k : FuncId} {x : Operand} {xs : List Operand} {ts : Array TypeId} {cap args : List Value} {R : Value → List Ck → Prop} [hf' : FnT P k] (hc : ev l x = some (.func (.func k) #[] cap.toArray)) (ha : evs l xs = some args) (hf : FnS P w0 H k (args ++ cap).toArray R)
    (h : ∀ v H', R v H' → Chk M H' ∧ SL M P n ds ops Q rest ((d, v) :: l) w0 H') (hb : M.act b = true := by exact rfl) (hg : gOk ops l g = true := by exact rfl) (hd : Nat.blt d n = true := by exact rfl) :
    SL M P n ds ops Q (.one b ⟨some d, .call { callee := .value x, args := xs.toArray, argTypes := ts }, ty, pos, af, g⟩ rest) l w0 H := .mk fun w hs => .mk fun a hfr => by
  unfold WL
  rw [if_pos (gOk_spec hg hfr)]
  refine .inr ⟨by simpa using Md.any hb, ?_⟩
  have hargs := evs_map hfr.agr ha
  unfold Oper.wp
  have : (execOp a.eval ⟨some d, .call { callee := .value x, args := xs.toArray, argTypes := ts }, ty, pos, af, g⟩).run P w = .ok (.enter k (args ++ cap).toArray) w := by
    simp [execOp, resolve, hfr.agr _ _ hc, Deferred.ofValue, invoke, hargs, hf'.run]
  rw [this]
  refine Calls.mono (hf w hs) ?_
  rintro e w' ⟨v, rfl, H', h1, h2⟩
  exact ⟨(h v H' h1).1.out h2, ((h v H' h1).2.out w' h2).out _ (hfr.put v hd)⟩
theorem s_callFV {d : Nat} {k : FuncId} {x : Operand} {xs : List Operand} {ts : Array TypeId} {cap args : List Value} {v : Value} [hf' : FnT P k] (hc : ev l x = some (.func (.func k) #[] cap.toArray)) (ha : evs l xs = some args) (hf : FnV P w0 H k (args ++ cap).toArray v)
    (h : SL M P n ds ops Q rest ((d, v) :: l) w0 H) (hb : M.act b = true := by exact rfl) (hg : gOk ops l g = true := by exact rfl) (hd : Nat.blt d n = true := by exact rfl) (hk : Chk M H := by intros; first | exact chk_seq | exact chk_held (by exact ent)) :
    SL M P n ds ops Q (.one b ⟨some d, .call { callee := .value x, args := xs.toArray, argTypes := ts }, ty, pos, af, g⟩ rest) l w0 H :=
  s_callF hc ha hf (fun _ _ ⟨h1, h2⟩ => by subst h1; subst h2; exact ⟨hk, h⟩) hb hg hd
/-- []byte("..") of a constant: the mark behind its bytes. -/
theorem s_convb {d : Nat} {x : Operand} {T E : TypeId} {sz by' k m c U : Nat} {vs : List Value} {H' : List Ck} [hT : SlT P T E sz by'] [hE : InT P E .u8] (hx : ev l x = some (.slice (some ⟨k, 0, none⟩) m c)) (hA : At (.own U 1 (some ⟨k, 0, none⟩) m c vs) (Ck.ro k vs) H H')
    (h : SL M P n ds ops Q rest ((d, .slice (some ⟨k, 0, none⟩) m c) :: l) w0 H') (hmc : m = c := by exact rfl) (hb : M.act b = true := by exact rfl) (hg : gOk ops l g = true := by exact rfl) (hd : Nat.blt d n = true := by exact rfl) (hk : Chk M H' := by intros; first | exact chk_seq | exact chk_held (by exact ent)) :
    SL M P n ds ops Q (.one b ⟨some d, .convert T T x, ty, pos, af, g⟩ rest) l w0 H := .mk fun w hw => by
  subst hmc
  have ho := Sat.ownOf hA hw
  rcases ho.open with ⟨h0, _⟩ | ⟨j, re, h1, h2, h3, h4, h5, h6⟩
  · cases h0
  · simp only [Option.some.injEq, Addr.mk.injEq, and_true] at h1
    subst h1
    have hl := ho.len
    have hr : re = [] := List.eq_nil_of_length_eq_zero (by omega)
    subst hr
    rw [List.append_nil] at h3
    refine l_convb (Md.any hb) hg hd hx h3 fun w' g1 g2 g3 => ?_
    have hw' : Sat w0 H' w' := hw.updAt hA fun S hS ⟨_, hc⟩ => ⟨g1.mono fun i _ e => by subst e; exact hc _ rfl, fun i => i = k, ⟨g2, rfl⟩, fun i e => by subst e; exact ⟨.inl (hc _ rfl), by have := (hS _ (hc _ rfl)).2; simp only at this; omega⟩⟩
    exact ⟨hk.out hw', h.out w' hw'⟩
end
end Go.Sx
