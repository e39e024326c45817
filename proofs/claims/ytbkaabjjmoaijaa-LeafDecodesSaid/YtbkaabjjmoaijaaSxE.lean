/- Part five: lists of entries; what byte lists are to one another; keys. Plain laws beside the words on worlds. -/
import Derived.Test.YtbkaabjjmoaijaaSxD
namespace Go.Sx
open Go

abbrev Bs := List UInt8

/-! ### Keys -/
def common : Bs → Bs → Nat
  | a :: x, b :: y => if a = b then common x y + 1 else 0
  | _, _ => 0
theorem common_nil (y : Bs) : common [] y = 0 := by simp [common]
theorem common_le : ∀ (x y : Bs), common x y ≤ x.length ∧ common x y ≤ y.length
  | [], _ => by simp [common]
  | _ :: _, [] => by simp [common]
  | a :: x, b :: y => by
    have := common_le x y
    simp only [common]
    split <;> simp <;> omega
/-- Where two lists agree up to k, and k is the end of one or they part there. -/
theorem common_eq : ∀ (x y : Bs) (k : Nat), k ≤ x.length → k ≤ y.length → (∀ i, i < k → x.getD i 0 = y.getD i 0) →
    (k = x.length ∨ k = y.length ∨ x.getD k 0 ≠ y.getD k 0) → common x y = k
  | [], y, k, h1, _, _, _ => by simp at h1; simp [common, h1]
  | _ :: _, [], k, _, h2, _, _ => by simp at h2; simp [common, h2]
  | a :: x, b :: y, 0, _, _, _, h4 => by
    simp at h4
    simp [common, h4]
  | a :: x, b :: y, k + 1, h1, h2, h3, h4 => by
    have hab : a = b := by have := h3 0 (by omega); simpa using this
    subst hab
    have := common_eq x y k (by simpa using h1) (by simpa using h2) (fun i hi => by have := h3 (i + 1) (by omega); simpa using this) (by simpa using h4)
    simp [common, this]
def cmp : Bs → Bs → Int
  | [], [] => 0
  | [], _ :: _ => -1
  | _ :: _, [] => 1
  | a :: x, b :: y => if a = b then cmp x y else if b < a then 1 else -1
theorem cmp_common : ∀ (x y : Bs), cmp x y = if common x y = x.length ∧ common x y = y.length then 0 else if common x y = x.length then -1
    else if common x y = y.length ∨ y.getD (common x y) 0 < x.getD (common x y) 0 then 1 else -1
  | [], [] => by simp [cmp, common]
  | [], _ :: _ => by simp [cmp, common]
  | _ :: _, [] => by simp [cmp, common]
  | a :: x, b :: y => by
    by_cases h : a = b
    · subst h
      have := cmp_common x y
      simp only [cmp, common, if_true, this, List.length_cons, Nat.add_right_cancel_iff, List.getD_cons_succ]
    · simp only [cmp, common, if_neg h, List.length_cons, List.getD_cons_zero]
      simp

theorem cmp_eq : ∀ (x y : Bs), cmp x y = 0 ↔ x = y
  | [], [] => by simp [cmp]
  | [], _ :: _ => by simp [cmp]
  | _ :: _, [] => by simp [cmp]
  | a :: x, b :: y => by
    by_cases h : a = b
    · subst h; simp [cmp, cmp_eq x y]
    · have h2 : cmp (a :: x) (b :: y) = if b < a then 1 else -1 := by simp [cmp, h]
      rw [h2]
      simp only [List.cons.injEq, h, false_and, iff_false]
      split <;> decide
theorem cmp_anti : ∀ (x y : Bs), cmp y x = - cmp x y
  | [], [] => by simp [cmp]
  | [], _ :: _ => by simp [cmp]
  | _ :: _, [] => by simp [cmp]
  | a :: x, b :: y => by
    by_cases h : a = b
    · subst h; simp [cmp, cmp_anti x y]
    · have h' : ¬ b = a := fun e => h e.symm
      simp only [cmp, if_neg h, if_neg h']
      by_cases hlt : a < b
      · rw [if_pos hlt, if_neg (by simp only [UInt8.lt_iff_toNat_lt] at *; omega)]; rfl
      · rw [if_neg hlt, if_pos (by simp only [UInt8.lt_iff_toNat_lt] at *; have : a.toNat ≠ b.toNat := fun e => h (UInt8.toNat_inj.1 e); omega)]
theorem cmp_bd (x y : Bs) : -1 ≤ cmp x y ∧ cmp x y ≤ 1 := by
  rw [cmp_common]
  split
  · omega
  · split
    · omega
    · split <;> omega
theorem cmp_lt_trans : ∀ (x y z : Bs), cmp x y ≤ 0 → cmp y z ≤ 0 → (cmp x z ≤ 0 ∧ (cmp x y < 0 ∨ cmp y z < 0 → cmp x z < 0))
  | [], [], z, _, h2 => ⟨h2, fun h => h.elim (fun h => by simp [cmp] at h) (fun h => h)⟩
  | [], b :: y, [], _, h2 => by simp [cmp] at h2
  | [], b :: y, c :: z, _, _ => by simp [cmp]
  | a :: x, [], z, h1, _ => by simp [cmp] at h1
  | a :: x, b :: y, [], _, h2 => by simp [cmp] at h2
  | a :: x, b :: y, c :: z, h1, h2 => by
    have ih := cmp_lt_trans x y z
    by_cases hab : a = b
    · subst hab
      by_cases hac : a = c
      · subst hac; simp only [cmp, if_true] at *; exact ih h1 h2
      · simp only [cmp, if_true, if_neg hac] at *
        split at h2
        · omega
        · rename_i hh; rw [if_neg hh]; omega
    · by_cases hbc : b = c
      · subst hbc
        simp only [cmp, if_true, if_neg hab] at *
        split at h1
        · omega
        · rename_i hh; rw [if_neg hh]; omega
      · simp only [cmp, if_neg hab, if_neg hbc] at *
        split at h1
        · omega
        · split at h2
          · omega
          · rename_i g1 g2
            have e1 : a.toNat ≠ b.toNat := fun e => hab (UInt8.toNat_inj.1 e)
            have e2 : b.toNat ≠ c.toNat := fun e => hbc (UInt8.toNat_inj.1 e)
            simp only [UInt8.lt_iff_toNat_lt] at g1 g2
            have hac : ¬ a = c := by intro e; subst e; omega
            rw [if_neg hac, if_neg (by simp only [UInt8.lt_iff_toNat_lt]; omega)]
            omega
theorem bytesLess_cmp : ∀ (x y : Bs), Op.bytesLess x y = decide (cmp x y < 0)
  | [], [] => by simp [Op.bytesLess, cmp]
  | [], _ :: _ => by simp [Op.bytesLess, cmp]
  | _ :: _, [] => by simp [Op.bytesLess, cmp]
  | a :: x, b :: y => by
    by_cases h : a = b
    · subst h; simp [Op.bytesLess, cmp, bytesLess_cmp x y, UInt8.lt_irrefl]
    · have h' : a.toNat ≠ b.toNat := fun e => h (UInt8.toNat_inj.1 e)
      simp only [Op.bytesLess, cmp, if_neg h]
      have hb : (a == b) = false := by simpa using h
      simp only [hb, Bool.false_and, Bool.or_false]
      by_cases hlt : a < b
      · rw [if_neg (by simp only [UInt8.lt_iff_toNat_lt] at *; omega)]; simp [hlt]
      · rw [if_pos (by simp only [UInt8.lt_iff_toNat_lt] at *; omega)]; simp [hlt]

/-! ### Entries -/
/-- An entry: its key and its value, and where they lie. -/
structure KV where
  ka : Option Addr
  kc : Nat
  k : Bs
  va : Option Addr
  vc : Nat
  v : Bs
def KV.cells (e : KV) : List Value := [.slice e.ka e.k.length e.kc, .slice e.va e.v.length e.vc]
def KV.p (e : KV) : Bs × Bs := (e.k, e.v)
structure En (w : World) (a : Option Addr) (c : Nat) (es : List KV) : Prop where
  le : es.length ≤ c
  cap : c ≤ maxLen
  nil : a = none → c = 0
  cells : ∀ ad, a = some ad → Cells w ad (es.flatMap KV.cells)
  by_ : ∀ e, e ∈ es → By w e.ka e.kc e.k ∧ By w e.va e.vc e.v
theorem flat_get : ∀ (es : List KV) (i : Nat) (e : KV), es[i]? = some e → (es.flatMap KV.cells)[i * 2]? = some (.slice e.ka e.k.length e.kc) ∧ (es.flatMap KV.cells)[i * 2 + 1]? = some (.slice e.va e.v.length e.vc)
  | [], i, e, h => by simp at h
  | x :: r, 0, e, h => by simp at h; subst h; simp [KV.cells]
  | x :: r, i + 1, e, h => by
    have := flat_get r i e (by simpa using h)
    simp only [List.flatMap_cons, KV.cells, List.cons_append, List.nil_append]
    rw [show (i + 1) * 2 = i * 2 + 1 + 1 by omega]
    simpa using this
theorem flat_len : ∀ (es : List KV), (es.flatMap KV.cells).length = es.length * 2
  | [] => rfl
  | x :: r => by simp only [List.flatMap_cons, List.length_append, flat_len r, KV.cells, List.length_cons, List.length_nil]; omega
theorem flat_one (es : List KV) : ∀ v ∈ es.flatMap KV.cells, v.oneCell' = true := by
  intro v hv
  obtain ⟨e, _, he⟩ := List.mem_flatMap.1 hv
  simp [KV.cells] at he
  rcases he with rfl | rfl <;> rfl
theorem En.len {w : World} {a : Option Addr} {c : Nat} {es : List KV} (h : En w a c es) : (es.length : Int) ≤ 9223372036854775807 := by
  have h1 := h.le
  have h2 := h.cap
  simp only [maxLen] at h2
  omega
theorem En.some {w : World} {a : Option Addr} {c : Nat} {es : List KV} (h : En w a c es) (hx : 0 < es.length) : ∃ ad, a = Option.some ad := by
  cases a with
  | none => have := h.nil rfl; have := h.le; omega
  | some ad => exact ⟨ad, rfl⟩
theorem En.key {w : World} {ad : Addr} {c : Nat} {es : List KV} (h : En w (Option.some ad) c es) {i : Nat} {e : KV} (hi : es[i]? = Option.some e) : w.cell? ((ad.add (i * 2)).add 0) = Option.some (.slice e.ka e.k.length e.kc) := by
  rw [add_add]; exact h.cells ad rfl _ _ (flat_get es i e hi).1
theorem En.val {w : World} {ad : Addr} {c : Nat} {es : List KV} (h : En w (Option.some ad) c es) {i : Nat} {e : KV} (hi : es[i]? = Option.some e) : w.cell? ((ad.add (i * 2)).add 1) = Option.some (.slice e.va e.v.length e.vc) := by
  rw [add_add]; exact h.cells ad rfl _ _ (flat_get es i e hi).2
theorem En.at {w : World} {a : Option Addr} {c : Nat} {es : List KV} (h : En w a c es) {i : Nat} {e : KV} (hi : es[i]? = Option.some e) : By w e.ka e.kc e.k ∧ By w e.va e.vc e.v := h.by_ e (List.mem_of_getElem? hi)
/-- An entry whole, as a load of a struct reads it. -/
theorem En.both {w : World} {ad : Addr} {c : Nat} {es : List KV} (h : En w (Option.some ad) c es) {i : Nat} {e : KV} (hi : es[i]? = Option.some e) : Cells w (ad.add (i * 2)) e.cells := by
  intro j v hj
  match j, hj with
  | 0, hj => simp only [KV.cells, List.getElem?_cons_zero, Option.some.injEq] at hj; subst hj; exact h.key hi
  | 1, hj => simp only [KV.cells, List.getElem?_cons_succ, List.getElem?_cons_zero, Option.some.injEq] at hj; subst hj; exact h.val hi
  | j + 2, hj => simp [KV.cells] at hj
theorem En.ex {w w' : World} {a : Option Addr} {c : Nat} {es : List KV} (h : En w a c es) (he : Ex w w') : En w' a c es :=
  ⟨h.le, h.cap, h.nil, fun ad e => (h.cells ad e).ext he (fun _ h => h), fun e he' => ⟨(h.by_ e he').1.ex he, (h.by_ e he').2.ex he⟩⟩
theorem get_lt {α : Type} (l : List α) (i : Nat) (h : i < l.length) : ∃ e, l[i]? = some e := ⟨l[i], List.getElem?_eq_getElem h⟩
theorem get_lt' {α : Type} {l : List α} {i : Nat} {e : α} (h : l[i]? = some e) : i < l.length := (List.getElem?_eq_some_iff.1 h).1

/-! ### Loads of structs -/
section
variable {P : Program} {S : World → Prop} {l : List (Nat × Value)} {d : Option Tmp} {ty : TypeId} {pos : String} {af : Array Edge} {g : Option (Nat × Bool)}
theorem y_loadA {x : Operand} {T : TypeId} {sz : Nat} [h : AgT P T sz] {a : Addr} {vs : List Value} (hx : ev l x = some (.pointer (some a))) (hc : ∀ w, S w → Cells w a vs) (hl : vs.length = sz) :
    Y P S ⟨d, .load T x, ty, pos, af, g⟩ l (.agg vs.toArray) := .mk fun w hw ρ hρ => by
  subst hl
  have := run_loadCells_list (P := P) (w := w) a vs (hc w hw)
  simp [execOp, hρ _ _ hx, Instr.loadAt, Instr.sureAddr, loadVar, h.agg, h.size, this]
/-- x / c of what is not below 0. -/
theorem y_quo {x : Operand} {T U : TypeId} {a c : Int} (hx : ev l x = some (.int .i64 a)) (h : (0 ≤ a ∧ a ≤ 9223372036854775807) ∧ 1 ≤ c) :
    Y P S ⟨d, .binOp .quo T x (.const (.int .i64 c)) U, ty, pos, af, g⟩ l (.int .i64 (a / c)) := .mk fun w _ ρ hρ => by
  have h2 := hρ (.const (.int .i64 c)) _ rfl
  have hne : c ≠ 0 := by omega
  have hb : -9223372036854775808 ≤ a / c ∧ a / c ≤ 9223372036854775807 := by
    have h1 := Int.ediv_nonneg h.1.1 (by omega : 0 ≤ c)
    have h2 := Int.ediv_le_self c h.1.1
    omega
  have := IntWalk.i64_in (a / c) hb
  rw [← Int.tdiv_eq_ediv_of_nonneg h.1.1] at this ⊢
  simp [execOp, hρ _ _ hx, h2, eqGuard_quo, binOp_quo, Op.intDiv, hne, this]
/-! x >> c. -/
theorem y_shr1 {x : Operand} {T U : TypeId} {a : Int} {k k' : IntKind} (hx : ev l x = some (.int k a)) (hc : Nat.ble 1 k.bits = true) :
    Y P S ⟨d, .binOp .shr T x (.const (.int k' 1)) U, ty, pos, af, g⟩ l (.int k (a / 2)) := .mk fun w _ ρ hρ => by
  have h2 := hρ (.const (.int k' 1)) _ rfl
  have h3 : min 1 k.bits = 1 := by have := Nat.le_of_ble_eq_true hc; omega
  simp [execOp, hρ _ _ hx, h2, eqGuard_shr, binOp_shr, Op.shift, h3]
  rw [Int.fdiv_eq_ediv_of_nonneg a (by decide)]
theorem y_shr8 {x : Operand} {T U : TypeId} {a : Int} {k k' : IntKind} (hx : ev l x = some (.int k a)) (hc : Nat.ble 8 k.bits = true) :
    Y P S ⟨d, .binOp .shr T x (.const (.int k' 8)) U, ty, pos, af, g⟩ l (.int k (a / 256)) := .mk fun w _ ρ hρ => by
  have h2 := hρ (.const (.int k' 8)) _ rfl
  have h3 : min 8 k.bits = 8 := by have := Nat.le_of_ble_eq_true hc; omega
  simp [execOp, hρ _ _ hx, h2, eqGuard_shr, binOp_shr, Op.shift, h3]
  rw [Int.fdiv_eq_ediv_of_nonneg a (by decide)]
theorem y_shr16 {x : Operand} {T U : TypeId} {a : Int} {k k' : IntKind} (hx : ev l x = some (.int k a)) (hc : Nat.ble 16 k.bits = true) :
    Y P S ⟨d, .binOp .shr T x (.const (.int k' 16)) U, ty, pos, af, g⟩ l (.int k (a / 65536)) := .mk fun w _ ρ hρ => by
  have h2 := hρ (.const (.int k' 16)) _ rfl
  have h3 : min 16 k.bits = 16 := by have := Nat.le_of_ble_eq_true hc; omega
  simp [execOp, hρ _ _ hx, h2, eqGuard_shr, binOp_shr, Op.shift, h3]
  rw [Int.fdiv_eq_ediv_of_nonneg a (by decide)]
theorem y_shr24 {x : Operand} {T U : TypeId} {a : Int} {k k' : IntKind} (hx : ev l x = some (.int k a)) (hc : Nat.ble 24 k.bits = true) :
    Y P S ⟨d, .binOp .shr T x (.const (.int k' 24)) U, ty, pos, af, g⟩ l (.int k (a / 16777216)) := .mk fun w _ ρ hρ => by
  have h2 := hρ (.const (.int k' 24)) _ rfl
  have h3 : min 24 k.bits = 24 := by have := Nat.le_of_ble_eq_true hc; omega
  simp [execOp, hρ _ _ hx, h2, eqGuard_shr, binOp_shr, Op.shift, h3]
  rw [Int.fdiv_eq_ediv_of_nonneg a (by decide)]
/-- A conversion between integers. -/
theorem y_conv {x : Operand} {T U : TypeId} {k k' : IntKind} {a : Int} [hT : InT P T k'] [hU : InT P U k] (hx : ev l x = some (.int k' a)) :
    Y P S ⟨d, .convert T U x, ty, pos, af, g⟩ l (.int k (k.wrap a)) := .mk fun w _ ρ hρ => by
  simp [execOp, hρ _ _ hx, convert, run_underlying hT.und, run_underlying hU.und, Conv.intToInt]
end
theorem wrap_u8 (a : Nat) : IntKind.u8.wrap (a : Int) = ((UInt8.ofNat a).toNat : Int) := by
  simp [IntKind.wrap, IntKind.bits, IntKind.signed]

/-! ### A slice that is written out -/
theorem foldl_set (c : List Value) : ∀ (pre old post : List Value), old.length = c.length → ∀ (k : Nat),
    (c.zipIdx k).foldl (fun (cs : Array Value) (x : Value × Nat) => cs.setIfInBounds (pre.length - k + x.2) x.1) (pre ++ old ++ post).toArray = (pre ++ c ++ post).toArray ∨ pre.length < k := by
  induction c with
  | nil =>
    intro pre old post h k
    have : old = [] := List.eq_nil_of_length_eq_zero (by simpa using h)
    subst this
    exact .inl rfl
  | cons v c ih =>
    intro pre old post h k
    by_cases hk : pre.length < k
    · exact .inr hk
    · left
      match old, h with
      | o :: old, h =>
        simp only [List.zipIdx_cons, List.foldl_cons]
        have h1 : pre.length - k + k = pre.length := by omega
        rw [h1]
        have h2 : ((pre ++ (o :: old) ++ post).toArray.setIfInBounds pre.length v) = ((pre ++ [v]) ++ old ++ post).toArray := by
          simp
        rw [h2]
        rcases ih (pre ++ [v]) old post (by simpa using h) (k + 1) with h3 | h3
        · have h4 : (pre ++ [v]).length - (k + 1) = pre.length - k := by simp
          rw [h4] at h3
          rw [h3]
          simp
        · simp at h3; omega
theorem fill_all (sz : Nat) : ∀ (vals : List Value) (k : Nat) (pre zs : List Value), pre.length = k * sz → zs.length = vals.length * sz → (∀ v, v ∈ vals → v.cells.size = sz) →
    Instr.fill (fun i => some (i * sz, sz)) (pre ++ zs).toArray ((vals.zipIdx k).map fun x => (x.2, x.1)) = some (pre ++ vals.flatMap fun v => v.cells.toList).toArray
  | [], k, pre, zs, h1, h2, h3 => by
    have : zs = [] := List.eq_nil_of_length_eq_zero (by simpa using h2)
    subst this
    simp [Instr.fill]
  | v :: r, k, pre, zs, h1, h2, h3 => by
    have hv := h3 v (by simp)
    have hsz : sz ≤ zs.length := by rw [h2, List.length_cons, Nat.add_mul]; omega
    simp only [List.zipIdx_cons, List.map_cons, Instr.fill, hv, ne_eq, not_true_eq_false]
    rw [if_neg (by simp; omega)]
    have hz : zs = zs.take sz ++ zs.drop sz := (List.take_append_drop sz zs).symm
    have h4 : ((v.cells.zipIdx).foldl (fun (cs : Array Value) (x : Value × Nat) => cs.setIfInBounds (k * sz + x.2) x.1) (pre ++ zs).toArray) = (pre ++ v.cells.toList ++ zs.drop sz).toArray := by
      have := foldl_set v.cells.toList pre (zs.take sz) (zs.drop sz) (by simp [hv]; omega) 0
      simp only [Nat.not_lt_zero, or_false, Nat.sub_zero, h1] at this
      rw [← this, List.append_assoc, ← hz, ← Array.foldl_toList]
      simp [Array.toList_zipIdx]
    simp only [h4]
    have := fill_all sz r (k + 1) (pre ++ v.cells.toList) (zs.drop sz) (by simp [h1, hv, Nat.add_mul]) (by simp [h2, Nat.add_mul]) (fun u hu => h3 u (by simp [hu]))
    rw [this]
    simp
section
variable {M : Mode} {P : Program} {n : Nat} {ds : List Deferred} {ops : Array Oper} {Q : Exit → Act → World → Prop} {b : Bool} {rest : Tr} {l : List (Nat × Value)} {w : World}
variable {ty : TypeId} {pos : String} {af : Array Edge} {g : Option (Nat × Bool)}
def evp (l : List (Nat × Value)) : Nat → List (Nat × Operand) → Option (List Value)
  | _, [] => some []
  | k, (i, x) :: r => if i = k then match ev l x, evp l (k + 1) r with
    | some v, some vs => some (v :: vs)
    | _, _ => none
    else none
theorem evp_spec {ρ : Operand → Value} (hρ : Agr l ρ) : ∀ {ps : List (Nat × Operand)} {k : Nat} {vs : List Value}, evp l k ps = some vs → ps.map (fun x => (x.1, ρ x.2)) = (vs.zipIdx k).map fun x => (x.2, x.1)
  | [], k, vs, h => by simp [evp] at h; subst h; rfl
  | (i, x) :: r, k, vs, h => by
    unfold evp at h
    split at h
    · rename_i hik
      split at h
      · rename_i v us h1 h2
        simp only [Option.some.injEq] at h
        subst h
        subst hik
        simp [hρ _ _ h1, evp_spec hρ h2]
      · cases h
    · cases h
/-- []T{v0, v1, ..}. -/
theorem l_bsl {d : Nat} {T E : TypeId} {sz by' m : Nat} [hT : SlT P T E sz by'] {ps : List (Nat × Operand)} {vals : List Value} (hb : (M.any || !b) = true) (hg : gOk ops l g = true) (hd : Nat.blt d n = true)
    (hp : evp l 0 ps = some vals) (hm : vals.length = m) (hs' : (vals.all fun v => Nat.beq v.cells.size sz) = true) (hle : Nat.ble (m * sz) 16777216 = true)
    (h : ∀ k w', New w w' k E (vals.flatMap fun v => v.cells.toList) → M.chk w' ∧ LJ M P n ds ops Q rest ((d, .slice (some ⟨k, 0, none⟩) m m) :: l) w') :
    LJ M P n ds ops Q (.one b ⟨some d, .buildSlice T m ps.toArray, ty, pos, af, g⟩ rest) l w := by
  have hs : ∀ v, v ∈ vals → v.cells.size = sz := fun v hv => by simpa using List.all_eq_true.1 hs' v hv
  obtain ⟨i, z, i1, i2, i3, i4, i5⟩ := hT.info
  subst hm
  have hN := New.mk' w E (vals.flatMap fun v => v.cells.toList)
  obtain ⟨h1, h2⟩ := h _ _ hN
  refine l_e hb hg hd (v := .slice (some ⟨w.heap.size, 0, none⟩) vals.length vals.length) (fun ρ hρ => ?_) h1 h2
  have hle' : ¬ (vals.length * sz > 2 ^ 24) := by have := Nat.le_of_ble_eq_true hle; omega
  have hparts := evp_spec hρ hp
  have hz : (fun i => z.cells[i % z.cells.size]!) = fun i => z.cells[i % sz]! := by rw [i5]
  have hfill : ∀ (zs : Array Value), zs.size = vals.length * sz → Instr.fill (fun i => some (i * sz, sz)) zs ((vals.zipIdx 0).map fun x => (x.2, x.1)) = some (vals.flatMap fun v => v.cells.toList).toArray := by
    intro zs hzs
    have := fill_all sz vals 0 [] zs.toList (by simp) (by simpa using hzs) hs
    simpa using this
  by_cases h0 : vals.length * sz = 0
  · simp only [execOp, Instr.buildSlice, Sem.run_bind, run_underlying hT.und, Result.andThen_ok, sizeOf, typeInfo, run_program, i1, Sem.run_pure, i3, h0, if_true, List.map_toArray, hparts, Array.range_zero', List.map_nil, newRow]
    simp [hfill #[] (by simp [h0])]
  · simp only [execOp, Instr.buildSlice, Sem.run_bind, run_underlying hT.und, Result.andThen_ok, sizeOf, typeInfo, run_program, i1, Sem.run_pure, i3, if_neg hle', h0, if_false, List.map_toArray, hparts, zeroValue, i2, newRow]
    simp [hfill]
end
end Go.Sx
