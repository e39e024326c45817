/- The second layer, part two: lists of things as cells; what can be read in every world of which a list of assertions holds. -/
import Derived.Test.YtbkaabjjmoaijaaSyA
namespace Go.Sx
open Go

/-- What lies in so many cells. -/
class Cel (α : Type) where
  sz : Nat
  f : α → List Value
  len : ∀ x, (f x).length = sz
  one : ∀ x, (f x).all Value.oneCell' = true
  pos : 0 < sz
abbrev flat {α : Type} [Cel α] (xs : List α) : List Value := xs.flatMap Cel.f
instance : Cel UInt8 := ⟨1, fun x => [bv x], fun _ => rfl, fun _ => rfl, Nat.one_pos⟩
instance : Cel Int := ⟨1, fun x => [.int .i64 x], fun _ => rfl, fun _ => rfl, Nat.one_pos⟩
instance : Cel SB := ⟨1, fun x => [x.val], fun _ => rfl, fun _ => rfl, Nat.one_pos⟩
instance : Cel KV := ⟨2, KV.cells, fun _ => rfl, fun _ => rfl, Nat.two_pos⟩
theorem flat_length {α : Type} [Cel α] : ∀ (xs : List α), (flat xs).length = xs.length * Cel.sz α
  | [] => by simp
  | x :: xs => by simp only [flat, List.flatMap_cons, List.length_append, Cel.len, List.length_cons, Nat.add_mul]; have := flat_length xs; simp only [flat] at this; omega
theorem flat_oneC {α : Type} [Cel α] (xs : List α) : ∀ v ∈ flat xs, v.oneCell' = true := by
  intro v hv
  obtain ⟨x, _, hx⟩ := List.mem_flatMap.1 hv
  exact List.all_eq_true.1 (Cel.one x) v hx
theorem flat_at {α : Type} [Cel α] : ∀ (xs : List α) (i : Nat) (x : α) (o : Nat) (v : Value), xs[i]? = some x → (Cel.f x)[o]? = some v → (flat xs)[i * Cel.sz α + o]? = some v
  | [], i, x, o, v, h, _ => by simp at h
  | y :: xs, 0, x, o, v, h, hv => by
    simp only [List.getElem?_cons_zero, Option.some.injEq] at h
    subst h
    simp only [flat, List.flatMap_cons, Nat.zero_mul, Nat.zero_add]
    rw [List.getElem?_append_left (List.getElem?_eq_some_iff.1 hv).1]
    exact hv
  | y :: xs, i + 1, x, o, v, h, hv => by
    have := flat_at xs i x o v (by simpa using h) hv
    simp only [flat, List.flatMap_cons]
    rw [List.getElem?_append_right (by rw [Cel.len, Nat.add_mul]; omega), Cel.len, show (i + 1) * Cel.sz α + o - Cel.sz α = i * Cel.sz α + o by rw [Nat.add_mul]; omega]
    exact this
theorem flat_bs (xs : List UInt8) : flat xs = xs.map bv := by
  induction xs with
  | nil => rfl
  | cons x xs ih => simp only [flat, List.flatMap_cons, List.map_cons] at *; rw [ih]; rfl
theorem flat_kv (es : List KV) : flat es = es.flatMap KV.cells := rfl
theorem flat_sb (ps : List SB) : flat ps = ps.map SB.val := by
  induction ps with
  | nil => rfl
  | cons x xs ih => simp only [flat, List.flatMap_cons, List.map_cons] at *; rw [ih]; rfl
theorem flat_set {α : Type} [Cel α] : ∀ (xs : List α) (i : Nat) (x : α), i < xs.length → flat (xs.set i x) = (flat xs).take (i * Cel.sz α) ++ Cel.f x ++ (flat xs).drop (i * Cel.sz α + Cel.sz α)
  | [], i, x, h => by simp at h
  | y :: xs, 0, x, _ => by simp [flat, Cel.len]
  | y :: xs, i + 1, x, h => by
    have := flat_set xs i x (by simpa using h)
    have e1 : (Cel.f y).take (i * Cel.sz α + Cel.sz α) = Cel.f y := List.take_of_length_le (by rw [Cel.len]; omega)
    have e2 : (Cel.f y).drop (i * Cel.sz α + Cel.sz α + Cel.sz α) = [] := List.drop_of_length_le (by rw [Cel.len]; omega)
    simp only [flat, List.set_cons_succ, List.flatMap_cons] at *
    rw [this, List.take_append, List.drop_append, Cel.len, Nat.add_mul, Nat.one_mul, e1, e2]
    rw [show i * Cel.sz α + Cel.sz α - Cel.sz α = i * Cel.sz α by omega, show i * Cel.sz α + Cel.sz α + Cel.sz α - Cel.sz α = i * Cel.sz α + Cel.sz α by omega]
    simp [List.append_assoc]

/-- A slice of one's own of such things. -/
@[reducible] def ol {α : Type} [Cel α] (E : TypeId) (a : Option Addr) (c : Nat) (xs : List α) : Ck := .own E (Cel.sz α) a xs.length c (flat xs)

/-- A slice that reads as a list. -/
structure Sl {α : Type} [Cel α] (w : World) (a : Option Addr) (c : Nat) (xs : List α) : Prop where
  le : xs.length ≤ c
  cap : c ≤ maxLen
  nil : a = none → c = 0
  cells : ∀ ad, a = some ad → Cells w ad (flat xs)
theorem Sl.len {α : Type} [Cel α] {w : World} {a : Option Addr} {c : Nat} {xs : List α} (h : Sl w a c xs) : (xs.length : Int) ≤ 9223372036854775807 := by
  have h1 := h.le; have h2 := h.cap; simp only [maxLen] at h2; omega
theorem Sl.ex {α : Type} [Cel α] {w w' : World} {a : Option Addr} {c : Nat} {xs : List α} (h : Sl w a c xs) (he : Ex w w') : Sl w' a c xs :=
  ⟨h.le, h.cap, h.nil, fun ad e => (h.cells ad e).ext he (fun _ h => h)⟩
theorem By.sl' {w : World} {a : Option Addr} {c : Nat} {xs : List UInt8} (h : By w a c xs) : Sl w a c xs := ⟨h.le, h.cap, h.nil, fun ad e => by rw [flat_bs]; exact h.cells ad e⟩
theorem Sl.by' {w : World} {a : Option Addr} {c : Nat} {xs : List UInt8} (h : Sl w a c xs) : By w a c xs := ⟨h.le, h.cap, h.nil, fun ad e => by rw [← flat_bs]; exact h.cells ad e⟩
theorem En.sl' {w : World} {a : Option Addr} {c : Nat} {es : List KV} (h : En w a c es) : Sl w a c es := ⟨h.le, h.cap, h.nil, h.cells⟩
theorem Own.sl' {α : Type} [Cel α] {w : World} {B E c : Nat} {a : Option Addr} {xs : List α} (h : Own w B E (Cel.sz α) a xs.length c (flat xs)) : Sl w a c xs := by
  refine ⟨h.le.1, h.le.2, ?_, ?_⟩
  · rintro rfl
    obtain ⟨_, _, h, _⟩ | ⟨g, rest, h, _⟩ := h.open
    · exact h
    · cases h
  · rintro ad rfl; exact h.cells
theorem Sl.at {α : Type} [Cel α] {w : World} {ad : Addr} {c : Nat} {xs : List α} (h : Sl w (some ad) c xs) {i : Nat} {x : α} (hx : xs[i]? = some x) : Cells w (ad.add (i * Cel.sz α)) (Cel.f x) := by
  intro o v hv
  rw [add_add]
  exact h.cells ad rfl _ _ (flat_at xs i x o v hx hv)

/-! ### In every world of which a list holds -/
variable {w0 : World} {H : List Ck}
def RBy (w0 : World) (H : List Ck) (a : Option Addr) (c : Nat) (xs : List UInt8) : Prop := ∀ w, Sat w0 H w → By w a c xs
def RSl {α : Type} [Cel α] (w0 : World) (H : List Ck) (a : Option Addr) (c : Nat) (xs : List α) : Prop := ∀ w, Sat w0 H w → Sl w a c xs
/-- A slice of entries, with their bytes. -/
def REn (w0 : World) (H : List Ck) (a : Option Addr) (c : Nat) (es : List KV) : Prop := ∀ w, Sat w0 H w → En w a c es
def RBbs (w0 : World) (H : List Ck) (a : Option Addr) (c : Nat) (ps : List SB) : Prop := ∀ w, Sat w0 H w → Bbs w a c ps
/-- A cell; cells. -/
def Rc (w0 : World) (H : List Ck) (ad : Addr) (v : Value) : Prop := ∀ w, Sat w0 H w → w.cell? ad = some v
def RcA (w0 : World) (H : List Ck) (ad : Addr) (vs : List Value) : Prop := ∀ w, Sat w0 H w → Cells w ad vs
/-- A fact that every such world bears out. -/
def Kn (w0 : World) (H : List Ck) (φ : Prop) : Prop := ∀ w, Sat w0 H w → φ

section
variable {d : Ck} {H' : List Ck} {α : Type} [Cel α] {a : Option Addr} {c : Nat} {ad : Addr}
theorem RBy.tl {xs : List UInt8} (h : RBy w0 H a c xs) : RBy w0 (d :: H) a c xs := fun w hs => h w hs.tl
omit [Cel α] in
theorem RSl.tl {_i : Cel α} {xs : List α} (h : RSl w0 H a c xs) : RSl w0 (d :: H) a c xs := fun w hs => h w hs.tl
theorem REn.tl {es : List KV} (h : REn w0 H a c es) : REn w0 (d :: H) a c es := fun w hs => h w hs.tl
theorem RBbs.tl {es : List SB} (h : RBbs w0 H a c es) : RBbs w0 (d :: H) a c es := fun w hs => h w hs.tl
theorem Rc.tl {v : Value} (h : Rc w0 H ad v) : Rc w0 (d :: H) ad v := fun w hs => h w hs.tl
theorem RcA.tl {vs : List Value} (h : RcA w0 H ad vs) : RcA w0 (d :: H) ad vs := fun w hs => h w hs.tl
theorem Kn.tl {φ : Prop} (h : Kn w0 H φ) : Kn w0 (d :: H) φ := fun w hs => h w hs.tl
theorem RBy.ent {xs : List UInt8} (h : RBy w0 H' a c xs) (e : Ent H H') : RBy w0 H a c xs := fun w hs => h w (hs.ent e)
theorem RSl.ent {xs : List α} (h : RSl w0 H' a c xs) (e : Ent H H') : RSl w0 H a c xs := fun w hs => h w (hs.ent e)
theorem REn.ent {es : List KV} (h : REn w0 H' a c es) (e : Ent H H') : REn w0 H a c es := fun w hs => h w (hs.ent e)
theorem Rc.ent {v : Value} (h : Rc w0 H' ad v) (e : Ent H H') : Rc w0 H ad v := fun w hs => h w (hs.ent e)
theorem Kn.ent {φ : Prop} (h : Kn w0 H' φ) (e : Ent H H') : Kn w0 H φ := fun w hs => h w (hs.ent e)
omit [Cel α] in
/-- What is one's own can be read. -/
theorem RSl.hd {_i : Cel α} {E : TypeId} {xs : List α} : RSl w0 (ol E a c xs :: H) a c xs := fun _ hs => (Sat.ownOf (c' := ol E a c xs) .hd hs).sl'
theorem RBy.hd {E : TypeId} {xs : List UInt8} : RBy w0 (ol E a c xs :: H) a c xs := fun w hs => (RSl.hd w hs).by'
theorem RBy.sl' {xs : List UInt8} (h : RBy w0 H a c xs) : RSl w0 H a c xs := fun w hs => (h w hs).sl'
theorem RSl.by' {xs : List UInt8} (h : RSl w0 H a c xs) : RBy w0 H a c xs := fun w hs => (h w hs).by'
theorem REn.sl' {es : List KV} (h : REn w0 H a c es) : RSl w0 H a c es := fun w hs => (h w hs).sl'
theorem REn.key {es : List KV} (h : REn w0 H a c es) {e : KV} (he : e ∈ es) : RBy w0 H e.ka e.kc e.k := fun w hs => ((h w hs).by_ e he).1
theorem REn.val {es : List KV} (h : REn w0 H a c es) {e : KV} (he : e ∈ es) : RBy w0 H e.va e.vc e.v := fun w hs => ((h w hs).by_ e he).2
theorem REn.mk {es : List KV} (h : RSl w0 H a c es) (hb : ∀ e, e ∈ es → RBy w0 H e.ka e.kc e.k ∧ RBy w0 H e.va e.vc e.v) : REn w0 H a c es :=
  fun w hs => ⟨(h w hs).le, (h w hs).cap, (h w hs).nil, (h w hs).cells, fun e he => ⟨(hb e he).1 w hs, (hb e he).2 w hs⟩⟩
theorem RBy.take {xs : List UInt8} (h : RBy w0 H a c xs) {k : Nat} (hk : k ≤ xs.length) : RBy w0 H a c (xs.take k) := fun w hs => (h w hs).take hk
theorem RBy.drop {xs : List UInt8} (h : RBy w0 H a c xs) {k : Nat} (hk : k ≤ xs.length) : RBy w0 H (sl a c k 1) (c - k) (xs.drop k) := fun w hs => (h w hs).drop hk
theorem RBy.sl {xs : List UInt8} (h : RBy w0 H a c xs) {j k : Nat} (hj : j ≤ k) (hk : k ≤ xs.length) : RBy w0 H (Sx.sl a c j 1) (c - j) ((xs.take k).drop j) := fun w hs => (h w hs).sl hj hk
theorem RBy.nil : RBy w0 H none 0 [] := fun _ _ => ⟨Nat.le_refl _, Nat.zero_le _, fun _ => rfl, fun _ e => by cases e⟩
omit [Cel α] in
theorem RSl.nil {_i : Cel α} : RSl w0 H none 0 ([] : List α) := fun _ _ => ⟨Nat.le_refl _, Nat.zero_le _, fun _ => rfl, fun _ e => by cases e⟩
theorem REn.nil : REn w0 H none 0 [] := fun _ _ => ⟨Nat.le_refl _, Nat.zero_le _, fun _ => rfl, fun _ e => (by cases e), fun _ h => (by cases h)⟩
theorem RSl.take {xs : List α} (h : RSl w0 H a c xs) {k : Nat} (hk : k ≤ xs.length) : RSl w0 H a c (xs.take k) := fun w hs => by
  have h' := h w hs
  have h1 := h'.le
  refine ⟨by simp; omega, h'.cap, h'.nil, fun ad e i v hv => h'.cells ad e i v ?_⟩
  have : flat (xs.take k) ++ flat (xs.drop k) = flat xs := by rw [flat, flat, ← List.flatMap_append, List.take_append_drop]
  rw [← this, List.getElem?_append_left (List.getElem?_eq_some_iff.1 hv).1]
  exact hv
theorem RSl.drop {xs : List α} (h : RSl w0 H a c xs) {j : Nat} (hj : j ≤ xs.length) : RSl w0 H (Sx.sl a c j (Cel.sz α)) (c - j) (xs.drop j) := fun w hs => by
  have h' := h w hs
  have h1 := h'.le
  have h2 := h'.cap
  refine ⟨by simp; omega, by omega, ?_, ?_⟩
  · intro e
    unfold Sx.sl at e
    split at e
    · omega
    · cases a with
      | none => have := h'.nil rfl; omega
      | some ad => cases e
  · intro ad e
    unfold Sx.sl at e
    split at e
    · rename_i hc
      have : xs.drop j = [] := List.drop_of_length_le (by omega)
      rw [this]
      intro i v hv; simp at hv
    · cases a with
      | none => cases e
      | some ad0 =>
        simp only [Option.map_some, Option.some.injEq] at e
        subst e
        intro i v hv
        rw [add_add]
        refine h'.cells ad0 rfl _ _ ?_
        have : flat (xs.take j) ++ flat (xs.drop j) = flat xs := by rw [flat, flat, ← List.flatMap_append, List.take_append_drop]
        rw [← this, List.getElem?_append_right (by rw [flat_length]; simp; have : min j xs.length = j := by omega
                                                   rw [this]; omega), flat_length]
        rw [List.length_take, Nat.min_eq_left hj, Nat.add_sub_cancel_left]
        exact hv
theorem RSl.some {xs : List α} (h : RSl w0 H a c xs) (hx : 0 < xs.length) : Kn w0 H (∃ ad, a = some ad) := fun w hs => by
  have h' := h w hs
  cases a with
  | none => have := h'.nil rfl; have := h'.le; omega
  | some ad => exact ⟨ad, rfl⟩
theorem Kn.sl {xs : List α} (h : RSl w0 H a c xs) : Kn w0 H (xs.length ≤ c ∧ c ≤ maxLen) := fun w hs => ⟨(h w hs).le, (h w hs).cap⟩
theorem Kn.by {xs : List UInt8} (h : RBy w0 H a c xs) : Kn w0 H (xs.length ≤ c ∧ c ≤ maxLen) := Kn.sl h.sl'
theorem Kn.en {es : List KV} (h : REn w0 H a c es) : Kn w0 H (es.length ≤ c ∧ c ≤ maxLen) := Kn.sl h.sl'
/-! Cells. -/
theorem Rc.hb {b o : Nat} {T : TypeId} {vs : List Value} {v : Value} (hv : vs[o]? = Option.some v) : Rc w0 (.hb b T vs :: H) ((⟨b, 0, none⟩ : Addr).add o) v := fun _ hs => (Sat.hbOf (c' := .hb b T vs) .hd hs).cell o hv
theorem Rc.hb0 {b : Nat} {T : TypeId} {vs : List Value} {v : Value} (hv : vs[0]? = Option.some v) : Rc w0 (.hb b T vs :: H) ⟨b, 0, none⟩ v := fun _ hs => (Sat.hbOf (c' := .hb b T vs) .hd hs).cell0 hv
theorem RcA.hb {b : Nat} {T : TypeId} {vs : List Value} : RcA w0 (.hb b T vs :: H) ⟨b, 0, none⟩ vs := fun _ hs => (Sat.hbOf (c' := .hb b T vs) .hd hs).cells
theorem RcA.hbo {b o n : Nat} {T : TypeId} {vs : List Value} : RcA w0 (.hb b T vs :: H) ((⟨b, 0, none⟩ : Addr).add o) ((vs.drop o).take n) := fun w hs i v hv => by
  have h := (Sat.hbOf (c' := .hb b T vs) .hd hs)
  rw [add_add]
  refine h.cells (o + i) v ?_
  simp only [List.getElem?_take, List.getElem?_drop] at hv
  split at hv
  · exact hv
  · cases hv
theorem Rc.by {xs : List UInt8} (h : RBy w0 H (some ad) c xs) {i : Nat} (hi : i < xs.length) : Rc w0 H (ad.add (i * 1)) (bv (xs.getD i 0)) := fun w hs => (h w hs).cell hi
theorem Rc.sl {xs : List α} (h : RSl w0 H (some ad) c xs) {i : Nat} {x : α} (hx : xs[i]? = Option.some x) {v : Value} (hv : (Cel.f x)[0]? = Option.some v) : Rc w0 H (ad.add (i * Cel.sz α)) v := fun w hs => by
  have := (h w hs).at hx 0 v hv
  rwa [add_add] at this
theorem Rc.slo {xs : List α} (h : RSl w0 H (some ad) c xs) {i o : Nat} {x : α} (hx : xs[i]? = Option.some x) {v : Value} (hv : (Cel.f x)[o]? = Option.some v) : Rc w0 H ((ad.add (i * Cel.sz α)).add o) v := fun w hs => (h w hs).at hx o v hv
theorem RcA.sl {xs : List α} (h : RSl w0 H (some ad) c xs) {i : Nat} {x : α} (hx : xs[i]? = Option.some x) : RcA w0 H (ad.add (i * Cel.sz α)) (Cel.f x) := fun w hs => (h w hs).at hx
end

/-! ### Looks -/
section
variable {P : Program} {l : List (Nat × Value)} {d : Option Tmp} {ty : TypeId} {pos : String} {af : Array Edge} {g : Option (Nat × Bool)}
theorem y_ld {x : Operand} {T : TypeId} [h : ScT P T] {a : Addr} {v : Value} (hx : ev l x = some (.pointer (some a))) (hc : Rc w0 H a v) :
    Y P (Sat w0 H) ⟨d, .load T x, ty, pos, af, g⟩ l v := y_load hx hc
theorem y_ldA {x : Operand} {T : TypeId} {sz : Nat} [h : AgT P T sz] {a : Addr} {vs : List Value} (hx : ev l x = some (.pointer (some a))) (hc : RcA w0 H a vs) (hl : vs.length = sz) :
    Y P (Sat w0 H) ⟨d, .load T x, ty, pos, af, g⟩ l (.agg vs.toArray) := y_loadA hx hc hl
theorem y_st {x : Operand} {T U : TypeId} [hT : ByT P T] [hU : StT P U] {a : Option Addr} {c : Nat} {xs : Bs} (hx : ev l x = some (.slice a xs.length c)) (hb : RBy w0 H a c xs) :
    Y P (Sat w0 H) ⟨d, .convert T U x, ty, pos, af, g⟩ l (str xs) := y_str hx hb
end
end Go.Sx
