/- Part of a proof: several parts of a walk, one behind the other. -/
import Derived.Test.YtpnhoafmlhlfgaaCKB
import Derived.Test.YtpnhoafmlhlfgaaCZA
import Derived.Test.YtpnhoafmlhlfgaaCO1
import Derived.Deep.Upon
namespace Go.Sx
open Go
theorem get_map {α β : Type} {f : α → β} {l : List α} {i : Nat} {x : α} (h : l[i]? = some x) : (l.map f)[i]? = some (f x) := by simp [h]
theorem snocT {α : Type} {l : List α} {i : Nat} {e : α} (h : l[i]? = some e) : l.take (i + 1) = l.take i ++ [e] := by
  obtain ⟨hi, rfl⟩ := List.getElem?_eq_some_iff.1 h
  exact (List.take_append_getElem hi).symm
theorem dropG {α : Type} {l : List α} {i : Nat} {e : α} (h : l[i]? = some e) : l.drop i = e :: l.drop (i + 1) := by
  obtain ⟨hi, rfl⟩ := List.getElem?_eq_some_iff.1 h
  exact List.drop_eq_getElem_cons hi
section
variable {w0 : World} {H : List Ck}
theorem s_rwQ {n : Nat} {ds : Dx} {Q : Exit → Act → World → Prop} {e : Exit} {l : List (Nat × Value)} {t : Nat} {v v' : Value} (h : look l t = some v) (he : v = v') (k : SQ n ds Q e ((t, v') :: l) w0 H) : SQ n ds Q e l w0 H := by
  subst he
  refine .mk fun w hs => .mk fun a ha => (k.out w hs).out a ⟨ha.size, ha.defers, fun t' u ht => ?_⟩
  simp only [look] at ht
  by_cases e : t = t'
  · subst e; simp at ht; subst ht; exact ha.has _ _ h
  · have hb : Nat.beq t t' = false := by rw [← Bool.not_eq_true, Nat.beq_eq]; exact e
    rw [hb] at ht
    exact ha.has _ u ht
end
section
variable {fn : Func} {R : Value → World → Prop} {P : Program} {n : Nat} {l : List (Nat × Value)} {w : World}
/-- Two structs are returned. -/
theorem q_retcc {t t' : Tmp} {T : TypeId} {sz : Nat} [h : AgT P T sz] {k U k' U' : Nat} {vs vs' : List Value} (hr : fn.results = #[.cell t T, .cell t' T]) (hl : look l t = some (.pointer (some ⟨k, 0, none⟩))) (hl' : look l t' = some (.pointer (some ⟨k', 0, none⟩))) (hB : HB w k U vs) (hz : vs.length = sz) (hB' : HB w k' U' vs') (hz' : vs'.length = sz)
    (hR : R (.tuple #[.agg vs.toArray, .agg vs'.toArray]) w) : QJ n dx0 (bodyPost P fn (RetR R)) .ret l w := .mk fun a ha => by
  subst hz
  have h1 := run_loadCells_list (P := P) (w := w) ⟨k, 0, none⟩ vs hB.cells
  have h2 := run_loadCells_list (P := P) (w := w) ⟨k', 0, none⟩ vs' hB'.cells
  rw [hz'] at h2
  exact ⟨ha.defers, .tuple #[.agg vs.toArray, .agg vs'.toArray], by simp [results, hr, Array.getD_eq_getD_getElem?, ha.has _ _ hl, ha.has _ _ hl', asAddr, loadVar, h.agg, h.size, h1, h2], _, rfl, hR⟩
end
section
variable {P : Program} {fn : Func} {R : Value → List Ck → Prop} {n : Nat} {l : List (Nat × Value)} {w0 : World} {H H' : List Ck}
theorem s_retcc {t t' : Tmp} {T : TypeId} {sz : Nat} [h : AgT P T sz] {k U k' U' : Nat} {vs vs' : List Value} {H1 H2 : List Ck} (hr : fn.results = #[.cell t T, .cell t' T]) (hl : look l t = some (.pointer (some ⟨k, 0, none⟩))) (hl' : look l t' = some (.pointer (some ⟨k', 0, none⟩))) (hB : At (.hb k U vs) (.hb k U vs) H H1) (hz : vs.length = sz) (hB' : At (.hb k' U' vs') (.hb k' U' vs') H H2) (hz' : vs'.length = sz)
    (hR : R (.tuple #[.agg vs.toArray, .agg vs'.toArray]) H') (he : Ent H H' := by first | exact entq | exact ent) : SQ n dx0 (bodyPost P fn (RetR (RS w0 R))) .ret l w0 H := .mk fun _ hs => q_retcc hr hl hl' (Sat.hbOf hB hs) hz (Sat.hbOf hB' hs) hz' ⟨H', hR, hs.ent he⟩
end
end Go.Sx
namespace Go.Sx
open Go Go.Proofs
set_option maxRecDepth 10000
variable {w0 : World} {H : List Ck}
structure RoI where
  L : List KV
  A : List KV
  B : List KV
  R : List KV
end Go.Sx
namespace Go.Sx
open Go Go.Proofs
set_option maxRecDepth 10000
variable {w0 : World} {H : List Ck}
structure InI where
  u : List KV
  s : List KV
  t : List KV
end Go.Sx
namespace Go.Sx
open Go Go.Proofs
set_option maxRecDepth 10000
variable {w0 : World} {H : List Ck}
abbrev MgR (a : Option Addr) (c : Nat) (x l z : List KV) (H : List Ck) : Value → List Ck → Prop := fun v H' => v = .tuple #[] ∧ ∃ s, Mrg l s ∧ H' = ol 36 a c (x ++ (s ++ z)) :: H
/-- What is asked ahead of a merge. -/
structure MgA (w0 : World) (H : List Ck) (p m q : Nat) (x A B z : List KV) : Prop where
  hp : p = x.length
  hm : m = x.length + A.length
  hq : q = x.length + A.length + B.length
  a0 : 0 < A.length
  b0 : 0 < B.length
  aA : Asc A
  aB : Asc B
  hr : ∀ e ∈ A ++ B, RBy w0 H e.ka e.kc e.k
  hl : x.length + A.length + B.length + z.length ≤ 1099511627776
theorem MgA.at {p m q : Nat} {x A B z : List KV} (h : MgA w0 H p m q x A B z) {xs : List KV} (hxs : xs = x ++ (A ++ (B ++ z))) :
    xs.length = p + A.length + B.length + z.length ∧ (∀ i, i < A.length → xs[p + i]? = A[i]?) ∧ (∀ i, i < B.length → xs[m + i]? = B[i]?) := by
  have h1 := h.hp
  have h2 := h.hm
  subst hxs
  refine ⟨by simp only [List.length_append]; omega, fun i hi => ?_, fun i hi => ?_⟩
  · rw [List.getElem?_append_right (by omega), List.getElem?_append_left (by omega)]
    congr 1; omega
  · rw [List.getElem?_append_right (by omega), List.getElem?_append_right (by omega), List.getElem?_append_left (by omega)]
    congr 1; omega
end Go.Sx
namespace Go.Sx
open Go Go.Proofs
set_option maxRecDepth 10000
variable {w0 : World} {H : List Ck}
theorem mem4a {A1 A2 B1 B2 : List KV} {y : KV} (h : y ∈ A1 ++ B1) : y ∈ (A1 ++ A2) ++ (B1 ++ B2) := by
  rcases List.mem_append.1 h with h | h <;> simp [h]
theorem mem4b {A1 A2 B1 B2 : List KV} {y : KV} (h : y ∈ A2 ++ B2) : y ∈ (A1 ++ A2) ++ (B1 ++ B2) := by
  rcases List.mem_append.1 h with h | h <;> simp [h]
theorem s_joinS {l : List KV} {P : ∀ s : List KV, Mrg l s → Prop} {G : Prop} (main : KeyU (∀ s h, P s h) → G) (key : ∀ s h, P s h) : G := main ⟨key⟩
end Go.Sx
namespace Go.Sx
open Go Go.Proofs
set_option maxRecDepth 10000
variable {w0 : World} {H : List Ck}
theorem slice_len {a : Option Addr} {c n m : Nat} (h : n = m) : Value.slice a n c = Value.slice a m c := by rw [h]
structure StI where
  k : Nat
  P : List KV
  Q : List KV
end Go.Sx
namespace Go.Sx
open Go Go.Proofs
set_option maxRecDepth 10000
variable {w0 : World} {H : List Ck}
abbrev kv0 : KV := ⟨none, 0, [], none, 0, []⟩
def RiE (l : List KV) : Prop := l.Pairwise fun a b => cmp a.k b.k < 0
theorem RiE.lt {l : List KV} (h : RiE l) {i j : Nat} {a b : KV} (hij : i < j) (ha : l[i]? = some a) (hb : l[j]? = some b) : cmp a.k b.k < 0 := by
  obtain ⟨h1, e1⟩ := List.getElem?_eq_some_iff.1 ha
  obtain ⟨h2, e2⟩ := List.getElem?_eq_some_iff.1 hb
  rw [← e1, ← e2]
  exact List.pairwise_iff_getElem.1 h i j h1 h2 hij
/-- Where a key is among entries that rise. -/
structure At1 (xs : List KV) (key : Bs) (i : Nat) (is : Bool) : Prop where
  le : i ≤ xs.length
  lo : ∀ k y, k < i → xs[k]? = some y → cmp y.k key < 0
  hi : ∀ k y, i ≤ k → xs[k]? = some y → 0 ≤ cmp y.k key
  is : is = true ↔ ∃ y, xs[i]? = some y ∧ y.k = key
section
variable {M : Md} {P : Program} {n : Nat} {ds : Dx} {ops : Array Oper} {Q : Exit → Act → World → Prop} {rest : Tr} {l : List (Nat × Value)} {b : Bool} {ty : TypeId} {pos : String} {af : Array Edge} {g : Option (Nat × Bool)}
/-- Nothing is appended. -/
theorem s_app0 {d : Nat} {T E : TypeId} {sz by' : Nat} [hT : SlT P T E sz by'] {s x : Operand} {a a2 : Option Addr} {p c c2 : Nat} (hs : ev l s = some (.slice a p c)) (hx : ev l x = some (.slice a2 0 c2)) (hp : p ≤ c) (h : SL M P n ds ops Q rest ((d, .slice a p c) :: l) w0 H)
    (hb : M.act b = true := by exact rfl) (hg : gOk ops l g = true := by exact rfl) (hd : Nat.blt d n = true := by exact rfl) (hk : Chk M H := by intros; first | exact chk_seq | exact chk_held (by exact entq) | exact chk_held (by exact ent)) :
    SL M P n ds ops Q (.one b ⟨some d, .call { callee := .builtin .append, args := #[s, x], argTypes := #[T, T] }, ty, pos, af, g⟩ rest) l w0 H := .mk fun w hw => by
  obtain ⟨i, z, i1, i2, i3, i4, i5⟩ := hT.info
  have r : (Builtin.append_ #[T, T] ty #[.slice a p c, .slice a2 0 c2]).run P w = .ok (.slice a p c) w := by
    refine run_append_nothing w T T ty E i hT.und i1 a p c hp _ ?_
    cases a2 with
    | none => exact Src.ofNil w hT.und c2
    | some ad => exact Src.ofSlice w hT.und ad 0 c2 [] (by simp) (fun j u h => by simp at h) (fun u h => by cases h)
  exact l_e (Md.any hb) hg hd (fun ρ hρ => by simp [execOp, resolve, invoke, builtin, hρ _ _ hs, hρ _ _ hx, r]) (hk.out hw) (h.out w hw)
variable {α : Type} [Cel α]
/-- append(s, x...), s the first p of a list of one's own, in its place. -/
theorem s_appR {d : Nat} {T E : TypeId} {sz by' : Nat} [hT : SlT P T E sz by'] {s x : Operand} {a a2 : Option Addr} {c c2 p m : Nat} {xs ys : List α} {H' : List Ck}
    (hin : SL M P n ds ops Q rest ((d, .slice a (p + ys.length) c) :: l) w0 H') (hc : p + ys.length ≤ c)
    (hs : ev l s = some (.slice a p c) := by exact rfl) (hx : ev l x = some (.slice a2 m c2) := by exact rfl) (hsrc : RSl w0 H a2 c2 ys := by exact rsl) (hm : m = ys.length := by first | exact rfl | omega | simp) (hne : 0 < ys.length := by first | exact Nat.one_pos | omega | simp)
    (hA : At (ol E a c xs) (ol E a c (putL xs p ys)) H H' := by exact at_) (hp : p ≤ xs.length := by omega)
    (hb : M.act b = true := by exact rfl) (hg : gOk ops l g = true := by exact rfl) (hd : Nat.blt d n = true := by exact rfl) (hz : sz = Cel.sz α := by exact rfl) (hk : Chk M H' := by intros; first | exact chk_seq | exact chk_held (by exact entq) | exact chk_held (by exact ent)) :
    SL M P n ds ops Q (.one b ⟨some d, .call { callee := .builtin .append, args := #[s, x], argTypes := #[T, T] }, ty, pos, af, g⟩ rest) l w0 H := .mk fun w hw => by
  subst hz
  subst hm
  have hS := (hsrc w hw).src
  cases a2 with
  | none =>
    have := hS.1 rfl
    have hl := congrArg List.length this
    rw [flat_length] at hl
    rcases Nat.mul_eq_zero.1 hl with h | h
    · omega
    · have := Cel.pos (α := α); omega
  | some ad =>
    have ho := Sat.ownOf hA hw
    have hpz : p * Cel.sz α ≤ xs.length * Cel.sz α := Nat.mul_le_mul_right _ hp
    rcases ho.open with ⟨h0, _, h0', _⟩ | ⟨k, re, e1, e2, e3, e4, e5, e6⟩
    · omega
    · subst e1
      have hle : (p + ys.length) * Cel.sz α ≤ c * Cel.sz α := Nat.mul_le_mul_right _ hc
      rw [Nat.add_mul] at hle
      have hfl := flat_length xs
      have hyl := flat_length ys
      obtain ⟨w', r1, r2, r3⟩ := app_room (P := P) (T := T) (c2 := c2) (p := p) (c := c) ty e3 (hS.2 ad rfl) (flat_length ys) (flat_oneC ys) hc (by rw [List.length_append]; omega)
      have hpl := putL_len (ys := ys) hp
      have hB : HB w' k E (flat (putL xs p ys) ++ re.drop (p * Cel.sz α + (flat ys).length - (flat xs).length)) := by
        have e : (flat xs ++ re).take (p * Cel.sz α) ++ flat ys ++ (flat xs ++ re).drop (p * Cel.sz α + (flat ys).length) = flat (putL xs p ys) ++ re.drop (p * Cel.sz α + (flat ys).length - (flat xs).length) := by
          rw [putL, flat_app, flat_app, flat_take, flat_drop, List.take_append_of_le_length (by omega), List.drop_append, Nat.add_mul, ← hyl, List.append_assoc, List.append_assoc, List.append_assoc]
        rw [← e]
        exact r2
      have hO : Own w' w0.heap.size E (Cel.sz α) (some ⟨k, 0, none⟩) (putL xs p ys).length c (flat (putL xs p ys)) := by
        refine Own.mk' e2 hB (flat_length _) (by rw [hpl]; omega) e5 ?_
        rw [flat_length, hpl, List.length_drop]
        rw [hfl, hyl]
        rw [hfl] at e6
        rcases Nat.le_total xs.length (p + ys.length) with h | h
        · rw [Nat.max_eq_right h, Nat.add_mul]
          have := Nat.mul_le_mul_right (Cel.sz α) h
          rw [Nat.add_mul] at this
          omega
        · rw [Nat.max_eq_left h]
          have := Nat.mul_le_mul_right (Cel.sz α) h
          rw [Nat.add_mul] at this
          omega
      have hw' := hw.own hA hO (r3.mono fun i _ e => by rw [e]; rfl) (fun ad' e => by cases e; exact .inl rfl)
      exact l_e (Md.any hb) hg hd (fun ρ hρ => by simp [execOp, resolve, invoke, builtin, hρ _ _ hs, hρ _ _ hx, r1]) (hk.out hw') (hin.out w' hw')
end
end Go.Sx
