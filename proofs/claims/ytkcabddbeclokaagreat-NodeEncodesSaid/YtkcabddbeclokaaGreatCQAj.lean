/- Part of a proof: several parts of a walk, one behind the other. -/
import Derived.Test.YtkcabddbeclokaaGreatCB0j
import Derived.Test.YtkcabddbeclokaaGreatCV3
import Derived.Test.YtkcabddbeclokaaGreatCQ0j
import Derived.Test.YtkcabddbeclokaaGreatCKB
import Derived.Test.YtkcabddbeclokaaGreatCB2
import Derived.Test.YtkcabddbeclokaaGreatCKA
namespace Go.Sx
open Go Go.Proofs
/-- A type that is no interface. -/
class CcT (P : Program) (T : TypeId) : Prop where
  h : P.concrete T = true
/-- An interface. -/
class IfT (P : Program) (T : TypeId) : Prop where
  ok : (match P.underlying T with | some (.interface _) => true | _ => false) = true
/-- The method of a type by name. -/
class MtT (P : Program) (T : TypeId) (nm : String) (k : outParam FuncId) : Prop where
  run : ∀ (v : Value) (args : Array Value) (w : World), (callMethod (.iface T v) nm args).run P w = (callFunc k (#[v] ++ args)).run P w
section
variable {P : Program} {S : World → Prop} {l : List (Nat × Value)} {d : Option Tmp} {ty : TypeId} {pos : String} {af : Array Edge} {g : Option (Nat × Bool)}
theorem y_mkI {x : Operand} {T : TypeId} [h : CcT P T] {v : Value} (hx : ev l x = some v) : Y P S ⟨d, .makeInterface T x, ty, pos, af, g⟩ l (.iface T v) := .mk fun w _ ρ hρ => by
  simp [execOp, hρ _ _ hx, run_makeInterface w T v h.h]
theorem IfT.und {T : TypeId} (h : IfT P T) : ∃ ms, P.underlying T = some (.interface ms) := by
  have := h.ok
  split at this
  · exact ⟨_, by assumption⟩
  · cases this
theorem run_eqI (n : Nat) {T U : TypeId} {v : Value} {w : World} (h : IfT P T) : (Op.equalIn (n + 1) T (.iface U v) .nilIface).run P w = .ok false w := by
  obtain ⟨ms, hu⟩ := h.und
  simp [Op.equalIn, run_underlying hu]
theorem run_eqN (n : Nat) {T : TypeId} {w : World} (h : IfT P T) : (Op.equalIn (n + 1) T .nilIface .nilIface).run P w = .ok true w := by
  obtain ⟨ms, hu⟩ := h.und
  simp [Op.equalIn, run_underlying hu]
theorem run_neq_if {T U : TypeId} {v : Value} {w : World} (h : IfT P T) : (binOp .neq T (.iface U v) .nilIface).run P w = .ok (.bool true) w := by
  simp only [binOp]
  simp [show Op.equal T (.iface U v) .nilIface = Op.equalIn (9999 + 1) T (.iface U v) .nilIface from rfl, run_eqI (P := P) 9999 (v := v) h]
theorem run_neq_nil {T : TypeId} {w : World} (h : IfT P T) : (binOp .neq T .nilIface .nilIface).run P w = .ok (.bool false) w := by
  simp only [binOp]
  simp [show Op.equal T .nilIface .nilIface = Op.equalIn (9999 + 1) T .nilIface .nilIface from rfl, run_eqN (P := P) 9999 h]
theorem y_neI {x : Operand} {T U V : TypeId} [h : IfT P T] {v : Value} (hx : ev l x = some (.iface V v)) : Y P S ⟨d, .binOp .neq T x (.const .nilIface) U, ty, pos, af, g⟩ l (.bool true) := .mk fun w _ ρ hρ => by
  have h2 := hρ (.const .nilIface) _ rfl
  have h3 := run_neq_if (P := P) (U := V) (v := v) (w := w) h
  simp [execOp, hρ _ _ hx, h2, h3, eqGuard]
theorem y_neN {x : Operand} {T U : TypeId} [h : IfT P T] (hx : ev l x = some .nilIface) : Y P S ⟨d, .binOp .neq T x (.const .nilIface) U, ty, pos, af, g⟩ l (.bool false) := .mk fun w _ ρ hρ => by
  have h2 := hρ (.const .nilIface) _ rfl
  have h3 := run_neq_nil (P := P) (w := w) h
  simp [execOp, hρ _ _ hx, h2, h3, eqGuard_nil_constR]
end
section
variable {M : Md} {P : Program} {n : Nat} {ds : List Deferred} {ops : Array Oper} {Q : Exit → Act → World → Prop} {rest : Tr} {l : List (Nat × Value)} {w0 : World} {H : List Ck} {b : Bool} {ty : TypeId} {pos : String} {af : Array Edge} {g : Option (Nat × Bool)}
/-- A method by its name. -/
theorem s_inv {d : Nat} {k : FuncId} {x : Operand} {nm : String} {T : TypeId} {v0 : Value} {R : Value → List Ck → Prop} [hm : MtT P T nm k] [hf' : FnT P k] (hx : ev l x = some (.iface T v0)) (hf : FnS P w0 H k #[v0] R)
    (h : ∀ v H', R v H' → Chk M H' ∧ SL M P n ds ops Q rest ((d, v) :: l) w0 H') (hb : M.act b = true := by exact rfl) (hg : gOk ops l g = true := by exact rfl) (hd : Nat.blt d n = true := by exact rfl) :
    SL M P n ds ops Q (.one b ⟨some d, .call { callee := .invoke x nm, args := #[], argTypes := #[] }, ty, pos, af, g⟩ rest) l w0 H := .mk fun w hs => .mk fun a hfr => by
  unfold WL
  rw [if_pos (gOk_spec hg hfr)]
  refine .inr ⟨by simpa using Md.any hb, ?_⟩
  unfold Oper.wp
  have : (execOp a.eval ⟨some d, .call { callee := .invoke x nm, args := #[], argTypes := #[] }, ty, pos, af, g⟩).run P w = .ok (.enter k #[v0]) w := by
    have h1 := hm.run v0 #[] w
    have h2 := hf'.run #[v0] w
    simp [execOp, resolve, hfr.agr _ _ hx, invoke, h1, h2]
  rw [this]
  refine Calls.mono (hf w hs) ?_
  rintro e w' ⟨v, rfl, H', h1, h2⟩
  exact ⟨(h v H' h1).1.out h2, ((h v H' h1).2.out w' h2).out _ (hfr.put v hd)⟩
end
end Go.Sx
namespace Go.Sx
open Go Go.Proofs
set_option maxRecDepth 10000
variable {w0 : World} {H : List Ck}
/-- Of which keys. -/
def saidR (m : MD) : T3 := if m.kd = 1 ∨ m.kd = 2 then (m.lo, m.lo ++ [0], false) else if m.kd = 3 then (m.lo, m.hi, false) else t30
abbrev SysR (a : Option Addr) (c : Nat) (lo : Bs) (H : List Ck) : Value → List Ck → Prop := fun v H' => ∃ (a' : Option Addr) (c' : Nat), v = .agg (Rg.cells ⟨a, c, lo, a', c', lo ++ [0], false⟩).toArray ∧ H' = ob a' c' (lo ++ [0]) :: H
abbrev SdR (m : Mg) (H : List Ck) (w0 : World) : Value → List Ck → Prop := fun v H' => ∃ (r : Rg) (a' : Option Addr) (c' : Nat) (xs : Bs), v = .agg r.cells.toArray ∧ r.d = saidR m.d ∧ H' = ob a' c' xs :: H ∧ RRg w0 (ob a' c' xs :: H) r
end Go.Sx
namespace Go.Sx
open Go Go.Proofs
set_option maxRecDepth 10000
variable {w0 : World} {H : List Ck}
def agC (m : Mg) (x y z : Option Addr × Nat) : List Value := [.int .u64 m.st, .int .i64 m.kd, .slice x.1 m.lo.length x.2, .slice y.1 m.hi.length y.2, .slice z.1 m.v.length z.2]
/-- What a message does within a range. -/
def wthM (r : T3) (m : MD) : Option MD := if emR (meR (saidR m) r) = true then none else some (if m.kd = 3 then ⟨m.st, m.kd, (meR (saidR m) r).1, (meR (saidR m) r).2.1, m.v⟩ else m)
def withinL (r : T3) (l : List MD) : List MD := l.filterMap (wthM r)
structure WiJ where
  i : Nat
  a : Option Addr
  c : Nat
  ms : List Mg
end Go.Sx
namespace Go.Sx
open Go Go.Proofs
set_option maxRecDepth 10000
variable {w0 : World} {H : List Ck}
abbrev spOk (d : List Int × List Bs) (i : Int) : Prop := d.2.length + 1 = d.1.length ∧ 0 ≤ i ∧ i < (d.1.length : Int)
def spR (d : List Int × List Bs) (w : T3) (i : Nat) : T3 := meR w (if 0 < i then d.2.getD (i - 1) [] else [], if i < d.2.length then d.2.getD i [] else [], !decide (i < d.2.length))
abbrev SpanR (d : List Int × List Bs) (w : T3) (i : Int) (H : List Ck) : Value → List Ck → Prop := fun v H' => ∃ r : Rg, v = .tuple #[.agg r.cells.toArray, .int .i64 (if spOk d i then 0 else 1)] ∧ r.d = (if spOk d i then spR d w i.toNat else t30) ∧ H' = oR r :: H
theorem spanR_1 {d : List Int × List Bs} {w : T3} {i : Int} (h : ¬ spOk d i) : SpanR d w i H (.tuple #[.agg rg0.cells.toArray, .int .i64 1]) (oR rg0 :: H) := ⟨rg0, by rw [if_neg h], by rw [if_neg h], rfl⟩
theorem spanR_0 {d : List Int × List Bs} {w : T3} {i : Nat} {r : Rg} (h : spOk d i) (hr : r.d = spR d w i) : SpanR d w i H (.tuple #[.agg r.cells.toArray, .int .i64 0]) (oR r :: H) := ⟨r, by rw [if_pos h], by rw [if_pos h, hr]; rfl, rfl⟩
theorem Kd.kgetD {k : Kd} {i : Nat} {p : SB} (h : k.ks[i]? = some p) : k.d.2.getD i [] = p.xs := by simp [h]
end Go.Sx
namespace Go.Sx
open Go
theorem common_anti : ∀ (x y : Bs), common y x = common x y
  | [], [] => rfl
  | [], _ :: _ => rfl
  | _ :: _, [] => rfl
  | a :: x, b :: y => by
    by_cases h : a = b
    · subst h; simp [common, common_anti x y]
    · have h' : ¬ b = a := fun e => h e.symm
      simp [common, h, h']
theorem common_take : ∀ (x y : Bs), x.take (common x y) = y.take (common x y)
  | [], _ => by simp [common]
  | _ :: _, [] => by simp [common]
  | a :: x, b :: y => by
    by_cases h : a = b
    · subst h; simp [common, common_take x y]
    · simp [common, h]
theorem common_ne : ∀ (x y : Bs), common x y < x.length → common x y < y.length → x.getD (common x y) 0 ≠ y.getD (common x y) 0
  | [], _, h, _ => by simp [common] at h
  | _ :: _, [], _, h => by simp [common] at h
  | a :: x, b :: y, h1, h2 => by
    by_cases h : a = b
    · subst h
      simp only [common, if_true, List.length_cons, List.getD_cons_succ] at *
      exact common_ne x y (by omega) (by omega)
    · simp only [common, if_neg h, List.getD_cons_zero]
      exact h
/-- Compare, where one is the other's beginning. -/
theorem cmp_beg {x y : Bs} (h : common x y = x.length ∨ common x y = y.length) : (cmp x y < 0 ↔ x.length < y.length) ∧ (cmp x y = 0 ↔ x.length = y.length) := by
  have h1 := cmp_common x y
  have h2 := common_le x y
  by_cases e1 : common x y = x.length <;> by_cases e2 : common x y = y.length
  · rw [if_pos ⟨e1, e2⟩] at h1; omega
  · rw [if_neg (fun g => e2 g.2), if_pos e1] at h1; omega
  · rw [if_neg (fun g => e1 g.1), if_neg e1, if_pos (.inl e2)] at h1; omega
  · exact absurd h (by rintro (g | g) <;> contradiction)
/-- Compare, where they part. -/
theorem cmp_part {x y : Bs} (h1 : common x y ≠ x.length) (h2 : common x y ≠ y.length) : (cmp x y < 0 ↔ x.getD (common x y) 0 < y.getD (common x y) 0) := by
  have h3 := common_le x y
  have hn := common_ne x y (by omega) (by omega)
  rw [cmp_common, if_neg (fun g => h1 g.1), if_neg h1]
  have hu : ∀ a b : UInt8, a ≠ b → (¬ b < a ↔ a < b) := fun a b e => by
    have : a.toNat ≠ b.toNat := fun g => e (UInt8.toNat_inj.1 g)
    simp only [UInt8.lt_iff_toNat_lt]
    omega
  by_cases hc : y.getD (common x y) 0 < x.getD (common x y) 0
  · rw [if_pos (.inr hc)]
    have := fun h => (hu _ _ hn).2 h hc
    constructor
    · intro g; omega
    · intro g; exact absurd g this
  · rw [if_neg (by rintro (g | g); exact h2 g; exact hc g)]
    exact ⟨fun _ => (hu _ _ hn).1 hc, fun _ => by omega⟩
/-- Nothing is between a key and the one with a nought behind it. -/
theorem cmp_next : ∀ (a : Bs), cmp a (a ++ [0]) = -1
  | [] => rfl
  | x :: a => by simp [cmp, cmp_next a]
theorem near_next : ∀ (a c : Bs), cmp a c < 0 → 0 ≤ cmp c (a ++ [0])
  | [], [], h => by simp [cmp] at h
  | [], z :: c, _ => by
    show 0 ≤ cmp (z :: c) [0]
    by_cases e : z = 0
    · subst e
      cases c <;> simp [cmp]
    · have h0 : (0 : UInt8) < z := by
        have : z.toNat ≠ 0 := fun g => e (UInt8.toNat_inj.1 (by simpa using g))
        simp only [UInt8.lt_iff_toNat_lt]
        show (0 : Nat) < _
        omega
      simp [cmp, e, h0]
  | x :: a, [], h => by simp [cmp] at h
  | x :: a, z :: c, h => by
    show 0 ≤ cmp (z :: c) (x :: (a ++ [0]))
    by_cases e : x = z
    · subst e
      simp only [cmp, if_true] at h ⊢
      exact near_next a c h
    · have e' : ¬ z = x := fun g => e g.symm
      simp only [cmp, if_neg e, if_neg e'] at h ⊢
      split at h
      · omega
      · rename_i g
        rw [if_pos (by
          have : x.toNat ≠ z.toNat := fun g => e (UInt8.toNat_inj.1 g)
          simp only [UInt8.lt_iff_toNat_lt] at *
          omega)]
        decide
/-- What is between two keys. -/
def btw (a b : Bs) : Bs := b.take (common a b + 1)
theorem btw_len : ∀ {a b : Bs}, cmp a b < 0 → common a b + 1 ≤ b.length
  | [], [], h => by simp [cmp] at h
  | [], _ :: _, _ => by simp [common]
  | _ :: _, [], h => by simp [cmp] at h
  | x :: a, y :: b, h => by
    by_cases e : x = y
    · subst e
      simp only [cmp, common, if_true, List.length_cons] at *
      have := btw_len h
      omega
    · simp [common, e]
theorem btw_above : ∀ {a b : Bs}, cmp a b < 0 → cmp a (btw a b) < 0
  | [], [], h => by simp [cmp] at h
  | [], y :: b, _ => by simp [btw, common, cmp]
  | _ :: _, [], h => by simp [cmp] at h
  | x :: a, y :: b, h => by
    by_cases e : x = y
    · subst e
      have := btw_above (a := a) (b := b) (by simpa [cmp] using h)
      simpa [btw, common, cmp] using this
    · simp only [cmp, if_neg e] at h
      simp only [btw, common, if_neg e, Nat.zero_add, List.take_succ_cons, List.take_zero, cmp]
      exact h
theorem take_le : ∀ (k : Nat) (b : Bs), cmp (b.take k) b ≤ 0
  | 0, [] => by simp [cmp]
  | 0, _ :: _ => by simp [cmp]
  | _ + 1, [] => by simp [cmp]
  | k + 1, x :: b => by simpa [cmp] using take_le k b
theorem btw_short : ∀ {a b c : Bs}, cmp a b < 0 → cmp a c < 0 → cmp c b ≤ 0 → common a b + 1 ≤ c.length
  | [], b, [], _, h, _ => by simp [cmp] at h
  | [], b, z :: c, _, _, _ => by simp [common]
  | x :: a, [], c, h, _, _ => by simp [cmp] at h
  | x :: a, y :: b, [], _, h, _ => by simp [cmp] at h
  | x :: a, y :: b, z :: c, h1, h2, h3 => by
    by_cases e : x = y
    · subst e
      by_cases e2 : x = z
      · subst e2
        simp only [cmp, common, if_true, List.length_cons] at *
        have := btw_short h1 h2 h3
        omega
      · exfalso
        have e2' : ¬ z = x := fun g => e2 g.symm
        simp only [cmp, if_neg e2, if_neg e2'] at h2 h3
        split at h2
        · omega
        · split at h3
          · omega
          · have : x.toNat ≠ z.toNat := fun g => e2 (UInt8.toNat_inj.1 g)
            simp only [UInt8.lt_iff_toNat_lt] at *
            omega
    · simp [common, e]
theorem btw_ahead : ∀ (a b : Bs), cmp (b.take (common a b)) a ≤ 0 := fun a b => by
  rw [← common_take a b]
  exact take_le _ _
theorem cmp_zero_iff {a b : Bs} : cmp a b = 0 ↔ a = b := cmp_eq a b
end Go.Sx
