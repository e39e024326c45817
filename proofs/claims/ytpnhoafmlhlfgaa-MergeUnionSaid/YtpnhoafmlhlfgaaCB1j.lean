/- Part of a proof: several parts of a walk, one behind the other. -/
import Derived.Test.YtpnhoafmlhlfgaaCZGj
import Derived.Test.YtpnhoafmlhlfgaaCO1
namespace Go.Sx
open Go Go.Proofs
/-- A type that is no interface. -/
class CcT (P : Program) (T : TypeId) : Prop where
  h : P.concrete T = true
/-- An interface. -/
class IfT (P : Program) (T : TypeId) : Prop where
  ok : (match P.underlying T with | some (.interface _) => true | _ => false) = true
/-- The method of a type by name. -/
class MtT (P : Program) (T : TypeId) (nm : String) (k : outParam FuncId) : Prop where
  run : ∀ (v : Value) (args : Array Value) (w : World), (callMethod (.iface T v) nm args).run P w = (callFunc k (#[v] ++ args)).run P w
section
variable {P : Program} {S : World → Prop} {l : List (Nat × Value)} {d : Option Tmp} {ty : TypeId} {pos : String} {af : Array Edge} {g : Option (Nat × Bool)}
theorem y_mkI {x : Operand} {T : TypeId} [h : CcT P T] {v : Value} (hx : ev l x = some v) : Y P S ⟨d, .makeInterface T x, ty, pos, af, g⟩ l (.iface T v) := .mk fun w _ ρ hρ => by
  simp [execOp, hρ _ _ hx, run_makeInterface w T v h.h]
theorem IfT.und {T : TypeId} (h : IfT P T) : ∃ ms, P.underlying T = some (.interface ms) := by
  have := h.ok
  split at this
  · exact ⟨_, by assumption⟩
  · cases this
theorem run_eqI (n : Nat) {T U : TypeId} {v : Value} {w : World} (h : IfT P T) : (Op.equalIn (n + 1) T (.iface U v) .nilIface).run P w = .ok false w := by
  obtain ⟨ms, hu⟩ := h.und
  simp [Op.equalIn, run_underlying hu]
theorem run_eqN (n : Nat) {T : TypeId} {w : World} (h : IfT P T) : (Op.equalIn (n + 1) T .nilIface .nilIface).run P w = .ok true w := by
  obtain ⟨ms, hu⟩ := h.und
  simp [Op.equalIn, run_underlying hu]
theorem run_neq_if {T U : TypeId} {v : Value} {w : World} (h : IfT P T) : (binOp .neq T (.iface U v) .nilIface).run P w = .ok (.bool true) w := by
  simp only [binOp]
  simp [show Op.equal T (.iface U v) .nilIface = Op.equalIn (9999 + 1) T (.iface U v) .nilIface from rfl, run_eqI (P := P) 9999 (v := v) h]
theorem run_neq_nil {T : TypeId} {w : World} (h : IfT P T) : (binOp .neq T .nilIface .nilIface).run P w = .ok (.bool false) w := by
  simp only [binOp]
  simp [show Op.equal T .nilIface .nilIface = Op.equalIn (9999 + 1) T .nilIface .nilIface from rfl, run_eqN (P := P) 9999 h]
theorem y_neI {x : Operand} {T U V : TypeId} [h : IfT P T] {v : Value} (hx : ev l x = some (.iface V v)) : Y P S ⟨d, .binOp .neq T x (.const .nilIface) U, ty, pos, af, g⟩ l (.bool true) := .mk fun w _ ρ hρ => by
  have h2 := hρ (.const .nilIface) _ rfl
  have h3 := run_neq_if (P := P) (U := V) (v := v) (w := w) h
  simp [execOp, hρ _ _ hx, h2, h3, eqGuard]
theorem y_neN {x : Operand} {T U : TypeId} [h : IfT P T] (hx : ev l x = some .nilIface) : Y P S ⟨d, .binOp .neq T x (.const .nilIface) U, ty, pos, af, g⟩ l (.bool false) := .mk fun w _ ρ hρ => by
  have h2 := hρ (.const .nilIface) _ rfl
  have h3 := run_neq_nil (P := P) (w := w) h
  simp [execOp, hρ _ _ hx, h2, h3, eqGuard_nil_constR]
end
section
variable {M : Md} {P : Program} {n : Nat} {ds : Dx} {ops : Array Oper} {Q : Exit → Act → World → Prop} {rest : Tr} {l : List (Nat × Value)} {w0 : World} {H : List Ck} {b : Bool} {ty : TypeId} {pos : String} {af : Array Edge} {g : Option (Nat × Bool)}
/-- A method by its name. -/
theorem s_inv {d : Nat} {k : FuncId} {x : Operand} {nm : String} {T : TypeId} {v0 : Value} {R : Value → List Ck → Prop} [hm : MtT P T nm k] [hf' : FnT P k] (hx : ev l x = some (.iface T v0)) (hf : FnS P w0 H k #[v0] R)
    (h : ∀ v H', R v H' → Chk M H' ∧ SL M P n ds ops Q rest ((d, v) :: l) w0 H') (hb : M.act b = true := by exact rfl) (hg : gOk ops l g = true := by exact rfl) (hd : Nat.blt d n = true := by exact rfl) :
    SL M P n ds ops Q (.one b ⟨some d, .call { callee := .invoke x nm, args := #[], argTypes := #[] }, ty, pos, af, g⟩ rest) l w0 H := .mk fun w hs => .mk fun a hfr => by
  unfold WL
  rw [if_pos (gOk_spec hg hfr)]
  refine .inr ⟨by simpa using Md.any hb, ?_⟩
  have : (execOp a.eval ⟨some d, .call { callee := .invoke x nm, args := #[], argTypes := #[] }, ty, pos, af, g⟩).run P w = .ok (.enter k #[v0]) w := by
    have h1 := hm.run v0 #[] w
    have h2 := hf'.run #[v0] w
    simp [execOp, resolve, hfr.agr _ _ hx, invoke, h1, h2]
  refine op_enter this (hf w hs) ?_
  rintro e w' ⟨v, rfl, H', h1, h2⟩
  exact ⟨(h v H' h1).1.out h2, ((h v H' h1).2.out w' h2).out _ (hfr.put v hd)⟩
end
instance : CcT Try.prog 93 := ⟨by kernel_rfl⟩
instance : CcT Try.prog 109 := ⟨by kernel_rfl⟩
instance : CcT Try.prog 111 := ⟨by kernel_rfl⟩
instance : IfT Try.prog 96 := ⟨by kernel_rfl⟩
instance : MtT Try.prog 93 "banyan/msg.says" 118 := ⟨fun v args w => by kernel_rfl⟩
instance : MtT Try.prog 109 "banyan/msg.says" 120 := ⟨fun v args w => by kernel_rfl⟩
instance : MtT Try.prog 111 "banyan/msg.says" 121 := ⟨fun v args w => by kernel_rfl⟩
end Go.Sx
namespace Go.Sx
open Go Go.Proofs
set_option maxRecDepth 10000

def sizedB (size : Int) : Bool := decide (size = 512) || decide (size = 1024) || decide (size = 2048) || decide (size = 4096)
theorem sizedB_bd {size : Int} (h : sizedB size = true) : 512 ≤ size ∧ size ≤ 4096 := by
  simp only [sizedB, Bool.or_eq_true, decide_eq_true_eq] at h
  omega
/-- Children: their pages, the keys between; where they lie. -/
structure Kd where
  pa : Option Addr
  pc : Nat
  ps : List Int
  ka : Option Addr
  kc : Nat
  ks : List SB
def Kd.cells (k : Kd) : List Value := [.slice k.pa k.ps.length k.pc, .slice k.ka k.ks.length k.kc]
abbrev Kd.keys (k : Kd) : List Bs := k.ks.map SB.xs
abbrev Kd.d (k : Kd) : List Int × List Bs := (k.ps, k.keys)
theorem Kd.kget {k : Kd} {i : Nat} {p : SB} (h : k.ks[i]? = some p) : k.keys[i]? = some p.xs := by simp [h]
instance : Cel Kd := ⟨2, Kd.cells, fun _ => rfl, fun _ => rfl, Nat.two_pos⟩
abbrev kd0 : Kd := ⟨none, 0, [], none, 0, []⟩
section
variable {w0 : World} {H : List Ck}
/-- They can be read. -/
structure RKd (w0 : World) (H : List Ck) (k : Kd) : Prop where
  ps : RSl w0 H k.pa k.pc k.ps
  ks : RSl w0 H k.ka k.kc k.ks
  el : ∀ p ∈ k.ks, RBy w0 H p.a p.c p.xs
theorem RKd.tl {k : Kd} {d : Ck} (h : RKd w0 H k) : RKd w0 (d :: H) k := ⟨h.ps.tl, h.ks.tl, fun p hp => (h.el p hp).tl⟩
theorem RKd.ent {k : Kd} {H' : List Ck} (h : RKd w0 H' k) (e : Ent H H') : RKd w0 H k := ⟨h.ps.ent e, h.ks.ent e, fun p hp => (h.el p hp).ent e⟩
theorem RKd.nil : RKd w0 H kd0 := ⟨RSl.nil, RSl.nil, fun _ h => by cases h⟩
/-- Children of one's own. -/
@[reducible] def oK (k : Kd) : Ck := .star [ol 3 k.pa k.pc k.ps, ol 24 k.ka k.kc k.ks, fam 5 k.ks]
theorem RKd.oK {k : Kd} : RKd w0 (oK k :: H) k :=
  ⟨RSl.ent RSl.hd (Ent.mem' (c := ol 3 k.pa k.pc k.ps) (by simp)), RSl.ent RSl.hd (Ent.mem' (c := ol 24 k.ka k.kc k.ks) (by simp)), fun _ hp => RBy.ent RBy.hd ((Ent.mem' (c := fam 5 k.ks) (by simp)).trans (fam_mem hp))⟩
theorem rkd {k : Kd} (h : RKd w0 H k := by (repeat (first | assumption | exact RKd.oK | exact RKd.nil | apply RKd.tl)); first | done | fail) : RKd w0 H k := h
theorem Kn.kp {k : Kd} (h : RKd w0 H k) : Kn w0 H (k.ps.length ≤ k.pc ∧ k.pc ≤ maxLen) := Kn.sl h.ps
theorem Kn.kk {k : Kd} (h : RKd w0 H k) : Kn w0 H (k.ks.length ≤ k.kc ∧ k.kc ≤ maxLen) := Kn.sl h.ks
end
/-! ### Plain -/
def keysB (ks : List Bs) : Nat := (ks.map fun x => 2 + x.length).sum
theorem keysB_snoc (ks : List Bs) (x : Bs) : keysB (ks ++ [x]) = keysB ks + (2 + x.length) := by simp [keysB]
theorem keysB_app (ks ls : List Bs) : keysB (ks ++ ls) = keysB ks + keysB ls := by simp [keysB]
theorem keysB_take (ks : List Bs) (i : Nat) : keysB (ks.take i) ≤ keysB ks := by
  conv => rhs; rw [← List.take_append_drop i ks, keysB_app]
  omega
theorem keysB_get {ks : List Bs} {i : Nat} {x : Bs} (h : ks[i]? = some x) : keysB (ks.take (i + 1)) = keysB (ks.take i) + (2 + x.length) := by
  rw [← keysB_snoc]; congr 1
  obtain ⟨hi, rfl⟩ := List.getElem?_eq_some_iff.1 h
  exact (List.take_append_getElem hi).symm
def bytesK (d : List Int × List Bs) : Nat := 2 + 4 * d.1.length + keysB d.2
/-- The first key that is above. -/
def chl (ks : List Bs) (key : Bs) : Nat := ks.findIdx fun x => decide (0 < cmp x key)
end Go.Sx
namespace Go.Sx
open Go Go.Proofs
set_option maxRecDepth 10000
variable {w0 : World} {H : List Ck}
theorem chl_ge {ks : List Bs} {key : Bs} {i : Nat} (h : ∀ j x, j < i → ks[j]? = some x → ¬ 0 < cmp x key) (hi : i ≤ ks.length) : i ≤ chl ks key := by
  unfold chl
  rcases Nat.lt_or_ge (ks.findIdx fun x => decide (0 < cmp x key)) i with h1 | h1
  · exfalso
    have h2 : (ks.findIdx fun x => decide (0 < cmp x key)) < ks.length := by omega
    have := List.findIdx_getElem (w := h2)
    exact h _ _ h1 (List.getElem?_eq_getElem h2) (of_decide_eq_true this)
  · exact h1
theorem chl_eq {ks : List Bs} {key : Bs} {i : Nat} {x : Bs} (h : ∀ j x, j < i → ks[j]? = some x → ¬ 0 < cmp x key) (hx : ks[i]? = some x) (hc : 0 < cmp x key) : chl ks key = i := by
  have h1 := chl_ge h (Nat.le_of_lt (get_lt' hx))
  refine Nat.le_antisymm ?_ h1
  unfold chl
  have hi := get_lt' hx
  have : ks[i] = x := by rw [List.getElem?_eq_getElem hi] at hx; exact Option.some.inj hx
  refine Nat.le_of_not_lt fun hlt => ?_
  have h2 := List.not_of_lt_findIdx hlt
  simp only [this, decide_eq_false_iff_not] at h2
  exact h2 hc
end Go.Sx
