/- Values of an interface: made, held against nil, asked for a method, for a type. -/
import Derived.Test.YtimakbpghggdfaaCH1
namespace Go.Sx
open Go Go.Proofs
/-- A type that is no interface. -/
class CcT (P : Program) (T : TypeId) : Prop where
  h : P.concrete T = true
/-- An interface. -/
class IfT (P : Program) (T : TypeId) : Prop where
  ok : (match P.underlying T with | some (.interface _) => true | _ => false) = true
/-- The method of a type by name. -/
class MtT (P : Program) (T : TypeId) (nm : String) (k : outParam FuncId) : Prop where
  run : ∀ (v : Value) (args : Array Value) (w : World), (callMethod (.iface T v) nm args).run P w = (callFunc k (#[v] ++ args)).run P w
section
variable {P : Program} {S : World → Prop} {l : List (Nat × Value)} {d : Option Tmp} {ty : TypeId} {pos : String} {af : Array Edge} {g : Option (Nat × Bool)}
theorem y_mkI {x : Operand} {T : TypeId} [h : CcT P T] {v : Value} (hx : ev l x = some v) : Y P S ⟨d, .makeInterface T x, ty, pos, af, g⟩ l (.iface T v) := .mk fun w _ ρ hρ => by
  simp [execOp, hρ _ _ hx, run_makeInterface w T v h.h]
theorem IfT.und {T : TypeId} (h : IfT P T) : ∃ ms, P.underlying T = some (.interface ms) := by
  have := h.ok
  split at this
  · exact ⟨_, by assumption⟩
  · cases this
theorem run_eqI (n : Nat) {T U : TypeId} {v : Value} {w : World} (h : IfT P T) : (Op.equalIn (n + 1) T (.iface U v) .nilIface).run P w = .ok false w := by
  obtain ⟨ms, hu⟩ := h.und
  simp [Op.equalIn, run_underlying hu]
theorem run_eqN (n : Nat) {T : TypeId} {w : World} (h : IfT P T) : (Op.equalIn (n + 1) T .nilIface .nilIface).run P w = .ok true w := by
  obtain ⟨ms, hu⟩ := h.und
  simp [Op.equalIn, run_underlying hu]
theorem run_neq_if {T U : TypeId} {v : Value} {w : World} (h : IfT P T) : (binOp .neq T (.iface U v) .nilIface).run P w = .ok (.bool true) w := by
  simp only [binOp]
  simp [show Op.equal T (.iface U v) .nilIface = Op.equalIn (9999 + 1) T (.iface U v) .nilIface from rfl, run_eqI (P := P) 9999 (v := v) h]
theorem run_neq_nil {T : TypeId} {w : World} (h : IfT P T) : (binOp .neq T .nilIface .nilIface).run P w = .ok (.bool false) w := by
  simp only [binOp]
  simp [show Op.equal T .nilIface .nilIface = Op.equalIn (9999 + 1) T .nilIface .nilIface from rfl, run_eqN (P := P) 9999 h]
theorem y_neI {x : Operand} {T U V : TypeId} [h : IfT P T] {v : Value} (hx : ev l x = some (.iface V v)) : Y P S ⟨d, .binOp .neq T x (.const .nilIface) U, ty, pos, af, g⟩ l (.bool true) := .mk fun w _ ρ hρ => by
  have h2 := hρ (.const .nilIface) _ rfl
  have h3 := run_neq_if (P := P) (U := V) (v := v) (w := w) h
  simp [execOp, hρ _ _ hx, h2, h3, eqGuard]
theorem y_neN {x : Operand} {T U : TypeId} [h : IfT P T] (hx : ev l x = some .nilIface) : Y P S ⟨d, .binOp .neq T x (.const .nilIface) U, ty, pos, af, g⟩ l (.bool false) := .mk fun w _ ρ hρ => by
  have h2 := hρ (.const .nilIface) _ rfl
  have h3 := run_neq_nil (P := P) (w := w) h
  simp [execOp, hρ _ _ hx, h2, h3, eqGuard_nil_constR]
end
section
variable {M : Md} {P : Program} {n : Nat} {ds : List Deferred} {ops : Array Oper} {Q : Exit → Act → World → Prop} {rest : Tr} {l : List (Nat × Value)} {w0 : World} {H : List Ck} {b : Bool} {ty : TypeId} {pos : String} {af : Array Edge} {g : Option (Nat × Bool)}
/-- A method by its name. -/
theorem s_inv {d : Nat} {k : FuncId} {x : Operand} {nm : String} {T : TypeId} {v0 : Value} {R : Value → List Ck → Prop} [hm : MtT P T nm k] [hf' : FnT P k] (hx : ev l x = some (.iface T v0)) (hf : FnS P w0 H k #[v0] R)
    (h : ∀ v H', R v H' → Chk M H' ∧ SL M P n ds ops Q rest ((d, v) :: l) w0 H') (hb : M.act b = true := by exact rfl) (hg : gOk ops l g = true := by exact rfl) (hd : Nat.blt d n = true := by exact rfl) :
    SL M P n ds ops Q (.one b ⟨some d, .call { callee := .invoke x nm, args := #[], argTypes := #[] }, ty, pos, af, g⟩ rest) l w0 H := .mk fun w hs => .mk fun a hfr => by
  unfold WL
  rw [if_pos (gOk_spec hg hfr)]
  refine .inr ⟨by simpa using Md.any hb, ?_⟩
  unfold Oper.wp
  have : (execOp a.eval ⟨some d, .call { callee := .invoke x nm, args := #[], argTypes := #[] }, ty, pos, af, g⟩).run P w = .ok (.enter k #[v0]) w := by
    have h1 := hm.run v0 #[] w
    have h2 := hf'.run #[v0] w
    simp [execOp, resolve, hfr.agr _ _ hx, invoke, h1, h2]
  rw [this]
  refine Calls.mono (hf w hs) ?_
  rintro e w' ⟨v, rfl, H', h1, h2⟩
  exact ⟨(h v H' h1).1.out h2, ((h v H' h1).2.out w' h2).out _ (hfr.put v hd)⟩
end
instance : CcT Try.prog 62 := ⟨by kernel_rfl⟩
instance : CcT Try.prog 88 := ⟨by kernel_rfl⟩
instance : CcT Try.prog 90 := ⟨by kernel_rfl⟩
instance : IfT Try.prog 65 := ⟨by kernel_rfl⟩
instance : MtT Try.prog 62 "banyan/msg.says" 102 := ⟨fun v args w => by kernel_rfl⟩
instance : MtT Try.prog 88 "banyan/msg.says" 103 := ⟨fun v args w => by kernel_rfl⟩
instance : MtT Try.prog 90 "banyan/msg.says" 104 := ⟨fun v args w => by kernel_rfl⟩
end Go.Sx
