/- Part of a proof: several parts of a walk, one behind the other. -/
import Derived.Test.YtimakbpghggdfaaCKB
namespace Go.Sx
open Go
theorem get_map {α β : Type} {f : α → β} {l : List α} {i : Nat} {x : α} (h : l[i]? = some x) : (l.map f)[i]? = some (f x) := by simp [h]
theorem snocT {α : Type} {l : List α} {i : Nat} {e : α} (h : l[i]? = some e) : l.take (i + 1) = l.take i ++ [e] := by
  obtain ⟨hi, rfl⟩ := List.getElem?_eq_some_iff.1 h
  exact (List.take_append_getElem hi).symm
theorem dropG {α : Type} {l : List α} {i : Nat} {e : α} (h : l[i]? = some e) : l.drop i = e :: l.drop (i + 1) := by
  obtain ⟨hi, rfl⟩ := List.getElem?_eq_some_iff.1 h
  exact List.drop_eq_getElem_cons hi
section
variable {w0 : World} {H : List Ck}
theorem s_rwQ {n : Nat} {ds : List Deferred} {Q : Exit → Act → World → Prop} {e : Exit} {l : List (Nat × Value)} {t : Nat} {v v' : Value} (h : look l t = some v) (he : v = v') (k : SQ n ds Q e ((t, v') :: l) w0 H) : SQ n ds Q e l w0 H := by
  subst he
  refine .mk fun w hs => .mk fun a ha => (k.out w hs).out a ⟨ha.size, ha.defers, fun t' u ht => ?_⟩
  simp only [look] at ht
  by_cases e : t = t'
  · subst e; simp at ht; subst ht; exact ha.has _ _ h
  · have hb : Nat.beq t t' = false := by rw [← Bool.not_eq_true, Nat.beq_eq]; exact e
    rw [hb] at ht
    exact ha.has _ u ht
end
section
variable {fn : Func} {R : Value → World → Prop} {P : Program} {n : Nat} {l : List (Nat × Value)} {w : World}
/-- Two structs are returned. -/
theorem q_retcc {t t' : Tmp} {T : TypeId} {sz : Nat} [h : AgT P T sz] {k U k' U' : Nat} {vs vs' : List Value} (hr : fn.results = #[.cell t T, .cell t' T]) (hl : look l t = some (.pointer (some ⟨k, 0, none⟩))) (hl' : look l t' = some (.pointer (some ⟨k', 0, none⟩))) (hB : HB w k U vs) (hz : vs.length = sz) (hB' : HB w k' U' vs') (hz' : vs'.length = sz)
    (hR : R (.tuple #[.agg vs.toArray, .agg vs'.toArray]) w) : QJ n [] (bodyPost P fn (RetR R)) .ret l w := .mk fun a ha => by
  subst hz
  have h1 := run_loadCells_list (P := P) (w := w) ⟨k, 0, none⟩ vs hB.cells
  have h2 := run_loadCells_list (P := P) (w := w) ⟨k', 0, none⟩ vs' hB'.cells
  rw [hz'] at h2
  exact ⟨ha.defers, .tuple #[.agg vs.toArray, .agg vs'.toArray], by simp [results, hr, Array.getD_eq_getD_getElem?, ha.has _ _ hl, ha.has _ _ hl', asAddr, loadVar, h.agg, h.size, h1, h2], _, rfl, hR⟩
end
section
variable {P : Program} {fn : Func} {R : Value → List Ck → Prop} {n : Nat} {l : List (Nat × Value)} {w0 : World} {H H' : List Ck}
theorem s_retcc {t t' : Tmp} {T : TypeId} {sz : Nat} [h : AgT P T sz] {k U k' U' : Nat} {vs vs' : List Value} {H1 H2 : List Ck} (hr : fn.results = #[.cell t T, .cell t' T]) (hl : look l t = some (.pointer (some ⟨k, 0, none⟩))) (hl' : look l t' = some (.pointer (some ⟨k', 0, none⟩))) (hB : At (.hb k U vs) (.hb k U vs) H H1) (hz : vs.length = sz) (hB' : At (.hb k' U' vs') (.hb k' U' vs') H H2) (hz' : vs'.length = sz)
    (hR : R (.tuple #[.agg vs.toArray, .agg vs'.toArray]) H') (he : Ent H H' := by first | exact entq | exact ent) : SQ n [] (bodyPost P fn (RetR (RS w0 R))) .ret l w0 H := .mk fun _ hs => q_retcc hr hl hl' (Sat.hbOf hB hs) hz (Sat.hbOf hB' hs) hz' ⟨H', hR, hs.ent he⟩
end
end Go.Sx
namespace Go.Sx
open Go Go.Proofs
/-- A type that is no interface. -/
class CcT (P : Program) (T : TypeId) : Prop where
  h : P.concrete T = true
/-- An interface. -/
class IfT (P : Program) (T : TypeId) : Prop where
  ok : (match P.underlying T with | some (.interface _) => true | _ => false) = true
/-- The method of a type by name. -/
class MtT (P : Program) (T : TypeId) (nm : String) (k : outParam FuncId) : Prop where
  run : ∀ (v : Value) (args : Array Value) (w : World), (callMethod (.iface T v) nm args).run P w = (callFunc k (#[v] ++ args)).run P w
section
variable {P : Program} {S : World → Prop} {l : List (Nat × Value)} {d : Option Tmp} {ty : TypeId} {pos : String} {af : Array Edge} {g : Option (Nat × Bool)}
theorem y_mkI {x : Operand} {T : TypeId} [h : CcT P T] {v : Value} (hx : ev l x = some v) : Y P S ⟨d, .makeInterface T x, ty, pos, af, g⟩ l (.iface T v) := .mk fun w _ ρ hρ => by
  simp [execOp, hρ _ _ hx, run_makeInterface w T v h.h]
theorem IfT.und {T : TypeId} (h : IfT P T) : ∃ ms, P.underlying T = some (.interface ms) := by
  have := h.ok
  split at this
  · exact ⟨_, by assumption⟩
  · cases this
theorem run_eqI (n : Nat) {T U : TypeId} {v : Value} {w : World} (h : IfT P T) : (Op.equalIn (n + 1) T (.iface U v) .nilIface).run P w = .ok false w := by
  obtain ⟨ms, hu⟩ := h.und
  simp [Op.equalIn, run_underlying hu]
theorem run_eqN (n : Nat) {T : TypeId} {w : World} (h : IfT P T) : (Op.equalIn (n + 1) T .nilIface .nilIface).run P w = .ok true w := by
  obtain ⟨ms, hu⟩ := h.und
  simp [Op.equalIn, run_underlying hu]
theorem run_neq_if {T U : TypeId} {v : Value} {w : World} (h : IfT P T) : (binOp .neq T (.iface U v) .nilIface).run P w = .ok (.bool true) w := by
  simp only [binOp]
  simp [show Op.equal T (.iface U v) .nilIface = Op.equalIn (9999 + 1) T (.iface U v) .nilIface from rfl, run_eqI (P := P) 9999 (v := v) h]
theorem run_neq_nil {T : TypeId} {w : World} (h : IfT P T) : (binOp .neq T .nilIface .nilIface).run P w = .ok (.bool false) w := by
  simp only [binOp]
  simp [show Op.equal T .nilIface .nilIface = Op.equalIn (9999 + 1) T .nilIface .nilIface from rfl, run_eqN (P := P) 9999 h]
theorem y_neI {x : Operand} {T U V : TypeId} [h : IfT P T] {v : Value} (hx : ev l x = some (.iface V v)) : Y P S ⟨d, .binOp .neq T x (.const .nilIface) U, ty, pos, af, g⟩ l (.bool true) := .mk fun w _ ρ hρ => by
  have h2 := hρ (.const .nilIface) _ rfl
  have h3 := run_neq_if (P := P) (U := V) (v := v) (w := w) h
  simp [execOp, hρ _ _ hx, h2, h3, eqGuard]
theorem y_neN {x : Operand} {T U : TypeId} [h : IfT P T] (hx : ev l x = some .nilIface) : Y P S ⟨d, .binOp .neq T x (.const .nilIface) U, ty, pos, af, g⟩ l (.bool false) := .mk fun w _ ρ hρ => by
  have h2 := hρ (.const .nilIface) _ rfl
  have h3 := run_neq_nil (P := P) (w := w) h
  simp [execOp, hρ _ _ hx, h2, h3, eqGuard_nil_constR]
end
section
variable {M : Md} {P : Program} {n : Nat} {ds : List Deferred} {ops : Array Oper} {Q : Exit → Act → World → Prop} {rest : Tr} {l : List (Nat × Value)} {w0 : World} {H : List Ck} {b : Bool} {ty : TypeId} {pos : String} {af : Array Edge} {g : Option (Nat × Bool)}
/-- A method by its name. -/
theorem s_inv {d : Nat} {k : FuncId} {x : Operand} {nm : String} {T : TypeId} {v0 : Value} {R : Value → List Ck → Prop} [hm : MtT P T nm k] [hf' : FnT P k] (hx : ev l x = some (.iface T v0)) (hf : FnS P w0 H k #[v0] R)
    (h : ∀ v H', R v H' → Chk M H' ∧ SL M P n ds ops Q rest ((d, v) :: l) w0 H') (hb : M.act b = true := by exact rfl) (hg : gOk ops l g = true := by exact rfl) (hd : Nat.blt d n = true := by exact rfl) :
    SL M P n ds ops Q (.one b ⟨some d, .call { callee := .invoke x nm, args := #[], argTypes := #[] }, ty, pos, af, g⟩ rest) l w0 H := .mk fun w hs => .mk fun a hfr => by
  unfold WL
  rw [if_pos (gOk_spec hg hfr)]
  refine .inr ⟨by simpa using Md.any hb, ?_⟩
  unfold Oper.wp
  have : (execOp a.eval ⟨some d, .call { callee := .invoke x nm, args := #[], argTypes := #[] }, ty, pos, af, g⟩).run P w = .ok (.enter k #[v0]) w := by
    have h1 := hm.run v0 #[] w
    have h2 := hf'.run #[v0] w
    simp [execOp, resolve, hfr.agr _ _ hx, invoke, h1, h2]
  rw [this]
  refine Calls.mono (hf w hs) ?_
  rintro e w' ⟨v, rfl, H', h1, h2⟩
  exact ⟨(h v H' h1).1.out h2, ((h v H' h1).2.out w' h2).out _ (hfr.put v hd)⟩
end
instance : CcT Try.prog 62 := ⟨by kernel_rfl⟩
instance : CcT Try.prog 88 := ⟨by kernel_rfl⟩
instance : CcT Try.prog 90 := ⟨by kernel_rfl⟩
instance : IfT Try.prog 65 := ⟨by kernel_rfl⟩
instance : MtT Try.prog 62 "banyan/msg.says" 102 := ⟨fun v args w => by kernel_rfl⟩
instance : MtT Try.prog 88 "banyan/msg.says" 103 := ⟨fun v args w => by kernel_rfl⟩
instance : MtT Try.prog 90 "banyan/msg.says" 104 := ⟨fun v args w => by kernel_rfl⟩
end Go.Sx
