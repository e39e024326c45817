/- Part of a proof: several parts of a walk, one behind the other. -/
import Derived.Test.YtkcabddbeclokaaCB0j
import Derived.Test.YtkcabddbeclokaaCV3
import Derived.Test.YtkcabddbeclokaaCO2
namespace Go.Sx
open Go Go.Proofs
/-- A type that is no interface. -/
class CcT (P : Program) (T : TypeId) : Prop where
  h : P.concrete T = true
/-- An interface. -/
class IfT (P : Program) (T : TypeId) : Prop where
  ok : (match P.underlying T with | some (.interface _) => true | _ => false) = true
/-- The method of a type by name. -/
class MtT (P : Program) (T : TypeId) (nm : String) (k : outParam FuncId) : Prop where
  run : ∀ (v : Value) (args : Array Value) (w : World), (callMethod (.iface T v) nm args).run P w = (callFunc k (#[v] ++ args)).run P w
section
variable {P : Program} {S : World → Prop} {l : List (Nat × Value)} {d : Option Tmp} {ty : TypeId} {pos : String} {af : Array Edge} {g : Option (Nat × Bool)}
theorem y_mkI {x : Operand} {T : TypeId} [h : CcT P T] {v : Value} (hx : ev l x = some v) : Y P S ⟨d, .makeInterface T x, ty, pos, af, g⟩ l (.iface T v) := .mk fun w _ ρ hρ => by
  simp [execOp, hρ _ _ hx, run_makeInterface w T v h.h]
theorem IfT.und {T : TypeId} (h : IfT P T) : ∃ ms, P.underlying T = some (.interface ms) := by
  have := h.ok
  split at this
  · exact ⟨_, by assumption⟩
  · cases this
theorem run_eqI (n : Nat) {T U : TypeId} {v : Value} {w : World} (h : IfT P T) : (Op.equalIn (n + 1) T (.iface U v) .nilIface).run P w = .ok false w := by
  obtain ⟨ms, hu⟩ := h.und
  simp [Op.equalIn, run_underlying hu]
theorem run_eqN (n : Nat) {T : TypeId} {w : World} (h : IfT P T) : (Op.equalIn (n + 1) T .nilIface .nilIface).run P w = .ok true w := by
  obtain ⟨ms, hu⟩ := h.und
  simp [Op.equalIn, run_underlying hu]
theorem run_neq_if {T U : TypeId} {v : Value} {w : World} (h : IfT P T) : (binOp .neq T (.iface U v) .nilIface).run P w = .ok (.bool true) w := by
  simp only [binOp]
  simp [show Op.equal T (.iface U v) .nilIface = Op.equalIn (9999 + 1) T (.iface U v) .nilIface from rfl, run_eqI (P := P) 9999 (v := v) h]
theorem run_neq_nil {T : TypeId} {w : World} (h : IfT P T) : (binOp .neq T .nilIface .nilIface).run P w = .ok (.bool false) w := by
  simp only [binOp]
  simp [show Op.equal T .nilIface .nilIface = Op.equalIn (9999 + 1) T .nilIface .nilIface from rfl, run_eqN (P := P) 9999 h]
theorem y_neI {x : Operand} {T U V : TypeId} [h : IfT P T] {v : Value} (hx : ev l x = some (.iface V v)) : Y P S ⟨d, .binOp .neq T x (.const .nilIface) U, ty, pos, af, g⟩ l (.bool true) := .mk fun w _ ρ hρ => by
  have h2 := hρ (.const .nilIface) _ rfl
  have h3 := run_neq_if (P := P) (U := V) (v := v) (w := w) h
  simp [execOp, hρ _ _ hx, h2, h3, eqGuard]
theorem y_neN {x : Operand} {T U : TypeId} [h : IfT P T] (hx : ev l x = some .nilIface) : Y P S ⟨d, .binOp .neq T x (.const .nilIface) U, ty, pos, af, g⟩ l (.bool false) := .mk fun w _ ρ hρ => by
  have h2 := hρ (.const .nilIface) _ rfl
  have h3 := run_neq_nil (P := P) (w := w) h
  simp [execOp, hρ _ _ hx, h2, h3, eqGuard_nil_constR]
end
section
variable {M : Md} {P : Program} {n : Nat} {ds : List Deferred} {ops : Array Oper} {Q : Exit → Act → World → Prop} {rest : Tr} {l : List (Nat × Value)} {w0 : World} {H : List Ck} {b : Bool} {ty : TypeId} {pos : String} {af : Array Edge} {g : Option (Nat × Bool)}
/-- A method by its name. -/
theorem s_inv {d : Nat} {k : FuncId} {x : Operand} {nm : String} {T : TypeId} {v0 : Value} {R : Value → List Ck → Prop} [hm : MtT P T nm k] [hf' : FnT P k] (hx : ev l x = some (.iface T v0)) (hf : FnS P w0 H k #[v0] R)
    (h : ∀ v H', R v H' → Chk M H' ∧ SL M P n ds ops Q rest ((d, v) :: l) w0 H') (hb : M.act b = true := by exact rfl) (hg : gOk ops l g = true := by exact rfl) (hd : Nat.blt d n = true := by exact rfl) :
    SL M P n ds ops Q (.one b ⟨some d, .call { callee := .invoke x nm, args := #[], argTypes := #[] }, ty, pos, af, g⟩ rest) l w0 H := .mk fun w hs => .mk fun a hfr => by
  unfold WL
  rw [if_pos (gOk_spec hg hfr)]
  refine .inr ⟨by simpa using Md.any hb, ?_⟩
  unfold Oper.wp
  have : (execOp a.eval ⟨some d, .call { callee := .invoke x nm, args := #[], argTypes := #[] }, ty, pos, af, g⟩).run P w = .ok (.enter k #[v0]) w := by
    have h1 := hm.run v0 #[] w
    have h2 := hf'.run #[v0] w
    simp [execOp, resolve, hfr.agr _ _ hx, invoke, h1, h2]
  rw [this]
  refine Calls.mono (hf w hs) ?_
  rintro e w' ⟨v, rfl, H', h1, h2⟩
  exact ⟨(h v H' h1).1.out h2, ((h v H' h1).2.out w' h2).out _ (hfr.put v hd)⟩
end
instance : CcT Try.prog 151 := ⟨by kernel_rfl⟩
instance : CcT Try.prog 153 := ⟨by kernel_rfl⟩
instance : CcT Try.prog 155 := ⟨by kernel_rfl⟩
instance : IfT Try.prog 139 := ⟨by kernel_rfl⟩
instance : MtT Try.prog 151 "banyan/msg.says" 150 := ⟨fun v args w => by kernel_rfl⟩
instance : MtT Try.prog 153 "banyan/msg.says" 152 := ⟨fun v args w => by kernel_rfl⟩
instance : MtT Try.prog 155 "banyan/msg.says" 153 := ⟨fun v args w => by kernel_rfl⟩
end Go.Sx
namespace Go.Sx
open Go Go.Proofs
set_option maxRecDepth 10000
variable {w0 : World} {H : List Ck}
/-- Of which keys. -/
def saidR (m : MD) : T3 := if m.kd = 1 ∨ m.kd = 2 then (m.lo, m.lo ++ [0], false) else if m.kd = 3 then (m.lo, m.hi, false) else t30
def mntV (m : Mg) : Value :=
  if m.kd = 1 then .iface 151 (.agg #[.slice m.la m.lo.length m.lc, .slice m.va m.v.length m.vc])
  else if m.kd = 2 then .iface 153 (.agg #[.slice m.la m.lo.length m.lc])
  else if m.kd = 3 then .iface 155 (.agg #[.slice m.la m.lo.length m.lc, .slice m.ha m.hi.length m.hc])
  else .nilIface
theorem onext_s {a : Option Addr} {c : Nat} {xs : Bs} (ha : RBy w0 H a c xs) (hx : xs.length ≤ 140737488355327) : FnS Try.prog w0 H 151 #[.slice a xs.length c] (fun v H' => ∃ a' c', v = .slice a' (xs ++ [0]).length c' ∧ H' = ob a' c' (xs ++ [0]) :: H) := by
  refine fns_enter Try.func151 rfl rfl rfl ?_
  refine sx ?_
  refine s_rw (t := 6) (v' := .int .i64 ((xs.length + 1 : Nat) : Int)) rfl (ci (by omega)) ?_
  refine s_make rfl rfl (by omega) fun b => ?_
  refine sx ?_
  refine s_copy rfl rfl ?_ (ys := xs) (hk0 := by simp)
  have e : xs.take (List.replicate (xs.length + 1) (0 : UInt8)).length ++ (List.replicate (xs.length + 1) (0 : UInt8)).drop xs.length = xs ++ [0] := by
    rw [List.length_replicate, List.take_of_length_le (by omega), List.drop_replicate, show xs.length + 1 - xs.length = 1 by omega]
    rfl
  rw [e]
  refine sx ?_
  exact s_ret1 rfl rfl ⟨some b, xs.length + 1, by simp, rfl⟩
abbrev SysR (a : Option Addr) (c : Nat) (lo : Bs) (H : List Ck) : Value → List Ck → Prop := fun v H' => ∃ (a' : Option Addr) (c' : Nat), v = .agg (Rg.cells ⟨a, c, lo, a', c', lo ++ [0], false⟩).toArray ∧ H' = ob a' c' (lo ++ [0]) :: H
theorem psays_s {a a2 : Option Addr} {c n2 c2 : Nat} {xs : Bs} (ha : RBy w0 H a c xs) (hx : xs.length ≤ 140737488355327) : FnS Try.prog w0 H 150 #[.agg #[.slice a xs.length c, .slice a2 n2 c2]] (SysR a c xs H) := by
  refine fns_enter Try.func150 rfl rfl rfl ?_
  refine sx ?_
  refine s_boxA rfl fun b1 => ?_
  refine sx ?_
  refine s_alloc fun b2 => ?_
  refine sx ?_; refine s_drH (.hb b1 151 [.slice a xs.length c, .slice a2 n2 c2] :: H) (.one true 0 (.one true 1 (.one true 2 (.one true 3 (.one false 4 (.one true 5 (.one false 6 .nil))))))) mixed (by kernel_rfl) ?_; refine sx ?_
  refine s_call rfl (onext_s (xs := xs) (by exact rby) hx) ?_
  rintro _ _ ⟨a4, c4, rfl, rfl⟩
  refine ⟨chk_held (by exact ent), ?_⟩
  refine sx ?_
  refine s_retc rfl rfl (by exact at_) rfl ⟨a4, c4, rfl, rfl⟩ (by exact ent)
theorem tsays_s {a : Option Addr} {c : Nat} {xs : Bs} (ha : RBy w0 H a c xs) (hx : xs.length ≤ 140737488355327) : FnS Try.prog w0 H 152 #[.agg #[.slice a xs.length c]] (SysR a c xs H) := by
  refine fns_enter Try.func152 rfl rfl rfl ?_
  refine sx ?_
  refine s_boxA rfl fun b1 => ?_
  refine sx ?_
  refine s_alloc fun b2 => ?_
  refine sx ?_; refine s_drH (.hb b1 153 [.slice a xs.length c] :: H) (.one true 0 (.one true 1 (.one true 2 (.one true 3 (.one false 4 (.one true 5 (.one false 6 .nil))))))) mixed (by kernel_rfl) ?_; refine sx ?_
  refine s_call rfl (onext_s (xs := xs) (by exact rby) hx) ?_
  rintro _ _ ⟨a4, c4, rfl, rfl⟩
  refine ⟨chk_held (by exact ent), ?_⟩
  refine sx ?_
  refine s_retc rfl rfl (by exact at_) rfl ⟨a4, c4, rfl, rfl⟩ (by exact ent)
theorem csays_s {a a2 : Option Addr} {c c2 : Nat} {xs ys : Bs} : FnV Try.prog w0 H 153 #[.agg #[.slice a xs.length c, .slice a2 ys.length c2]] (.agg (Rg.cells ⟨a, c, xs, a2, c2, ys, false⟩).toArray) := by
  refine fns_enter Try.func153 rfl rfl rfl ?_
  refine sx ?_
  refine s_boxA rfl fun b1 => ?_
  refine sx ?_
  refine s_alloc fun b2 => ?_
  refine sx ?_
  exact s_retc rfl rfl (by exact at_) rfl ⟨rfl, rfl⟩ (by exact ent)
theorem mmeant_s {m : Mg} : FnV Try.prog w0 H 108 #[.agg m.cells.toArray] (mntV m) := by
  refine fns_enter Try.func108 rfl rfl rfl ?_
  refine sx ?_
  refine s_boxA rfl fun b1 => ?_
  refine sx ?_
  unfold mntV
  refine s_if rfl (fun t1 => ?_) (fun t1 => ?_)
  · rw [if_pos t1]
    refine sx ?_
    refine s_yS rfl rfl rfl (y_mkI rfl) ?_
    refine sx ?_
    exact s_ret1 rfl rfl ⟨rfl, rfl⟩
  rw [if_neg t1]
  refine sx ?_
  refine s_if rfl (fun t2 => ?_) (fun t2 => ?_)
  · rw [if_pos t2]
    refine sx ?_
    refine s_yS rfl rfl rfl (y_mkI rfl) ?_
    refine sx ?_
    exact s_ret1 rfl rfl ⟨rfl, rfl⟩
  rw [if_neg t2]
  refine sx ?_
  refine s_if rfl (fun t3 => ?_) (fun t3 => ?_)
  · rw [if_pos t3]
    refine sx ?_
    refine s_yS rfl rfl rfl (y_mkI rfl) ?_
    refine sx ?_
    exact s_ret1 rfl rfl ⟨rfl, rfl⟩
  rw [if_neg t3]
  refine sx ?_
  exact s_ret1 rfl rfl ⟨rfl, rfl⟩
abbrev SdR (m : Mg) (H : List Ck) (w0 : World) : Value → List Ck → Prop := fun v H' => ∃ (r : Rg) (a' : Option Addr) (c' : Nat) (xs : Bs), v = .agg r.cells.toArray ∧ r.d = saidR m.d ∧ H' = ob a' c' xs :: H ∧ RRg w0 (ob a' c' xs :: H) r
theorem msaid_s {m : Mg} (hm : RMg w0 H m) (hl : m.lo.length ≤ 140737488355327) : FnS Try.prog w0 H 74 #[.agg m.cells.toArray] (SdR m H w0) := by
  refine fns_enter Try.func74 rfl rfl rfl ?_
  have h1 := hm.lo
  have h2 := hm.hi
  refine sx ?_
  refine s_boxA rfl fun b1 => ?_
  refine sx ?_
  refine s_alloc fun b2 => ?_
  refine sx ?_
  refine s_callV rfl (mmeant_s (m := m)) ?_
  unfold mntV
  by_cases t1 : m.kd = 1
  · have e : saidR m.d = (m.lo, m.lo ++ [0], false) := if_pos (.inl t1)
    rw [if_pos t1]
    refine sx ?_
    refine s_yS rfl rfl rfl (y_neI rfl) ?_
    refine sx ?_
    refine s_inv rfl (psays_s (xs := m.lo) (by exact rby) hl) ?_
    rintro _ _ ⟨a', c', rfl, rfl⟩
    refine ⟨chk_seq, ?_⟩
    refine sx ?_
    exact s_retc rfl rfl (by exact at_) rfl ⟨⟨m.la, m.lc, m.lo, a', c', m.lo ++ [0], false⟩, a', c', m.lo ++ [0], rfl, e.symm, rfl, ⟨h1.tl, RBy.hd⟩⟩ (by exact ent)
  rw [if_neg t1]
  by_cases t2 : m.kd = 2
  · have e : saidR m.d = (m.lo, m.lo ++ [0], false) := if_pos (.inr t2)
    rw [if_pos t2]
    refine sx ?_
    refine s_yS rfl rfl rfl (y_neI rfl) ?_
    refine sx ?_
    refine s_inv rfl (tsays_s (xs := m.lo) (by exact rby) hl) ?_
    rintro _ _ ⟨a', c', rfl, rfl⟩
    refine ⟨chk_seq, ?_⟩
    refine sx ?_
    exact s_retc rfl rfl (by exact at_) rfl ⟨⟨m.la, m.lc, m.lo, a', c', m.lo ++ [0], false⟩, a', c', m.lo ++ [0], rfl, e.symm, rfl, ⟨h1.tl, RBy.hd⟩⟩ (by exact ent)
  rw [if_neg t2]
  have e0 : saidR m.d = if m.kd = 3 then (m.lo, m.hi, false) else t30 := if_neg (fun h => h.elim t1 t2)
  by_cases t3 : m.kd = 3
  · have e : saidR m.d = (m.lo, m.hi, false) := by rw [e0, if_pos t3]
    rw [if_pos t3]
    refine sx ?_
    refine s_yS rfl rfl rfl (y_neI rfl) ?_
    refine sx ?_
    refine s_inv rfl (csays_s (xs := m.lo) (ys := m.hi)) ?_
    rintro _ _ ⟨rfl, rfl⟩
    refine ⟨chk_seq, ?_⟩
    refine sx ?_
    exact s_retc rfl rfl (by exact at_) rfl ⟨⟨m.la, m.lc, m.lo, m.ha, m.hc, m.hi, false⟩, none, 0, [], rfl, e.symm, rfl, ⟨h1.tl, h2.tl⟩⟩ (Ent.addNil (by exact ent))
  rw [if_neg t3]
  rw [if_neg t3] at e0
  refine sx ?_
  refine s_yS rfl rfl rfl (y_neN rfl) ?_
  refine sx ?_
  exact s_retc rfl rfl (by exact at_) rfl ⟨rg0, none, 0, [], rfl, e0.symm, rfl, ⟨RBy.nil, RBy.nil⟩⟩ (Ent.addNil (by exact ent))
end Go.Sx
