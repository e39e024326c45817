/- Part of a proof: several parts of a walk, one behind the other. -/
import Derived.Test.YtimakbpghggdfaaGreatCO2j
import Derived.ChangeBookTie2
namespace Go.Sx
open Go Go.Proofs
/-- A type that is no interface. -/
class CcT (P : Program) (T : TypeId) : Prop where
  h : P.concrete T = true
/-- An interface. -/
class IfT (P : Program) (T : TypeId) : Prop where
  ok : (match P.underlying T with | some (.interface _) => true | _ => false) = true
/-- The method of a type by name. -/
class MtT (P : Program) (T : TypeId) (nm : String) (k : outParam FuncId) : Prop where
  run : ∀ (v : Value) (args : Array Value) (w : World), (callMethod (.iface T v) nm args).run P w = (callFunc k (#[v] ++ args)).run P w
section
variable {P : Program} {S : World → Prop} {l : List (Nat × Value)} {d : Option Tmp} {ty : TypeId} {pos : String} {af : Array Edge} {g : Option (Nat × Bool)}
theorem y_mkI {x : Operand} {T : TypeId} [h : CcT P T] {v : Value} (hx : ev l x = some v) : Y P S ⟨d, .makeInterface T x, ty, pos, af, g⟩ l (.iface T v) := .mk fun w _ ρ hρ => by
  simp [execOp, hρ _ _ hx, run_makeInterface w T v h.h]
theorem IfT.und {T : TypeId} (h : IfT P T) : ∃ ms, P.underlying T = some (.interface ms) := by
  have := h.ok
  split at this
  · exact ⟨_, by assumption⟩
  · cases this
theorem run_eqI (n : Nat) {T U : TypeId} {v : Value} {w : World} (h : IfT P T) : (Op.equalIn (n + 1) T (.iface U v) .nilIface).run P w = .ok false w := by
  obtain ⟨ms, hu⟩ := h.und
  simp [Op.equalIn, run_underlying hu]
theorem run_eqN (n : Nat) {T : TypeId} {w : World} (h : IfT P T) : (Op.equalIn (n + 1) T .nilIface .nilIface).run P w = .ok true w := by
  obtain ⟨ms, hu⟩ := h.und
  simp [Op.equalIn, run_underlying hu]
theorem run_neq_if {T U : TypeId} {v : Value} {w : World} (h : IfT P T) : (binOp .neq T (.iface U v) .nilIface).run P w = .ok (.bool true) w := by
  simp only [binOp]
  simp [show Op.equal T (.iface U v) .nilIface = Op.equalIn (9999 + 1) T (.iface U v) .nilIface from rfl, run_eqI (P := P) 9999 (v := v) h]
theorem run_neq_nil {T : TypeId} {w : World} (h : IfT P T) : (binOp .neq T .nilIface .nilIface).run P w = .ok (.bool false) w := by
  simp only [binOp]
  simp [show Op.equal T .nilIface .nilIface = Op.equalIn (9999 + 1) T .nilIface .nilIface from rfl, run_eqN (P := P) 9999 h]
theorem y_neI {x : Operand} {T U V : TypeId} [h : IfT P T] {v : Value} (hx : ev l x = some (.iface V v)) : Y P S ⟨d, .binOp .neq T x (.const .nilIface) U, ty, pos, af, g⟩ l (.bool true) := .mk fun w _ ρ hρ => by
  have h2 := hρ (.const .nilIface) _ rfl
  have h3 := run_neq_if (P := P) (U := V) (v := v) (w := w) h
  simp [execOp, hρ _ _ hx, h2, h3, eqGuard]
theorem y_neN {x : Operand} {T U : TypeId} [h : IfT P T] (hx : ev l x = some .nilIface) : Y P S ⟨d, .binOp .neq T x (.const .nilIface) U, ty, pos, af, g⟩ l (.bool false) := .mk fun w _ ρ hρ => by
  have h2 := hρ (.const .nilIface) _ rfl
  have h3 := run_neq_nil (P := P) (w := w) h
  simp [execOp, hρ _ _ hx, h2, h3, eqGuard_nil_constR]
end
section
variable {M : Md} {P : Program} {n : Nat} {ds : Dx} {ops : Array Oper} {Q : Exit → Act → World → Prop} {rest : Tr} {l : List (Nat × Value)} {w0 : World} {H : List Ck} {b : Bool} {ty : TypeId} {pos : String} {af : Array Edge} {g : Option (Nat × Bool)}
/-- A method by its name. -/
theorem s_inv {d : Nat} {k : FuncId} {x : Operand} {nm : String} {T : TypeId} {v0 : Value} {R : Value → List Ck → Prop} [hm : MtT P T nm k] [hf' : FnT P k] (hx : ev l x = some (.iface T v0)) (hf : FnS P w0 H k #[v0] R)
    (h : ∀ v H', R v H' → Chk M H' ∧ SL M P n ds ops Q rest ((d, v) :: l) w0 H') (hb : M.act b = true := by exact rfl) (hg : gOk ops l g = true := by exact rfl) (hd : Nat.blt d n = true := by exact rfl) :
    SL M P n ds ops Q (.one b ⟨some d, .call { callee := .invoke x nm, args := #[], argTypes := #[] }, ty, pos, af, g⟩ rest) l w0 H := .mk fun w hs => .mk fun a hfr => by
  unfold WL
  rw [if_pos (gOk_spec hg hfr)]
  refine .inr ⟨by simpa using Md.any hb, ?_⟩
  have : (execOp a.eval ⟨some d, .call { callee := .invoke x nm, args := #[], argTypes := #[] }, ty, pos, af, g⟩).run P w = .ok (.enter k #[v0]) w := by
    have h1 := hm.run v0 #[] w
    have h2 := hf'.run #[v0] w
    simp [execOp, resolve, hfr.agr _ _ hx, invoke, h1, h2]
  refine op_enter this (hf w hs) ?_
  rintro e w' ⟨v, rfl, H', h1, h2⟩
  exact ⟨(h v H' h1).1.out h2, ((h v H' h1).2.out w' h2).out _ (hfr.put v hd)⟩
end
instance : CcT Tryz.prog 91 := ⟨by kernel_rfl⟩
instance : CcT Tryz.prog 96 := ⟨by kernel_rfl⟩
instance : CcT Tryz.prog 99 := ⟨by kernel_rfl⟩
instance : IfT Tryz.prog 88 := ⟨by kernel_rfl⟩
instance : MtT Tryz.prog 91 "banyan/msg.says" 184 := ⟨fun v args w => by kernel_rfl⟩
instance : MtT Tryz.prog 96 "banyan/msg.says" 185 := ⟨fun v args w => by kernel_rfl⟩
instance : MtT Tryz.prog 99 "banyan/msg.says" 186 := ⟨fun v args w => by kernel_rfl⟩
end Go.Sx
namespace Go.Sx
open Go Go.Proofs
set_option maxRecDepth 10000

def sizedB (size : Int) : Bool := decide (size = 512) || decide (size = 1024) || decide (size = 2048) || decide (size = 4096)
theorem sizedB_bd {size : Int} (h : sizedB size = true) : 512 ≤ size ∧ size ≤ 4096 := by
  simp only [sizedB, Bool.or_eq_true, decide_eq_true_eq] at h
  omega
/-- Children: their pages, the keys between; where they lie. -/
structure Kd where
  pa : Option Addr
  pc : Nat
  ps : List Int
  ka : Option Addr
  kc : Nat
  ks : List SB
def Kd.cells (k : Kd) : List Value := [.slice k.pa k.ps.length k.pc, .slice k.ka k.ks.length k.kc]
abbrev Kd.keys (k : Kd) : List Bs := k.ks.map SB.xs
abbrev Kd.d (k : Kd) : List Int × List Bs := (k.ps, k.keys)
instance : Cel Kd := ⟨2, Kd.cells, fun _ => rfl, fun _ => rfl, Nat.two_pos⟩
abbrev kd0 : Kd := ⟨none, 0, [], none, 0, []⟩
section
variable {w0 : World} {H : List Ck}
/-- They can be read. -/
structure RKd (w0 : World) (H : List Ck) (k : Kd) : Prop where
  ps : RSl w0 H k.pa k.pc k.ps
  ks : RSl w0 H k.ka k.kc k.ks
  el : ∀ p ∈ k.ks, RBy w0 H p.a p.c p.xs
theorem RKd.tl {k : Kd} {d : Ck} (h : RKd w0 H k) : RKd w0 (d :: H) k := ⟨h.ps.tl, h.ks.tl, fun p hp => (h.el p hp).tl⟩
theorem RKd.ent {k : Kd} {H' : List Ck} (h : RKd w0 H' k) (e : Ent H H') : RKd w0 H k := ⟨h.ps.ent e, h.ks.ent e, fun p hp => (h.el p hp).ent e⟩
theorem RKd.nil : RKd w0 H kd0 := ⟨RSl.nil, RSl.nil, fun _ h => by cases h⟩
theorem Kn.kk {k : Kd} (h : RKd w0 H k) : Kn w0 H (k.ks.length ≤ k.kc ∧ k.kc ≤ maxLen) := Kn.sl h.ks
end
/-! ### Plain -/
end Go.Sx
namespace Go.Sx
open Go Go.Proofs
set_option maxRecDepth 10000
variable {w0 : World} {H : List Ck}
end Go.Sx
namespace Go.Sx
open Go Go.Proofs
set_option maxRecDepth 10000
variable {w0 : World} {H : List Ck}
end Go.Sx
namespace Go.Sx
open Go Go.Proofs
set_option maxRecDepth 10000
variable {w0 : World} {H : List Ck}
structure MgI where
  i : Nat
  j : Nat
  a : Option Addr
  c : Nat
  out : List Int
structure MgI.ok (m : MgI) (us vs : List Int) : Prop where
  hi : m.i ≤ us.length
  hj : m.j ≤ vs.length
  perm : m.out.Perm (us.take m.i ++ vs.take m.j)
  rise : m.out.Pairwise (· ≤ ·)
  la : ∀ x ∈ m.out, ∀ y ∈ us.drop m.i, x ≤ y
  lb : ∀ x ∈ m.out, ∀ y ∈ vs.drop m.j, x ≤ y
theorem dropC {α : Type} {l : List α} {i : Nat} {x : α} (h : l[i]? = some x) : l.drop i = x :: l.drop (i + 1) := by
  obtain ⟨hi, rfl⟩ := List.getElem?_eq_some_iff.1 h
  exact List.drop_eq_getElem_cons hi
theorem rise_drop {l : List Int} (h : l.Pairwise (· ≤ ·)) {i : Nat} {x : Int} (hx : l[i]? = some x) : ∀ y ∈ l.drop (i + 1), x ≤ y := by
  have := List.Pairwise.sublist (List.drop_sublist i l) h
  rw [dropC hx] at this
  exact (List.pairwise_cons.1 this).1
theorem MgI.left {m : MgI} {us vs : List Int} (h : m.ok us vs) (ha : us.Pairwise (· ≤ ·)) {x : Int} (hx : us[m.i]? = some x) (hle : ∀ y ∈ vs.drop m.j, x ≤ y) {a : Option Addr} {c : Nat} : MgI.ok ⟨m.i + 1, m.j, a, c, m.out ++ [x]⟩ us vs := by
  have hd := dropC hx
  refine ⟨get_lt' hx, h.hj, ?_, ?_, ?_, ?_⟩
  · simp only [snocT hx]
    refine (h.perm.append_right [x]).trans ?_
    rw [List.append_assoc, List.append_assoc]
    exact List.Perm.append_left _ List.perm_append_comm
  · refine List.pairwise_append.2 ⟨h.rise, by simp, fun y hy z hz => ?_⟩
    rw [List.mem_singleton.1 hz]
    exact h.la y hy x (by rw [hd]; simp)
  · intro y hy z hz
    rcases List.mem_append.1 hy with h1 | h1
    · exact h.la y h1 z (by rw [hd]; exact List.mem_cons_of_mem _ hz)
    · rw [List.mem_singleton.1 h1]; exact rise_drop ha hx z hz
  · intro y hy z hz
    rcases List.mem_append.1 hy with h1 | h1
    · exact h.lb y h1 z hz
    · rw [List.mem_singleton.1 h1]; exact hle z hz
theorem MgI.right {m : MgI} {us vs : List Int} (h : m.ok us vs) (hb : vs.Pairwise (· ≤ ·)) {x : Int} (hx : vs[m.j]? = some x) (hle : ∀ y ∈ us.drop m.i, x ≤ y) {a : Option Addr} {c : Nat} : MgI.ok ⟨m.i, m.j + 1, a, c, m.out ++ [x]⟩ us vs := by
  have hd := dropC hx
  refine ⟨h.hi, get_lt' hx, ?_, ?_, ?_, ?_⟩
  · simp only [snocT hx]
    rw [← List.append_assoc]
    exact h.perm.append_right [x]
  · refine List.pairwise_append.2 ⟨h.rise, by simp, fun y hy z hz => ?_⟩
    rw [List.mem_singleton.1 hz]
    exact h.lb y hy x (by rw [hd]; simp)
  · intro y hy z hz
    rcases List.mem_append.1 hy with h1 | h1
    · exact h.la y h1 z hz
    · rw [List.mem_singleton.1 h1]; exact hle z hz
  · intro y hy z hz
    rcases List.mem_append.1 hy with h1 | h1
    · exact h.lb y h1 z (by rw [hd]; exact List.mem_cons_of_mem _ hz)
    · rw [List.mem_singleton.1 h1]; exact rise_drop hb hx z hz
end Go.Sx
namespace Go.Sx
open Go Go.Proofs
set_option maxRecDepth 10000
variable {w0 : World} {H : List Ck}
theorem flatS {α β : Type} (f : α → List β) {l : List α} {i : Nat} {x : α} (h : l[i]? = some x) : (l.take (i + 1)).flatMap f = (l.take i).flatMap f ++ f x := by
  rw [snocT h, List.flatMap_append]; simp
end Go.Sx

