/- Part three: functions: how a walk begins and ends, calls by contract, operations that act. -/
import Derived.Test.YtbkaabjjmoaijaaSxT
namespace Go.Sx
open Go

/-- What a call that returns is said to do. -/
def RetR (R : Value → World → Prop) : Ending → World → Prop := fun e w => ∃ v, e = .returned v ∧ R v w
/-- A contract: the function k, called so, returns, and R holds of its value and of the world behind it. -/
def Fn (P : Program) (k : FuncId) (args : Array Value) (w : World) (R : Value → World → Prop) : Prop := Calls P k args w (RetR R)
theorem Fn.mono {P : Program} {k : FuncId} {args : Array Value} {w : World} {R R' : Value → World → Prop} (h : Fn P k args w R) (hr : ∀ v w', R v w' → R' v w') : Fn P k args w R' :=
  Calls.mono h fun _ _ ⟨v, he, hR⟩ => ⟨v, he, hr _ _ hR⟩

def slots : Nat → List Value → List (Nat × Value)
  | _, [] => []
  | i, v :: vs => (i, v) :: slots (i + 1) vs
theorem look_slots : ∀ (vs : List Value) (i t : Nat) (v : Value), look (slots i vs) t = some v → i ≤ t ∧ vs[t - i]? = some v
  | [], i, t, v, h => by simp [slots, look] at h
  | u :: us, i, t, v, h => by
    simp only [slots, look] at h
    by_cases e : i = t
    · subst e; simp at h; subst h; simp
    · have hb : Nat.beq i t = false := by rw [← Bool.not_eq_true, Nat.beq_eq]; exact e
      rw [hb] at h
      obtain ⟨h1, h2⟩ := look_slots us (i + 1) t v h
      refine ⟨by omega, ?_⟩
      have : t - i = (t - (i + 1)) + 1 := by omega
      rw [this]; simpa using h2
theorem frok_start {n : Nat} (args : List Value) (hn : args.length ≤ n) : FrOk n [] (slots 0 args) { tmps := args.toArray ++ Array.replicate (n - args.toArray.size) undef, defers := [] } := by
  refine ⟨by simp; omega, rfl, fun t v ht => ?_⟩
  obtain ⟨_, h2⟩ := look_slots args 0 t v ht
  simp only [Nat.sub_zero] at h2
  have : t < args.length := (List.getElem?_eq_some_iff.1 h2).1
  simp [Array.getElem?_append, this]
  exact (List.getElem?_eq_some_iff.1 h2).2

theorem fn_enter {P : Program} {k : FuncId} {fn : Func} {c : Code} {args : List Value} {w : World} {R : Ending → World → Prop} {n : Nat}
    (hf : P.funcs[k]? = some fn) (hb : fn.body = some c) (hn : fn.ntmps = n) (hl : Nat.ble args.length n = true)
    (h : CJ P n [] c (bodyPost P fn R) (slots 0 args) w) : Calls P k args.toArray w R := by
  refine calls_of_wp hf hb ?_
  subst hn
  exact h.out _ (frok_start args (by simpa using hl))

section
variable {P : Program} {fn : Func} {R : Value → World → Prop} {n : Nat} {l : List (Nat × Value)} {w : World}
theorem q_ret1 {t : Tmp} {v : Value} (hr : fn.results = #[.tmp t]) (hl : look l t = some v) (h : R v w) : QJ n [] (bodyPost P fn (RetR R)) .ret l w := .mk fun a ha =>
  ⟨ha.defers, v, by rw [results_tmp hr]; simp [Array.getD_eq_getD_getElem?, ha.has _ _ hl], v, rfl, h⟩
theorem q_ret2 {t u : Tmp} {v v' : Value} (hr : fn.results = #[.tmp t, .tmp u]) (hl : look l t = some v) (hl' : look l u = some v') (h : R (.tuple #[v, v']) w) : QJ n [] (bodyPost P fn (RetR R)) .ret l w := .mk fun a ha =>
  ⟨ha.defers, .tuple #[v, v'], by rw [results_tmp2 hr]; simp [Array.getD_eq_getD_getElem?, ha.has _ _ hl, ha.has _ _ hl'], _, rfl, h⟩
theorem q_ret0 (hr : fn.results = #[]) (h : R (.tuple #[]) w) : QJ n [] (bodyPost P fn (RetR R)) .ret l w := .mk fun a ha =>
  ⟨ha.defers, .tuple #[], by rw [results_none hr], _, rfl, h⟩
theorem q_end0 (hr : fn.results = #[]) (h : R (.tuple #[]) w) : QJ n [] (bodyPost P fn (RetR R)) .normal l w := .mk fun a ha =>
  ⟨ha.defers, .tuple #[], by rw [results_none hr], _, rfl, h⟩
end

/-! ### Regions that draw: the class 'all that was there when it began is there yet' -/
theorem c_dr {P : Program} {n : Nat} {ds : List Deferred} {Q : Exit → Act → World → Prop} {l : List (Nat × Value)} {w : World} {id : Nat} {lo : List Oper} (G : Nat → Prop) (π : It) (hm : P.follows .mixedOrders = true)
    (hc : (Region.noSelect lo.toArray && (π.depth == lo.toArray.size) && π.level && chkOrder lo.toArray π true (Array.replicate lo.toArray.size false)) = true)
    (h : ∀ w1, Ex w w1 → w1.heap = w.heap → LJ (held (Ext G w)) P n ds lo.toArray (NoPan Q) (ordered lo.toArray π) l w1) : CJ P n ds (.region id lo.toArray true) Q l w :=
  c_draw (Ext G w) π hm hc (Ext.drew w) (h w.drew (Ext.drew w) rfl)

/-! ### Steps that act -/
section
variable {M : Mode} {P : Program} {n : Nat} {ds : List Deferred} {ops : Array Oper} {Q : Exit → Act → World → Prop} {b : Bool} {rest : Tr} {l : List (Nat × Value)} {w : World}
variable {op : Op} {ty : TypeId} {pos : String} {af : Array Edge} {g : Option (Nat × Bool)}

/-- It acts: a value, a new world. -/
theorem l_e {d : Nat} {v : Value} {w' : World} (hb : (M.any || !b) = true) (hg : gOk ops l g = true) (hd : Nat.blt d n = true)
    (he : ∀ ρ, Agr l ρ → (execOp ρ ⟨some d, op, ty, pos, af, g⟩).run P w = .ok (.value v) w') (hc : M.chk w')
    (h : LJ M P n ds ops Q rest ((d, v) :: l) w') : LJ M P n ds ops Q (.one b ⟨some d, op, ty, pos, af, g⟩ rest) l w := by
  refine .mk fun a ha => ?_
  unfold WL
  rw [if_pos (gOk_spec hg ha)]
  refine .inr ⟨by simpa using hb, ?_⟩
  unfold Oper.wp
  rw [he _ ha.agr]
  exact ⟨hc, h.out _ (ha.put v hd)⟩
/-- It acts: no value. -/
theorem l_u {w' : World} (hb : (M.any || !b) = true) (hg : gOk ops l g = true)
    (he : ∀ ρ, Agr l ρ → (execOp ρ ⟨none, op, ty, pos, af, g⟩).run P w = .ok .skip w') (hc : M.chk w')
    (h : LJ M P n ds ops Q rest l w') : LJ M P n ds ops Q (.one b ⟨none, op, ty, pos, af, g⟩ rest) l w := by
  refine .mk fun a ha => ?_
  unfold WL
  rw [if_pos (gOk_spec hg ha)]
  refine .inr ⟨by simpa using hb, ?_⟩
  unfold Oper.wp
  rw [he _ ha.agr]
  exact ⟨hc, h.out _ ha⟩
/-- The values of a list of operands. -/
def evs (l : List (Nat × Value)) : List Operand → Option (List Value)
  | [] => some []
  | x :: xs => match ev l x, evs l xs with
    | some v, some vs => some (v :: vs)
    | _, _ => none
theorem evs_map {ρ : Operand → Value} (hρ : Agr l ρ) : ∀ {xs : List Operand} {vs : List Value}, evs l xs = some vs → xs.map ρ = vs
  | [], vs, h => by simp [evs] at h; simp [h]
  | x :: xs, vs, h => by
    unfold evs at h
    split at h
    · rename_i v us h1 h2
      simp only [Option.some.injEq] at h
      subst h
      simp [hρ _ _ h1, evs_map hρ h2]
    · cases h
/-- A call of a function by its contract. -/
theorem l_call {d : Nat} {k : FuncId} {xs : List Operand} {ts : Array TypeId} {args : List Value} {R : Value → World → Prop} [hk : FnT P k] (hb : (M.any || !b) = true) (hg : gOk ops l g = true) (hd : Nat.blt d n = true)
    (ha : evs l xs = some args) (hf : Fn P k args.toArray w R) (h : ∀ v w', R v w' → M.chk w' ∧ LJ M P n ds ops Q rest ((d, v) :: l) w') :
    LJ M P n ds ops Q (.one b ⟨some d, .call { callee := .value (.func k), args := xs.toArray, argTypes := ts }, ty, pos, af, g⟩ rest) l w := by
  refine .mk fun a hfr => ?_
  unfold WL
  rw [if_pos (gOk_spec hg hfr)]
  refine .inr ⟨by simpa using hb, ?_⟩
  have hargs := evs_map hfr.agr ha
  unfold Oper.wp
  have : (execOp a.eval ⟨some d, .call { callee := .value (.func k), args := xs.toArray, argTypes := ts }, ty, pos, af, g⟩).run P w = .ok (.enter k args.toArray) w := by
    simp [execOp, resolve, Act.eval, Deferred.ofValue, invoke, hargs, hk.run]
  rw [this]
  refine Calls.mono hf ?_
  rintro e w' ⟨v, rfl, hR⟩
  exact ⟨(h v w' hR).1, (h v w' hR).2.out _ (hfr.put v hd)⟩
/-- A call whose value is dropped. -/
theorem l_call0 {k : FuncId} {xs : List Operand} {ts : Array TypeId} {args : List Value} {R : Value → World → Prop} [hk : FnT P k] (hb : (M.any || !b) = true) (hg : gOk ops l g = true)
    (ha : evs l xs = some args) (hf : Fn P k args.toArray w R) (h : ∀ v w', R v w' → M.chk w' ∧ LJ M P n ds ops Q rest l w') :
    LJ M P n ds ops Q (.one b ⟨none, .call { callee := .value (.func k), args := xs.toArray, argTypes := ts }, ty, pos, af, g⟩ rest) l w := by
  refine .mk fun a hfr => ?_
  unfold WL
  rw [if_pos (gOk_spec hg hfr)]
  refine .inr ⟨by simpa using hb, ?_⟩
  have hargs := evs_map hfr.agr ha
  unfold Oper.wp
  have : (execOp a.eval ⟨none, .call { callee := .value (.func k), args := xs.toArray, argTypes := ts }, ty, pos, af, g⟩).run P w = .ok (.enter k args.toArray) w := by
    simp [execOp, resolve, Act.eval, Deferred.ofValue, invoke, hargs, hk.run]
  rw [this]
  refine Calls.mono hf ?_
  rintro e w' ⟨v, rfl, hR⟩
  exact ⟨(h v w' hR).1, (h v w' hR).2.out _ hfr⟩
end
end Go.Sx
