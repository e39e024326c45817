/- Part of a proof: a small calculus for walks, first layer. No statement of its own. -/
import Derived.WalkKit
import Derived.OrdersHeld
import Derived.Deep.LoopGhost
import Derived.OrdersIn
import Derived.TacticsIn
import Derived.RangeFuncIn
import Derived.RangeFuncRecord
import Derived.Test.YtimakbpghggdfaaGreatRows
import Derived.Laws.Cover3
import Derived.Defers
import Derived.Recover
import Derived.Lib.EndianBits
namespace Go.Sx
open Go

/-- What a list of known slots says of slot t. -/
def look : List (Nat × Value) → Nat → Option Value
  | [], _ => none
  | (i, v) :: l, t => bif Nat.beq i t then some v else look l t

/-- What a frame has put off, and in which loop's round it is. -/
structure Dx where
  l : List Deferred
  r : Option Nat
/-- No fence; a round of this loop. -/
abbrev fR (r : Option Nat) : Fence := { Fence.wide with round := r }
/-- The frame has n slots, these deferred calls, and at least what the list says. -/
structure FrOk (n : Nat) (ds : Dx) (l : List (Nat × Value)) (a : Act) : Prop where
  size : a.tmps.size = n
  defers : a.defers = ds.l
  has : ∀ t v, look l t = some v → a.tmps[t]? = some v

/-- The value of an operand, as far as the list tells it. -/
def ev (l : List (Nat × Value)) : Operand → Option Value
  | .tmp t => look l t
  | .const v => some v
  | .global g => some (.pointer (some ⟨g, 0, none⟩))
  | .func f => some (.func (.func f) #[] #[])

def Agr (l : List (Nat × Value)) (ρ : Operand → Value) : Prop := ∀ x v, ev l x = some v → ρ x = v

theorem FrOk.agr {n : Nat} {ds : Dx} {l : List (Nat × Value)} {a : Act} (h : FrOk n ds l a) : Agr l a.eval := by
  intro x v hx
  cases x with
  | tmp t =>
    have := h.has t v hx
    simp [Act.eval, Array.getD_eq_getD_getElem?, this]
  | const u => exact Option.some.inj hx
  | global g => exact Option.some.inj hx
  | func f => exact Option.some.inj hx

theorem FrOk.put {n : Nat} {ds : Dx} {l : List (Nat × Value)} {a : Act} (h : FrOk n ds l a) {d : Nat} (v : Value) (hd : Nat.blt d n = true) :
    FrOk n ds ((d, v) :: l) (a.put (some d) v) := by
  have hd' : d < a.tmps.size := by rw [h.size]; simpa using hd
  refine ⟨by simp [Act.put, h.size], by simp [Act.put, h.defers], ?_⟩
  intro t u ht
  simp only [look, Act.put] at *
  by_cases e : d = t
  · subst e
    simp at ht
    subst ht
    simp [hd']
  · have hb : Nat.beq d t = false := by rw [← Bool.not_eq_true, Nat.beq_eq]; exact e
    rw [hb] at ht
    simp only [cond_false] at ht
    rw [Array.getElem?_setIfInBounds_ne e]
    exact h.has t u ht

/-- The first list says no more than the second. -/
def Sub (l : List (Nat × Value)) (l' : List (Nat × Value)) : Prop :=
  match l with
  | [] => True
  | (t, v) :: r => look l' t = some v ∧ Sub r l'

theorem Sub.look {l' : List (Nat × Value)} : ∀ {l : List (Nat × Value)}, Sub l l' → ∀ t v, Sx.look l t = some v → Sx.look l' t = some v
  | [], _, t, v, h => by simp [Sx.look] at h
  | (i, u) :: r, hs, t, v, h => by
    obtain ⟨h1, h2⟩ := hs
    simp only [Sx.look] at h
    by_cases e : i = t
    · subst e; simp at h; subst h; exact h1
    · have hb : Nat.beq i t = false := by rw [← Bool.not_eq_true, Nat.beq_eq]; exact e
      rw [hb] at h
      exact Sub.look h2 t v h

theorem FrOk.sub {n : Nat} {ds : Dx} {l l' : List (Nat × Value)} {a : Act} (h : FrOk n ds l a) (hs : Sub l' l) : FrOk n ds l' a :=
  ⟨h.size, h.defers, fun t v ht => h.has t v (hs.look t v ht)⟩

/-! ### The walk of a region's operations -/

/-- How a region is walked: which worlds an operation that only looks must serve; what must be shown behind one that acts; may every operation act? -/
structure Mode where
  cls : World → World → Prop
  chk : World → Prop
  any : Bool

def seq : Mode := ⟨fun w w' => w' = w, fun _ => True, true⟩
def held (S : World → Prop) : Mode := ⟨fun _ w' => S w', S, false⟩

/-- Operations to come: one behind the other; or whichever of several ways comes up. -/
inductive Tr where
  | nil
  | one (b : Bool) (o : Oper) (r : Tr)
  | alt (r s : Tr)
@[reducible] def Tr.ofList : List Oper → Tr
  | [] => .nil
  | o :: r => .one true o (Tr.ofList r)
def WL (ρ : Option Nat) (M : Mode) (P : Program) (ops : Array Oper) (Q : Exit → Act → World → Prop) : Tr → Act → World → Prop
  | .nil, a, w => Q .normal a w
  | .alt r s, a, w => WL ρ M P ops Q r a w ∧ WL ρ M P ops Q s a w
  | .one b o rest, a, w =>
    if Region.wanted o (yielded ops a.tmps) = true then
      (∃ v, (∀ w', M.cls w w' → (execOp a.eval o).run P w' = .ok (.value v) w') ∧ WL ρ M P ops Q rest (a.put o.dst v) w) ∨
      ((M.any = true ∨ b = false) ∧ o.wpIn (fR ρ) 0 P a w (fun a' w' => M.chk w' ∧ WL ρ M P ops Q rest a' w') Q)
    else WL ρ M P ops Q rest (a.put o.dst undef) w

theorem sem_value {o : Oper} {ρ : Option Nat} {e : Operand → Value} {P : Program} {w w' : World} {v : Value} (h : (execOp e o).run P w = .ok (.value v) w') : (o.semAt ρ e).run P w = .ok (.value v) w' := by
  by_cases hd : ∀ c, o.op ≠ .defer c
  · rw [Oper.semAt_eq ρ e o hd]; exact h
  · exfalso
    apply hd
    intro c hc
    obtain ⟨d, op, ty, pos, af, g⟩ := o
    simp only at hc
    subst hc
    simp only [execOp, Sem.run_bind] at h
    cases hr : (resolve e c ty).run P w with
    | ok x w1 => rw [hr] at h; simp [Result.andThen] at h
    | halt x w1 => rw [hr] at h; simp [Result.andThen] at h
theorem op_mono {P : Program} {ρ : Option Nat} {o : Oper} {a : Act} {w : World} {K K' : Act → World → Prop} {Q : Exit → Act → World → Prop}
    (h : ∀ a w, K a w → K' a w) (hh : o.wpIn (fR ρ) 0 P a w K Q) : o.wpIn (fR ρ) 0 P a w K' Q := Oper.wpIn_mono h hh
theorem op_value {P : Program} {ρ : Option Nat} {o : Oper} {a : Act} {w : World} {K : Act → World → Prop} {Q : Exit → Act → World → Prop} {v : Value} (hv : (execOp a.eval o).run P w = .ok (.value v) w) (h : K (a.put o.dst v) w) : o.wpIn (fR ρ) 0 P a w K Q := by
  refine ⟨fun _ _ => trivial, ?_⟩
  rw [show (fR ρ).round = ρ from rfl, sem_value hv]
  exact h
theorem sem_of {o : Oper} {ρ : Option Nat} {e : Operand → Value} {P : Program} {w : World} {r : Result Next} (h : (execOp e o).run P w = r) (hr : ∀ d w', r ≠ .ok (.defer d) w') (hh : ∀ x w', r = .halt x w' → ∀ c, o.op ≠ .defer c) : (o.semAt ρ e).run P w = r := by
  by_cases hd : ∀ c, o.op ≠ .defer c
  · rw [Oper.semAt_eq ρ e o hd]; exact h
  · exfalso
    apply hd
    intro c hc
    obtain ⟨d, op, ty, pos, af, g⟩ := o
    simp only at hc
    subst hc
    simp only [execOp, Sem.run_bind] at h
    cases hx : (resolve e c ty).run P w with
    | ok x w1 => rw [hx] at h; simp [Result.andThen] at h; exact hr _ _ h.symm
    | halt x w1 => rw [hx] at h; simp [Result.andThen] at h; exact hh _ _ h.symm c rfl
theorem calls_r {P : Program} {ρ : Option Nat} {f : FuncId} {args : Array Value} {w : World} {R : Ending → World → Prop} (h : Calls P f args w R) : CallsIn (fR ρ) 0 P f args w R := (callsIn_wide (n := 0)).2 h
/-- An operation, by what it comes to. -/
theorem op_of {P : Program} {ρ : Option Nat} {o : Oper} {a : Act} {w : World} {K : Act → World → Prop} {Q : Exit → Act → World → Prop} {r : Result Next} (h : (execOp a.eval o).run P w = r) (hr : ∀ d w', r ≠ .ok (.defer d) w') (hh : ∀ x w', r = .halt x w' → ∀ c, o.op ≠ .defer c) (k : o.uponIn (fR ρ) 0 P a K Q r) : o.wpIn (fR ρ) 0 P a w K Q := by
  refine ⟨fun _ _ => trivial, ?_⟩
  rw [show (fR ρ).round = ρ from rfl, sem_of h hr hh]
  exact k
theorem op_enter {P : Program} {ρ : Option Nat} {o : Oper} {a : Act} {w w' : World} {K : Act → World → Prop} {Q : Exit → Act → World → Prop} {f : FuncId} {args : Array Value} {R : Ending → World → Prop} (h : (execOp a.eval o).run P w = .ok (.enter f args) w') (hc : Calls P f args w' R)
    (k : ∀ e w'', R e w'' → match e with | .returned v => K (a.put o.dst v) w'' | .panicked c => Q (.panic c) a w'' | .outgrown => LetsOut Q) : o.wpIn (fR ρ) 0 P a w K Q := by
  refine op_of h (fun _ _ e => by cases e) (fun _ _ e => by cases e) ?_
  refine ⟨(fun e => by cases e), CallsIn.mono (calls_r (ρ := ρ) hc) fun e w'' he => ?_⟩
  have := k e w'' he
  cases e <;> exact this
abbrev dx0 : Dx := ⟨[], none⟩
theorem wpList_of_WL {P : Program} {ρ : Option Nat} {ops : Array Oper} {Q : Exit → Act → World → Prop} :
    ∀ (l : List Oper) (a : Act) (w : World), WL ρ seq P ops Q (Tr.ofList l) a w → wpListIn (fR ρ) 0 P ops Q l a w
  | [], a, w, h => h
  | o :: rest, a, w, h => by
    simp only [WL] at h
    unfold wpListIn
    split
    · rename_i hw
      rw [if_pos hw] at h
      rcases h with ⟨v, hv, hr⟩ | ⟨_, hr⟩
      · exact op_value (hv w rfl) (wpList_of_WL rest _ _ hr)
      · exact op_mono (fun _ _ h => wpList_of_WL rest _ _ h.2) hr
    · rename_i hw
      rw [if_neg hw] at h
      exact ⟨fun _ _ => trivial, wpList_of_WL rest _ _ h⟩

/-! ### A region that draws its order, in a round too (after the kit's own law for activations) -/
/-- Is there a call that is put off? -/
def noDefer (ops : List Oper) : Bool := ops.all fun o => match o.op with
  | .defer _ => false
  | _ => true
theorem noDefer_spec {ops : Array Oper} (h : noDefer ops.toList = true) (j : Nat) (o : Oper) (hj : ops[j]? = some o) (c : Call) : o.op ≠ .defer c := by
  intro e
  have hm : o ∈ ops.toList := List.mem_of_getElem? (by simpa using hj)
  have := List.all_eq_true.1 h o hm
  rw [e] at this
  cases this
section
variable {P : Program} {ρ : Option Nat} {ops : Array Oper} {Q : Exit → Act → World → Prop} {S : World → Prop}
abbrev wpOp (ρ : Option Nat) (P : Program) (ops : Array Oper) (Q : Exit → Act → World → Prop) (i : Nat) (K : Act → World → Prop) (a : Act) (w : World) : Prop := wpOpIn (fR ρ) 0 P ops Q i K a w
theorem yi_wpOp {i : Nat} {o : Oper} {v : Value} {a : Act} (hi : ops[i]? = some o) (hy : YieldsIf P ops S o v a)
    {K : Act → World → Prop} {w : World} (hS : S w) (h : K (a.put o.dst v) w) : wpOp ρ P ops Q i K a w := by
  unfold Sx.wpOp wpOpIn
  simp only [hi]
  rcases hy with ⟨hw, hv⟩ | ⟨hw, rfl⟩
  · simp only [hw, if_true]; exact op_value (hv w hS) h
  · simp only [hw, Bool.false_eq_true, if_false]; exact ⟨fun _ _ => trivial, h⟩
theorem wpOp_putIf {j : Nat} {oi oj : Oper} {v : Value} (hj : ops[j]? = some oj) (hap : oi.apart ops oj = true)
    (hsi : ∀ cs b, oi.op ≠ .select cs b) (hsj : ∀ cs b, oj.op ≠ .select cs b) (hdj : ∀ c, oj.op ≠ .defer c)
    (hQ : ∀ c a w, Q (.panic c) (a.put oi.dst v) w → Q (.panic c) a w) {K : Act → World → Prop} {a : Act} {w : World}
    (hy : YieldsIf P ops S oi v a) (h : wpOp ρ P ops Q j K (a.put oi.dst v) w) :
    wpOp ρ P ops Q j (fun a' w' => YieldsIf P ops S oi v a' ∧ K (a'.put oi.dst v) w') a w := by
  obtain ⟨h1, h2, h3⟩ := Oper.apart_spec hap
  have keep : ∀ (a : Act), YieldsIf P ops S oi v a → ∀ u, YieldsIf P ops S oi v (a.put oj.dst u) := fun a hy u =>
    hy.of_same (execOp_put oi hsi a oj.dst u h3) (wanted_put oi a oj.dst u h3)
  unfold Sx.wpOp wpOpIn at *
  simp only [hj] at *
  rw [wanted_put oj a oi.dst v h1] at h
  split
  · rename_i hw
    simp only [hw, if_true] at h
    unfold Oper.wpIn at *
    refine ⟨fun _ _ => trivial, ?_⟩
    have h := h.2
    rw [Oper.semAt_eq _ _ oj hdj, execOp_put oj hsj a oi.dst v h1] at h
    rw [Oper.semAt_eq _ _ oj hdj]
    generalize (execOp a.eval oj).run P w = r at *
    cases r with
    | ok x w' =>
      cases x <;> simp only [Oper.uponIn] at h ⊢
      case value u => exact ⟨keep a hy u, by rw [← Act.put_comm a v u h2]; exact h⟩
      case skip => exact ⟨keep a hy _, by rw [← Act.put_comm a v undef h2]; exact h⟩
      case defer d =>
        refine ⟨(hy.of_same rfl rfl).of_same (execOp_put oi hsi _ oj.dst _ h3) (wanted_put oi _ oj.dst _ h3), ?_⟩
        rw [← Act.put_comm _ v undef h2, ← Act.put_defers]
        exact h
      case enter f args =>
        refine ⟨h.1, CallsIn.mono h.2 fun e w'' he => ?_⟩
        cases e with
        | returned u => exact ⟨keep a hy u, by rw [← Act.put_comm a v u h2]; exact he⟩
        | panicked c => exact hQ _ _ _ he
        | outgrown => exact he
      case row row args => exact ⟨h.1, RowsIn.mono h.2 fun u w'' he => ⟨keep a hy u, by rw [← Act.put_comm a v u h2]; exact he⟩⟩
      case round l f tmps assign body =>
        refine ⟨h.1, RoundIn.mono h.2 fun e w'' he => ?_⟩
        cases e with
        | returned u => exact ⟨keep a hy u, by rw [← Act.put_comm a v u h2]; exact he⟩
        | panicked c => exact hQ _ _ _ he
        | outgrown => exact he
    | halt x w' =>
      cases x <;> simp only [Oper.uponIn] at h ⊢
      case panic u => exact hQ _ _ _ h
  · rename_i hw
    simp only [hw] at h
    exact ⟨fun _ _ => trivial, keep a hy _, by rw [← Act.put_comm a v undef h2]; exact h.2⟩
theorem wpOp_mono {i : Nat} {a : Act} {w : World} {K K' : Act → World → Prop} (h : ∀ a w, K a w → K' a w) (hh : wpOp ρ P ops Q i K a w) : wpOp ρ P ops Q i K' a w := wpOpIn_mono h hh
def wpAnyH (ρ : Option Nat) (P : Program) (md : Region.Mode) (ops : Array Oper) (Q : Exit → Act → World → Prop) (S : World → Prop) : Nat → Array Bool → Act → World → Prop
  | 0, listed, a, w => Region.ready md ops listed = [] ∧ Q .normal a w
  | fuel + 1, listed, a, w =>
    (Region.ready md ops listed = [] → Q .normal a w) ∧
    ∀ i ∈ Region.ready md ops listed, wpOp ρ P ops Q i (fun a' w' => S w' ∧ wpAnyH ρ P md ops Q S fuel (listed.setIfInBounds i true) a' w') a w
theorem wpAny_of_held {md : Region.Mode} : ∀ (fuel : Nat) (listed : Array Bool) (a : Act) (w : World), wpAnyH ρ P md ops Q S fuel listed a w → wpAnyIn (fR ρ) 0 P md ops Q fuel listed a w
  | 0, _, _, _, h => h
  | fuel + 1, _, _, _, h => ⟨h.1, fun i hi => wpOp_mono (fun a' w' h' => wpAny_of_held fuel _ a' w' h'.2) (h.2 i hi)⟩
theorem wpAnyH_first {md : Region.Mode} {i : Nat} {oi : Oper} {v : Value} (hi : ops[i]? = some oi) (hsel : ∀ (j : Nat) (o : Oper) cs b, ops[j]? = some o → o.op ≠ .select cs b)
    (hdf : ∀ (j : Nat) (o : Oper), ops[j]? = some o → ∀ c, o.op ≠ .defer c)
    (hQ : ∀ c a w, Q (.panic c) (a.put oi.dst v) w → Q (.panic c) a w) :
    ∀ (fuel : Nat) (listed : Array Bool) (a : Act) (w : World),
      (∀ j oj, ops[j]? = some oj → j ≠ i → listed.getD j true = false → (∀ e ∈ oj.after, Region.binds md e = true → e.on ≠ i) → oi.apart ops oj = true) →
      i ∈ Region.ready md ops listed → YieldsIf P ops S oi v a → S w →
      wpAnyH ρ P md ops Q S fuel (listed.setIfInBounds i true) (a.put oi.dst v) w → wpAnyH ρ P md ops Q S (fuel + 1) listed a w := by
  intro fuel
  induction fuel with
  | zero =>
    intro listed a w _ hr hy hS H
    refine ⟨fun h => (by rw [h] at hr; cases hr), fun j hj => ?_⟩
    by_cases hji : j = i
    · subst hji; exact yi_wpOp hi hy hS ⟨hS, H⟩
    · have := ready_mono hj hji
      rw [H.1] at this
      cases this
  | succ fuel ih =>
    intro listed a w hfree hr hy hS H
    refine ⟨fun h => (by rw [h] at hr; cases hr), fun j hj => ?_⟩
    by_cases hji : j = i
    · subst hji; exact yi_wpOp hi hy hS ⟨hS, H⟩
    · have h1 := H.2 j (ready_mono hj hji)
      obtain ⟨hjun, oj, hoj, hall⟩ := mem_ready.1 hj
      have hnot : ∀ e ∈ oj.after, Region.binds md e = true → e.on ≠ i := fun e he hb heq => by
        have h1 := hall e he hb
        have h0 := (mem_ready.1 hr).1
        rw [heq] at h1
        rcases Nat.lt_or_ge i listed.size with h' | h'
        · simp [h'] at h0 h1; rw [h0] at h1; cases h1
        · simp [Array.getElem?_eq_none h'] at h1
      have h2 := wpOp_putIf hoj (hfree j oj hoj hji hjun hnot) (fun cs b => hsel i oi cs b hi) (fun cs b => hsel j oj cs b hoj) (hdf j oj hoj) hQ hy h1
      have hfree' : ∀ k ok, ops[k]? = some ok → k ≠ i → (listed.setIfInBounds j true).getD k true = false →
          (∀ e ∈ ok.after, Region.binds md e = true → e.on ≠ i) → oi.apart ops ok = true := fun k ok hk hki hun hno => by
        refine hfree k ok hk hki ?_ hno
        by_cases hjk : j = k
        · subst hjk; exact hjun
        · rw [getD_set_ne true hjk] at hun; exact hun
      refine wpOp_mono (fun a' w' h3 => ⟨h3.2.1, ih (listed.setIfInBounds j true) a' w' hfree' (ready_mono hr (Ne.symm hji)) h3.1 h3.2.1 ?_⟩) h2
      rw [Array.setIfInBounds_comm _ _ hji]
      exact h3.2.2
theorem wpAnyH_take {md : Region.Mode} {i : Nat} {oi : Oper} {v : Value} {fuel : Nat} {listed : Array Bool} {a : Act} {w : World} (hi : ops[i]? = some oi)
    (hs : Region.noSelect ops = true) (hd : noDefer ops.toList = true) (hf : Region.free md ops listed i = true) (hr : (Region.ready md ops listed).contains i = true)
    (hQ : ∀ c a w, Q (.panic c) (a.put oi.dst v) w → Q (.panic c) a w) (hy : YieldsIf P ops S oi v a) (hS : S w)
    (h : wpAnyH ρ P md ops Q S fuel (listed.setIfInBounds i true) (a.put oi.dst v) w) : wpAnyH ρ P md ops Q S (fuel + 1) listed a w :=
  wpAnyH_first hi (Region.noSelect_spec hs) (noDefer_spec hd) hQ fuel listed a w (Region.free_spec hi hf) (by simpa using hr) hy hS h
theorem wpAnyH_all {md : Region.Mode} {rs : List Nat} {fuel : Nat} {listed : Array Bool} {a : Act} {w : World} (hr : Region.ready md ops listed = rs) (hne : rs ≠ [])
    (h : ∀ i ∈ rs, wpOp ρ P ops Q i (fun a' w' => S w' ∧ wpAnyH ρ P md ops Q S fuel (listed.setIfInBounds i true) a' w') a w) : wpAnyH ρ P md ops Q S (fuel + 1) listed a w :=
  ⟨fun h0 => absurd (hr ▸ h0) hne, hr ▸ h⟩
theorem wp_region_held {id : Nat} {a : Act} {w : World} (hm : P.follows .mixedOrders = true)
    (h : wpAnyH ρ P .any ops Q S ops.size (Array.replicate ops.size false) a { w with drawn := w.drawn + 1 }) : (Code.region id ops true).wpIn (fR ρ) 0 P Q a w :=
  wpIn_region_any hm (wpAny_of_held _ _ _ _ h)
end

/-- Orders, by the operations' numbers. -/
inductive It where
  | nil
  | one (b : Bool) (i : Nat) (r : It)
  | alt (r s : It)
def It.heads : It → List Nat
  | .nil => []
  | .one _ i _ => [i]
  | .alt r s => r.heads ++ s.heads
/-- Orders in which what only looks is taken as soon as it may, and each thing that acts and may come up has its way. The Bool: may a single act stand for all that is ready? -/
def chkOrder (ops : Array Oper) : It → Bool → Array Bool → Bool
  | .nil, top, listed => top && (Region.ready .any ops listed).isEmpty
  | .one true i r, top, listed => top && (ops[i]?).isSome && Region.free .any ops listed i && (Region.ready .any ops listed).contains i && chkOrder ops r true (listed.setIfInBounds i true)
  | .one false i r, top, listed => (ops[i]?).isSome && (!top || Region.ready .any ops listed == [i]) && chkOrder ops r true (listed.setIfInBounds i true)
  | .alt r s, top, listed => (!top || Region.ready .any ops listed == r.heads ++ s.heads) && chkOrder ops r false listed && chkOrder ops s false listed
def It.depth : It → Nat
  | .nil => 0
  | .one _ _ r => r.depth + 1
  | .alt r s => if r.depth = s.depth then r.depth else 0
def It.level : It → Bool
  | .nil => true
  | .one _ _ r => r.level
  | .alt r s => (r.depth == s.depth) && r.level && s.level
/-- The region's operations in these orders. -/
@[reducible] def ordered (ops : Array Oper) : It → Tr
  | .nil => .nil
  | .one b i r => match ops[i]? with
    | some o => .one b o (ordered ops r)
    | none => .nil
  | .alt r s => .alt (ordered ops r) (ordered ops s)

theorem chk_heads (ops : Array Oper) : ∀ (π : It) (listed : Array Bool), chkOrder ops π false listed = true → π.heads ≠ []
  | .nil, _, h => by simp [chkOrder] at h
  | .one _ _ _, _, _ => by simp [It.heads]
  | .alt r s, listed, h => by
    simp only [chkOrder, Bool.and_eq_true] at h
    intro e
    exact chk_heads ops r listed h.1.2 (List.append_eq_nil_iff.1 e).1
theorem chk_level (ops : Array Oper) : ∀ (π : It) (listed : Array Bool), chkOrder ops π false listed = true → π.level = true → 0 < π.depth
  | .nil, _, h, _ => by simp [chkOrder] at h
  | .one _ _ _, _, _, _ => by simp [It.depth]
  | .alt r s, listed, h, hl => by
    simp only [chkOrder, Bool.and_eq_true] at h
    simp only [It.level, Bool.and_eq_true, beq_iff_eq] at hl
    have := chk_level ops r listed h.1.2 hl.1.2
    simp only [It.depth, hl.1.1, if_true]
    omega

section
variable {P : Program} {ρ : Option Nat} {ops : Array Oper} {Q : Exit → Act → World → Prop} {S : World → Prop}
theorem WL_one {b : Bool} {o : Oper} {r : Tr} {a : Act} {w : World} (h : WL ρ (held S) P ops Q (.one b o r) a w) (hS : S w) {K : Act → World → Prop}
    (hK : ∀ a w, S w → WL ρ (held S) P ops Q r a w → K a w) {i : Nat} (ho : ops[i]? = some o) : wpOp ρ P ops Q i K a w := by
  unfold Sx.wpOp wpOpIn
  simp only [ho]
  simp only [WL] at h
  split at h
  · rename_i hw
    rw [if_pos hw]
    rcases h with ⟨v, hv, hr⟩ | ⟨_, hr⟩
    · exact op_value (hv w hS) (hK _ _ hS hr)
    · exact op_mono (fun _ _ h => hK _ _ h.1 h.2) hr
  · rename_i hw
    rw [if_neg hw]
    exact ⟨fun _ _ => trivial, hK _ _ hS h⟩

theorem wpAnyH_of_WL (hs : Region.noSelect ops = true) (hnd : noDefer ops.toList = true) (hQ : ∀ (i : Nat) (o : Oper), ops[i]? = some o → ∀ (c : List PanicEntry) (a : Act) (v : Value) (w : World), Q (.panic c) (Act.put a o.dst v) w → Q (.panic c) a w) :
    ∀ (π : It) (listed : Array Bool) (a : Act) (w : World), π.level = true → S w → WL ρ (held S) P ops Q (ordered ops π) a w →
      (chkOrder ops π true listed = true → wpAnyH ρ P .any ops Q S π.depth listed a w) ∧
      (chkOrder ops π false listed = true → ∀ i ∈ π.heads, wpOp ρ P ops Q i (fun a' w' => S w' ∧ wpAnyH ρ P .any ops Q S (π.depth - 1) (listed.setIfInBounds i true) a' w') a w)
  | .nil, listed, a, w, _, _, h => by
    refine ⟨fun hc => ?_, fun _ i hi => by simp [It.heads] at hi⟩
    simp only [chkOrder, Bool.true_and, List.isEmpty_iff] at hc
    exact ⟨hc, h⟩
  | .one true i r, listed, a, w, hl, hS, h => by
    refine ⟨fun hc => ?_, fun hc => by simp [chkOrder] at hc⟩
    simp only [chkOrder, Bool.true_and, Bool.and_eq_true] at hc
    obtain ⟨⟨⟨h1, h2⟩, h3⟩, h4⟩ := hc
    obtain ⟨o, ho⟩ := Option.isSome_iff_exists.1 h1
    simp only [ordered, ho, WL] at h
    have ih := fun a w hS h => (wpAnyH_of_WL hs hnd hQ r (listed.setIfInBounds i true) a w hl hS h).1 h4
    show wpAnyH ρ P .any ops Q S (r.depth + 1) listed a w
    split at h
    · rename_i hw
      rcases h with ⟨v, hv, hr⟩ | ⟨hb, _⟩
      · exact wpAnyH_take ho hs hnd h2 h3 (fun c a w => hQ _ _ ho c a v w) (.inl ⟨hw, hv⟩) hS (ih _ _ hS hr)
      · simp [held] at hb
    · rename_i hw
      exact wpAnyH_take ho hs hnd h2 h3 (fun c a w => hQ _ _ ho c a undef w) (.inr ⟨by simpa using hw, rfl⟩) hS (ih _ _ hS h)
  | .one false i r, listed, a, w, hl, hS, h => by
    have key : (ops[i]?).isSome = true → chkOrder ops r true (listed.setIfInBounds i true) = true →
        wpOp ρ P ops Q i (fun a' w' => S w' ∧ wpAnyH ρ P .any ops Q S r.depth (listed.setIfInBounds i true) a' w') a w := by
      intro h1 h4
      obtain ⟨o, ho⟩ := Option.isSome_iff_exists.1 h1
      simp only [ordered, ho] at h
      exact WL_one h hS (fun a w hS h => ⟨hS, (wpAnyH_of_WL hs hnd hQ r _ a w hl hS h).1 h4⟩) ho
    refine ⟨fun hc => ?_, fun hc => ?_⟩
    · simp only [chkOrder, Bool.not_true, Bool.false_or, Bool.and_eq_true, beq_iff_eq] at hc
      obtain ⟨⟨h1, h2⟩, h4⟩ := hc
      refine wpAnyH_all h2 (by simp) ?_
      intro j hj
      simp only [List.mem_singleton] at hj
      subst hj
      exact key h1 h4
    · simp only [chkOrder, Bool.not_false, Bool.true_or, Bool.and_true, Bool.and_eq_true] at hc
      intro j hj
      simp only [It.heads, List.mem_singleton] at hj
      subst hj
      exact key hc.1 hc.2
  | .alt r s, listed, a, w, hl, hS, h => by
    simp only [It.level, Bool.and_eq_true, beq_iff_eq] at hl
    obtain ⟨⟨hd, hr⟩, hs'⟩ := hl
    have hdep : (It.alt r s).depth = r.depth := by simp [It.depth, hd]
    have k1 := (wpAnyH_of_WL hs hnd hQ r listed a w hr hS h.1).2
    have k2 := (wpAnyH_of_WL hs hnd hQ s listed a w hs' hS h.2).2
    have both : chkOrder ops r false listed = true → chkOrder ops s false listed = true → ∀ i ∈ r.heads ++ s.heads,
        wpOp ρ P ops Q i (fun a' w' => S w' ∧ wpAnyH ρ P .any ops Q S ((It.alt r s).depth - 1) (listed.setIfInBounds i true) a' w') a w := by
      intro c1 c2 i hi
      rw [hdep]
      rcases List.mem_append.1 hi with hi | hi
      · exact k1 c1 i hi
      · rw [hd]; exact k2 c2 i hi
    refine ⟨fun hc => ?_, fun hc => ?_⟩
    · simp only [chkOrder, Bool.not_true, Bool.false_or, Bool.and_eq_true, beq_iff_eq] at hc
      obtain ⟨⟨h1, h2⟩, h3⟩ := hc
      have hne : r.heads ++ s.heads ≠ [] := fun e => chk_heads ops r listed h2 (List.append_eq_nil_iff.1 e).1
      cases hk : (It.alt r s).depth with
      | zero =>
        exfalso
        have := chk_level ops r listed h2 hr
        omega
      | succ k =>
        rw [hk] at both
        exact wpAnyH_all h1 hne (both h2 h3)
    · simp only [chkOrder, Bool.not_false, Bool.true_or, Bool.true_and, Bool.and_eq_true] at hc
      exact both hc.1 hc.2
end

/-! ### Judgements over lists of known slots -/

structure CJ (P : Program) (n : Nat) (ds : Dx) (c : Code) (Q : Exit → Act → World → Prop) (l : List (Nat × Value)) (w : World) : Prop where
  out : ∀ a, FrOk n ds l a → c.wpIn (fR ds.r) 0 P Q a w
structure QJ (n : Nat) (ds : Dx) (Q : Exit → Act → World → Prop) (e : Exit) (l : List (Nat × Value)) (w : World) : Prop where
  out : ∀ a, FrOk n ds l a → Q e a w
structure LJ (M : Mode) (P : Program) (n : Nat) (ds : Dx) (ops : Array Oper) (Q : Exit → Act → World → Prop) (rest : Tr) (l : List (Nat × Value)) (w : World) : Prop where
  out : ∀ a, FrOk n ds l a → WL ds.r M P ops Q rest a w

section
variable {P : Program} {n : Nat} {ds : Dx} {Q : Exit → Act → World → Prop} {l l' : List (Nat × Value)} {w : World}

theorem CJ.sub {c : Code} (h : CJ P n ds c Q l' w) (hs : Sub l' l) : CJ P n ds c Q l w := .mk fun a ha => h.out a (ha.sub hs)
theorem QJ.sub {e : Exit} (h : QJ n ds Q e l' w) (hs : Sub l' l) : QJ n ds Q e l w := .mk fun a ha => h.out a (ha.sub hs)

/-! #### Code -/
theorem c_seq {x y : Code} (h : CJ P n ds x (Exit.then (fun a w => y.wpIn (fR ds.r) 0 P Q a w) Q) l w) : CJ P n ds (.seq x y) Q l w :=
  .mk fun a ha => wpIn_seq (h.out a ha)
theorem c_cond {c : Operand} {x y : Code} {t : Bool} (hc : ev l c = some (.bool t)) (ht : t = true → CJ P n ds x Q l w)
    (hf : t = false → CJ P n ds y Q l w) : CJ P n ds (.cond c x y) Q l w :=
  .mk fun a ha => wpIn_cond_split (ha.agr _ _ hc) (fun e => (ht e).out a ha) (fun e => (hf e).out a ha)
theorem c_condT {c : Operand} {x y : Code} (hc : ev l c = some (.bool true)) (ht : CJ P n ds x Q l w) : CJ P n ds (.cond c x y) Q l w :=
  .mk fun a ha => wpIn_cond_true (ha.agr _ _ hc) (ht.out a ha)
theorem c_condF {c : Operand} {x y : Code} (hc : ev l c = some (.bool false)) (hf : CJ P n ds y Q l w) : CJ P n ds (.cond c x y) Q l w :=
  .mk fun a ha => wpIn_cond_false (ha.agr _ _ hc) (hf.out a ha)
theorem c_if {c : Operand} {x y : Code} {p : Prop} [Decidable p] (hc : ev l c = some (.bool (decide p))) (ht : p → CJ P n ds x Q l w)
    (hf : ¬ p → CJ P n ds y Q l w) : CJ P n ds (.cond c x y) Q l w :=
  c_cond hc (fun h => ht (of_decide_eq_true h)) (fun h => hf (of_decide_eq_false h))
theorem c_ifn {c : Operand} {x y : Code} {p : Prop} [Decidable p] (hc : ev l c = some (.bool (!decide p))) (ht : ¬ p → CJ P n ds x Q l w)
    (hf : p → CJ P n ds y Q l w) : CJ P n ds (.cond c x y) Q l w :=
  c_cond hc (fun h => ht (of_decide_eq_false (by simpa using h))) (fun h => hf (of_decide_eq_true (by simpa using h)))
theorem c_block {id : Nat} {c : Code} (h : CJ P n ds c (Exit.inBlock id Q) l w) : CJ P n ds (.block id c) Q l w := .mk fun a ha => wpIn_block (h.out a ha)
theorem c_skip (h : QJ n ds Q .normal l w) : CJ P n ds .skip Q l w := .mk fun a ha => wpIn_skip (h.out a ha)
theorem c_exit {id : Nat} (h : QJ n ds Q (.exit id) l w) : CJ P n ds (.exit id) Q l w := .mk fun a ha => wpIn_exit (h.out a ha)
theorem c_ret (h : QJ n ds Q .ret l w) : CJ P n ds .ret Q l w := .mk fun a ha => wpIn_ret (h.out a ha)
theorem c_reg {id : Nat} {lo : List Oper} (h : LJ seq P n ds lo.toArray Q (Tr.ofList lo) l w) : CJ P n ds (.region id lo.toArray false) Q l w :=
  .mk fun a ha => wpIn_region_lit (wpList_of_WL lo a w (h.out a ha))
/-- A region that draws its order and does not panic. -/
def NoPan (Q : Exit → Act → World → Prop) : Exit → Act → World → Prop
  | .panic _, _, _ => False
  | e, a, w => Q e a w
theorem c_draw {id : Nat} {lo : List Oper} (S : World → Prop) (π : It) (hm : P.follows .mixedOrders = true)
    (hc : (Region.noSelect lo.toArray && noDefer lo && (π.depth == lo.toArray.size) && π.level && chkOrder lo.toArray π true (Array.replicate lo.toArray.size false)) = true) (hS : S w.drew)
    (h : LJ (held S) P n ds lo.toArray (NoPan Q) (ordered lo.toArray π) l w.drew) : CJ P n ds (.region id lo.toArray true) Q l w := by
  refine .mk fun a ha => ?_
  simp only [Bool.and_eq_true, beq_iff_eq] at hc
  refine Code.wpIn_mono (Q := NoPan Q) (fun e _ _ h => by cases e <;> first | exact h | exact (h : False).elim) ?_
  refine wp_region_held (S := S) hm ?_
  have := (wpAnyH_of_WL (P := P) (Q := NoPan Q) hc.1.1.1.1 (by simpa using hc.1.1.1.2) (fun _ _ _ _ _ _ _ h => h) π _ a w.drew hc.1.2 hS (h.out a ha)).1 hc.2
  rw [hc.1.1.2] at this
  exact this
/-- The same, where it may panic; behind a panic no more is known of the frame than l0, into which the region does not write. -/
def PanTo (n : Nat) (ds : Dx) (l0 : List (Nat × Value)) (E : List PanicEntry → World → Prop) (Q : Exit → Act → World → Prop) : Exit → Act → World → Prop
  | .panic c, a, w => FrOk n ds l0 a ∧ E c w
  | e, a, w => Q e a w
def apart (l0 : List (Nat × Value)) (o : Oper) : Bool := match o.dst with
  | none => true
  | some d => (look l0 d).isNone
theorem q_panto_normal {l0 : List (Nat × Value)} {E : List PanicEntry → World → Prop} (h : QJ n ds Q .normal l w) : QJ n ds (PanTo n ds l0 E Q) .normal l w := .mk h.out
/-- May the operation be taken as one that only looks? (For the maker of orders alone: nothing rests on it.) -/
def looks (isSl : TypeId → Bool) (o : Oper) : Bool :=
  match o.op with
  | .move _ | .assign _ | .pick .. | .binOp .. | .unOp .. | .fieldAddr .. | .field .. | .indexAddr .. | .index .. | .load .. | .slice .. | .nilCheck _ | .extract .. | .build .. | .makeInterface .. | .makeFunc .. => true
  | .convert _ dst _ => !isSl dst
  | .call { callee := .builtin .len, .. } | .call { callee := .builtin .cap, .. } | .call { callee := .builtin .min, .. } | .call { callee := .builtin .max, .. } => true
  | _ => false
/-! #### Ways out -/
theorem q_next {y : Code} {Q' : Exit → Act → World → Prop} (h : CJ P n ds y Q l w) : QJ n ds (Exit.then (fun a w => y.wpIn (fR ds.r) 0 P Q a w) Q') .normal l w := .mk h.out
theorem q_then_exit {K : Act → World → Prop} {id : Nat} (h : QJ n ds Q (.exit id) l w) : QJ n ds (Exit.then K Q) (.exit id) l w := .mk h.out
theorem q_then_ret {K : Act → World → Prop} (h : QJ n ds Q .ret l w) : QJ n ds (Exit.then K Q) .ret l w := .mk h.out
theorem q_blk_normal {id : Nat} (h : QJ n ds Q .normal l w) : QJ n ds (Exit.inBlock id Q) .normal l w := .mk h.out
theorem q_blk_ret {id : Nat} (h : QJ n ds Q .ret l w) : QJ n ds (Exit.inBlock id Q) .ret l w := .mk h.out
theorem q_blk_hit {id : Nat} (h : QJ n ds Q .normal l w) : QJ n ds (Exit.inBlock id Q) (.exit id) l w := .mk fun a ha => by
  show if id = id then _ else _
  rw [if_pos rfl]; exact h.out a ha
theorem q_blk_miss {id id' : Nat} (hne : Nat.beq id' id = false) (h : QJ n ds Q (.exit id') l w) : QJ n ds (Exit.inBlock id Q) (.exit id') l w := .mk fun a ha => by
  show if id' = id then _ else _
  rw [if_neg (by intro e; subst e; simp at hne)]; exact h.out a ha
theorem q_nopan_normal (h : QJ n ds Q .normal l w) : QJ n ds (NoPan Q) .normal l w := .mk h.out

theorem wpz_loop_ghost {ρ : Option Nat} {a : Act} {c : Code} (I : Nat → Act → World → Prop) (n₀ : Nat) (h₀ : I n₀ a w)
    (round : ∀ n a w, I n a w → c.wpIn (fR ρ) 0 P (Exit.then (fun a' w' => ∃ n', n' < n ∧ I n' a' w') Q) a w) : (Code.loop c).wpIn (fR ρ) 0 P Q a w := by
  refine wpIn_loop (fun a w => ∃ n, I n a w) (fun a w => leastOf (fun n => I n a w)) ⟨n₀, h₀⟩ ?_
  intro a w hI
  refine wpIn_mono (round _ a w (leastOf_spec hI).1) ?_
  intro e a' w' hq
  cases e with
  | normal =>
    obtain ⟨n', hlt, hI'⟩ := hq
    exact show (∃ n, I n a' w') ∧ leastOf (fun n => I n a' w') < leastOf (fun n => I n a w) from ⟨⟨n', hI'⟩, Nat.lt_of_le_of_lt ((leastOf_spec ⟨n', hI'⟩).2 n' hI') hlt⟩
  | exit id => exact hq
  | goto l => exact hq
  | ret => exact hq
  | panic ch => exact hq
  | outgrown => exact hq
/-! #### Loops, cuts -/
/-- What stands behind a round: the relation anew, the measure lowered. -/
def Again {ι : Type} (n : Nat) (ds : Dx) (I : ι → List (Nat × Value)) (Inv : ι → World → Prop) (μ : ι → Nat) (i : ι) : Act → World → Prop :=
  fun a w => ∃ j, FrOk n ds (I j) a ∧ Inv j w ∧ μ j < μ i
theorem c_loop {ι : Type} (I : ι → List (Nat × Value)) (Inv : ι → World → Prop) (μ : ι → Nat) {c : Code} (i0 : ι) (h0 : Sub (I i0) l) (h1 : Inv i0 w)
    (round : ∀ i w, Inv i w → CJ P n ds c (Exit.then (Again n ds I Inv μ i) Q) (I i) w) : CJ P n ds (.loop c) Q l w := by
  refine .mk fun a ha => ?_
  refine wpz_loop_ghost (fun k a w => ∃ i, μ i = k ∧ FrOk n ds (I i) a ∧ Inv i w) (μ i0) ⟨i0, rfl, ha.sub h0, h1⟩ ?_
  rintro k a w ⟨i, rfl, hf, hi⟩
  refine wpIn_mono ((round i w hi).out a hf) ?_
  intro e a w h
  cases e <;> first | exact h | skip
  obtain ⟨j, h1, h2, h3⟩ := h
  exact ⟨μ j, h3, j, rfl, h1, h2⟩
theorem q_again {ι : Type} {I : ι → List (Nat × Value)} {Inv : ι → World → Prop} {μ : ι → Nat} {i : ι} (j : ι) (hs : Sub (I j) l) (hi : Inv j w) (hm : μ j < μ i) :
    QJ n ds (Exit.then (Again n ds I Inv μ i) Q) .normal l w := .mk fun _ ha => ⟨j, ha.sub hs, hi, hm⟩
/-- A cut: what the piece c leaves, said by a list and a relation; then the rest. -/
def Mid {ι : Type} (n : Nat) (ds : Dx) (I : ι → List (Nat × Value)) (Inv : ι → World → Prop) : Act → World → Prop :=
  fun a w => ∃ j, FrOk n ds (I j) a ∧ Inv j w
theorem c_cut {ι : Type} (I : ι → List (Nat × Value)) (Inv : ι → World → Prop) {c : Code} {K : Act → World → Prop}
    (h1 : CJ P n ds c (Exit.then (Mid n ds I Inv) Q) l w) (h2 : ∀ i w, Inv i w → ∀ a, FrOk n ds (I i) a → K a w) : CJ P n ds c (Exit.then K Q) l w := by
  refine .mk fun a ha => ?_
  refine wpIn_mono (h1.out a ha) ?_
  intro e a w h
  cases e <;> first | exact h | skip
  obtain ⟨j, h3, h4⟩ := h
  exact h2 j w h4 a h3
theorem q_mid {ι : Type} {I : ι → List (Nat × Value)} {Inv : ι → World → Prop} (j : ι) (hs : Sub (I j) l) (hi : Inv j w) :
    QJ n ds (Exit.then (Mid n ds I Inv) Q) .normal l w := .mk fun _ ha => ⟨j, ha.sub hs, hi⟩
end
end Go.Sx
namespace Go.Sx
open Go

/-! ### Facts on the program's types and functions (an instance a fact, each closed) -/
class SlT (P : Program) (T : TypeId) (E : outParam TypeId) (sz by' : outParam Nat) : Prop where
  und : P.underlying T = some (.slice E)
  info : ∃ i z, P.info? E = some i ∧ i.zero = some z ∧ i.size = sz ∧ i.bytes = by' ∧ z.cells.size = sz
/-- A type of pointers. -/
class PtT (P : Program) (T : TypeId) : Prop where
  und : P.underlying T = some (.pointer (P.pointee T))
/-- A type of functions. -/
class FuT (P : Program) (T : TypeId) : Prop where
  eqn : ∀ w : World, (binOp .eql T .nilFunc .nilFunc).run P w = .ok (.bool true) w
  eqf : ∀ (f : Fn) (a c : Array Value) (w : World), (binOp .eql T (.func f a c) .nilFunc).run P w = .ok (.bool false) w
/-- A type of one cell. -/
class ScT (P : Program) (T : TypeId) : Prop where
  agg : ∀ w, (isAgg T).run P w = .ok false w
  size : ∀ w, (sizeOf T).run P w = .ok 1 w
/-- A struct (or an array) of so many cells. -/
class AgT (P : Program) (T : TypeId) (sz : outParam Nat) : Prop where
  agg : ∀ w, (isAgg T).run P w = .ok true w
  size : ∀ w, (sizeOf T).run P w = .ok sz w
class FdT (P : Program) (T : TypeId) (i : Nat) (off : outParam Nat) : Prop where
  run : ∀ a w, (Instr.fieldAt T (.pointer (some a)) i).run P w = .ok (.pointer (some (a.add off))) w
class StT (P : Program) (T : TypeId) : Prop where
  und : P.underlying T = some .string
class InT (P : Program) (T : TypeId) (k : outParam IntKind) : Prop where
  und : P.underlying T = some (.int k)
class BoT (P : Program) (T : TypeId) : Prop where
  und : P.underlying T = some .bool
class ZeT (P : Program) (T : TypeId) (z : outParam Value) : Prop where
  run : ∀ w, (zeroValue T).run P w = .ok z w
class ByT (P : Program) (T : TypeId) : Prop where
  und : ∃ e, P.underlying T = some (.slice e) ∧ P.underlying e = some (.int .u8)
class FnT (P : Program) (k : FuncId) : Prop where
  run : ∀ args w, (callFunc k args).run P w = .ok (.enter k args) w

/-! ### Worlds -/
/-- All that was there is as it was, but for the blocks that G names; the streams are as they were. -/
structure Ext (G : Nat → Prop) (w w' : World) : Prop where
  os : w'.os = w.os
  tape : w'.tape = w.tape
  output : w'.output = w.output
  size : w.heap.size ≤ w'.heap.size
  block : ∀ k, k < w.heap.size → ¬ G k → w'.heap[k]? = w.heap[k]?
/-- Nothing that was there has turned. -/
abbrev Ex (w w' : World) : Prop := Ext (fun _ => False) w w'
theorem Ext.refl {G : Nat → Prop} (w : World) : Ext G w w := ⟨rfl, rfl, rfl, Nat.le_refl _, fun _ _ _ => rfl⟩
theorem Ext.trans' {G H K : Nat → Prop} {a b c : World} (h : Ext G a b) (k : Ext H b c) (hG : ∀ i, i < a.heap.size → G i → K i) (hH : ∀ i, i < a.heap.size → H i → K i) : Ext K a c :=
  ⟨k.os.trans h.os, k.tape.trans h.tape, k.output.trans h.output, Nat.le_trans h.size k.size,
    fun i hi hn => (k.block i (Nat.lt_of_lt_of_le hi h.size) (fun hh => hn (hH i hi hh))).trans (h.block i hi (fun hh => hn (hG i hi hh)))⟩
theorem Ext.trans {G : Nat → Prop} {a b c : World} (h : Ext G a b) (k : Ext G b c) : Ext G a c := h.trans' k (fun _ _ h => h) (fun _ _ h => h)
theorem Ex.trans {a b c : World} (h : Ex a b) (k : Ex b c) : Ex a c := Ext.trans h k
/-- A step that writes only blocks that were not there. -/
theorem Ext.fresh {G H : Nat → Prop} {a b c : World} (h : Ext G a b) (k : Ext H b c) (hH : ∀ i, i < a.heap.size → ¬ H i) : Ext G a c :=
  h.trans' k (fun _ _ h => h) (fun i hi hh => absurd hh (hH i hi))
theorem Ext.mono {G H : Nat → Prop} {a b : World} (h : Ext G a b) (hG : ∀ i, i < a.heap.size → G i → H i) : Ext H a b :=
  ⟨h.os, h.tape, h.output, h.size, fun i hi hn => h.block i hi (fun g => hn (hG i hi g))⟩
theorem Ex.ext {G : Nat → Prop} {a b : World} (h : Ex a b) : Ext G a b := h.mono (fun _ _ h => h.elim)
theorem Ext.drew {G : Nat → Prop} (w : World) : Ext G w w.drew := ⟨rfl, rfl, rfl, Nat.le_refl _, fun _ _ _ => rfl⟩
theorem Ext.alloc {G : Nat → Prop} (w : World) (o : Obj) : Ext G w (w.alloc o) := ⟨rfl, rfl, rfl, by simp, fun k hk _ => by
  show (w.heap.push o)[k]? = _
  rw [Array.getElem?_push, if_neg (by omega)]⟩
theorem Ext.cell {G : Nat → Prop} {w w' : World} (h : Ext G w w') {a : Addr} {v : Value} (hc : w.cell? a = some v) (hn : ¬ G a.block) : w'.cell? a = some v := by
  rw [World.cell?_of_block (w := w) (h.block a.block (World.block_lt_of_cell? w a hc) hn)]; exact hc
theorem Ext.below {B : Nat} {G : Nat → Prop} {w w' : World} (h : Ext G w w') (hB : B ≤ w.heap.size) (hG : ∀ k, k < B → ¬ G k) : RowKit.Below B w w' :=
  ⟨h.os, h.tape, h.output, h.size, fun k hk => h.block k (Nat.lt_of_lt_of_le hk hB) (hG k hk)⟩
theorem Ext.of_grown {w w' : World} {row : Option Nat} (h : w.grownBy w' row) : Ext (fun k => row = some k) w w' :=
  ⟨h.os, h.tape, h.output, h.size, fun k hk hn => h.block k hk (fun e => hn e.symm)⟩

/-! ### Cells -/
/-- The cells from a on hold these values. -/
def Cells (w : World) (a : Addr) (vs : List Value) : Prop := ∀ i v, vs[i]? = some v → w.cell? (a.add i) = some v
theorem Cells.ext {G : Nat → Prop} {w w' : World} {a : Addr} {vs : List Value} (h : Cells w a vs) (he : Ext G w w') (hn : vs ≠ [] → ¬ G a.block) : Cells w' a vs := by
  intro i v hi
  refine he.cell (h i v hi) ?_
  have : (a.add i).block = a.block := by unfold Addr.add; split <;> rfl
  rw [this]
  exact hn (by rintro rfl; simp at hi)
theorem add_add (a : Addr) (i j : Nat) : (a.add i).add j = a.add (i + j) := by
  unfold Addr.add
  by_cases hi : i = 0 <;> by_cases hj : j = 0 <;> simp [hi, hj, Nat.add_assoc]

/-- A byte, as a cell holds it. -/
def bv (x : UInt8) : Value := .int .u8 (x.toNat : Int)
/-- A slice of bytes: from a on (nil: none), of that capacity, reads as xs. -/
structure By (w : World) (a : Option Addr) (c : Nat) (xs : List UInt8) : Prop where
  le : xs.length ≤ c
  cap : c ≤ maxLen
  nil : a = none → c = 0
  cells : ∀ ad, a = some ad → Cells w ad (xs.map bv)
theorem By.ext {G : Nat → Prop} {w w' : World} {a : Option Addr} {c : Nat} {xs : List UInt8} (h : By w a c xs) (he : Ext G w w') (hn : ∀ ad, a = some ad → xs ≠ [] → ¬ G ad.block) : By w' a c xs :=
  ⟨h.le, h.cap, h.nil, fun ad e => (h.cells ad e).ext he (fun hx => hn ad e (by simpa using hx))⟩
theorem By.ex {w w' : World} {a : Option Addr} {c : Nat} {xs : List UInt8} (h : By w a c xs) (he : Ex w w') : By w' a c xs := h.ext he (fun _ _ _ h => h)
theorem By.len {w : World} {a : Option Addr} {c : Nat} {xs : List UInt8} (h : By w a c xs) : (xs.length : Int) ≤ 9223372036854775807 := by
  have h1 := h.le
  have h2 := h.cap
  simp only [maxLen] at h2
  omega
theorem By.some {w : World} {a : Option Addr} {c : Nat} {xs : List UInt8} (h : By w a c xs) (hx : 0 < xs.length) : ∃ ad, a = Option.some ad := by
  cases a with
  | none => have := h.nil rfl; have := h.le; omega
  | some ad => exact ⟨ad, rfl⟩
theorem By.cell {w : World} {ad : Addr} {c : Nat} {xs : List UInt8} (h : By w (Option.some ad) c xs) {i : Nat} (hi : i < xs.length) : w.cell? (ad.add (i * 1)) = Option.some (bv (xs.getD i 0)) := by
  rw [Nat.mul_one]
  exact h.cells ad rfl i _ (by simp [hi])

/-! ### What an operation yields that only looks -/
/-- In every world of the class S, over every frame that bears out the list. -/
structure Y (P : Program) (S : World → Prop) (o : Oper) (l : List (Nat × Value)) (v : Value) : Prop where
  out : ∀ w, S w → ∀ ρ, Agr l ρ → (execOp ρ o).run P w = .ok (.value v) w

section
variable {P : Program} {S : World → Prop} {l : List (Nat × Value)} {d : Option Tmp} {ty : TypeId} {pos : String} {af : Array Edge} {g : Option (Nat × Bool)}

theorem y_move {x : Operand} {v : Value} (h : ev l x = some v) : Y P S ⟨d, .move x, ty, pos, af, g⟩ l v := .mk fun w _ ρ hρ => by
  simp [execOp, hρ _ _ h]
theorem y_assign {x : Operand} {v : Value} (h : ev l x = some v) : Y P S ⟨d, .assign x, ty, pos, af, g⟩ l v := .mk fun w _ ρ hρ => by
  simp [execOp, hρ _ _ h]
theorem y_pick {c x y : Operand} {t : Bool} {u v : Value} (hc : ev l c = some (.bool t)) (hx : ev l x = some u) (hy : ev l y = some v) : Y P S ⟨d, .pick c x y, ty, pos, af, g⟩ l (bif t then u else v) := .mk fun w _ ρ hρ => by
  cases t <;> simp [execOp, hρ _ _ hx, hρ _ _ hy, hρ _ _ hc, asBool]
theorem y_add {x y : Operand} {T U : TypeId} {a b : Int} (hx : ev l x = some (.int .i64 a)) (hy : ev l y = some (.int .i64 b)) (h : -9223372036854775808 ≤ a + b ∧ a + b ≤ 9223372036854775807) :
    Y P S ⟨d, .binOp .add T x y U, ty, pos, af, g⟩ l (.int .i64 (a + b)) := .mk fun w _ ρ hρ => by
  have := IntWalk.i64_in (a + b) (by omega)
  simp [execOp, hρ _ _ hx, hρ _ _ hy, go_sem, Op.intArith, this]
theorem y_sub {x y : Operand} {T U : TypeId} {a b : Int} (hx : ev l x = some (.int .i64 a)) (hy : ev l y = some (.int .i64 b)) (h : -9223372036854775808 ≤ a - b ∧ a - b ≤ 9223372036854775807) :
    Y P S ⟨d, .binOp .sub T x y U, ty, pos, af, g⟩ l (.int .i64 (a - b)) := .mk fun w _ ρ hρ => by
  have := IntWalk.i64_in (a - b) (by omega)
  simp [execOp, hρ _ _ hx, hρ _ _ hy, go_sem, Op.intArith, this]
theorem y_mul {x y : Operand} {T U : TypeId} {a b : Int} (hx : ev l x = some (.int .i64 a)) (hy : ev l y = some (.int .i64 b)) (h : -9223372036854775808 ≤ a * b ∧ a * b ≤ 9223372036854775807) :
    Y P S ⟨d, .binOp .mul T x y U, ty, pos, af, g⟩ l (.int .i64 (a * b)) := .mk fun w _ ρ hρ => by
  have := IntWalk.i64_in (a * b) (by omega)
  simp [execOp, hρ _ _ hx, hρ _ _ hy, go_sem, Op.intArith, this]
theorem y_lss {x y : Operand} {T U : TypeId} {k : IntKind} {a b : Int} (hx : ev l x = some (.int k a)) (hy : ev l y = some (.int k b)) :
    Y P S ⟨d, .binOp .lss T x y U, ty, pos, af, g⟩ l (.bool (decide (a < b))) := .mk fun w _ ρ hρ => by
  simp [execOp, hρ _ _ hx, hρ _ _ hy, go_sem]
theorem y_leq {x y : Operand} {T U : TypeId} {k : IntKind} {a b : Int} (hx : ev l x = some (.int k a)) (hy : ev l y = some (.int k b)) :
    Y P S ⟨d, .binOp .leq T x y U, ty, pos, af, g⟩ l (.bool (decide (a ≤ b))) := .mk fun w _ ρ hρ => by
  simp [execOp, hρ _ _ hx, hρ _ _ hy, go_sem]
theorem y_gtr {x y : Operand} {T U : TypeId} {k : IntKind} {a b : Int} (hx : ev l x = some (.int k a)) (hy : ev l y = some (.int k b)) :
    Y P S ⟨d, .binOp .gtr T x y U, ty, pos, af, g⟩ l (.bool (decide (b < a))) := .mk fun w _ ρ hρ => by
  simp [execOp, hρ _ _ hx, hρ _ _ hy, go_sem]
theorem y_geq {x y : Operand} {T U : TypeId} {k : IntKind} {a b : Int} (hx : ev l x = some (.int k a)) (hy : ev l y = some (.int k b)) :
    Y P S ⟨d, .binOp .geq T x y U, ty, pos, af, g⟩ l (.bool (decide (b ≤ a))) := .mk fun w _ ρ hρ => by
  simp [execOp, hρ _ _ hx, hρ _ _ hy, go_sem]
theorem y_eql {x y : Operand} {T U : TypeId} {k : IntKind} {a b : Int} (hx : ev l x = some (.int k a)) (hy : ev l y = some (.int k b)) :
    Y P S ⟨d, .binOp .eql T x y U, ty, pos, af, g⟩ l (.bool (decide (a = b))) := .mk fun w _ ρ hρ => by
  simp only [execOp, hρ _ _ hx, hρ _ _ hy, eqGuard_at_int, binOp_eql]
  rfl
theorem y_neq {x y : Operand} {T U : TypeId} {k : IntKind} {a b : Int} (hx : ev l x = some (.int k a)) (hy : ev l y = some (.int k b)) :
    Y P S ⟨d, .binOp .neq T x y U, ty, pos, af, g⟩ l (.bool (!decide (a = b))) := .mk fun w _ ρ hρ => by
  simp only [execOp, hρ _ _ hx, hρ _ _ hy, eqGuard_at_int, binOp_neq]
  rfl
theorem bv_eq (a b : UInt8) : ((a.toNat : Int) = b.toNat) ↔ a = b := by
  rw [Int.ofNat_inj, UInt8.toNat_inj]
theorem y_eqb {x y : Operand} {T U : TypeId} {a b : UInt8} (hx : ev l x = some (bv a)) (hy : ev l y = some (bv b)) :
    Y P S ⟨d, .binOp .eql T x y U, ty, pos, af, g⟩ l (.bool (decide (a = b))) := by
  have := y_eql (P := P) (S := S) (l := l) (d := d) (ty := ty) (pos := pos) (af := af) (g := g) (T := T) (U := U) hx hy
  rwa [show (decide ((a.toNat : Int) = b.toNat)) = decide (a = b) from by simp [bv_eq]] at this
theorem y_neb {x y : Operand} {T U : TypeId} {a b : UInt8} (hx : ev l x = some (bv a)) (hy : ev l y = some (bv b)) :
    Y P S ⟨d, .binOp .neq T x y U, ty, pos, af, g⟩ l (.bool (!decide (a = b))) := by
  have := y_neq (P := P) (S := S) (l := l) (d := d) (ty := ty) (pos := pos) (af := af) (g := g) (T := T) (U := U) hx hy
  rwa [show (decide ((a.toNat : Int) = b.toNat)) = decide (a = b) from by simp [bv_eq]] at this
theorem y_gtb {x y : Operand} {T U : TypeId} {a b : UInt8} (hx : ev l x = some (bv a)) (hy : ev l y = some (bv b)) :
    Y P S ⟨d, .binOp .gtr T x y U, ty, pos, af, g⟩ l (.bool (decide (b < a))) := by
  have := y_gtr (P := P) (S := S) (l := l) (d := d) (ty := ty) (pos := pos) (af := af) (g := g) (T := T) (U := U) hx hy
  rwa [show (decide ((b.toNat : Int) < a.toNat)) = decide (b < a) from by simp [UInt8.lt_iff_toNat_lt]] at this
theorem y_ltb {x y : Operand} {T U : TypeId} {a b : UInt8} (hx : ev l x = some (bv a)) (hy : ev l y = some (bv b)) :
    Y P S ⟨d, .binOp .lss T x y U, ty, pos, af, g⟩ l (.bool (decide (a < b))) := by
  have := y_lss (P := P) (S := S) (l := l) (d := d) (ty := ty) (pos := pos) (af := af) (g := g) (T := T) (U := U) hx hy
  rwa [show (decide ((a.toNat : Int) < b.toNat)) = decide (a < b) from by simp [UInt8.lt_iff_toNat_lt]] at this
theorem y_not {x : Operand} {T : TypeId} {a : Bool} (hx : ev l x = some (.bool a)) :
    Y P S ⟨d, .unOp .not T x, ty, pos, af, g⟩ l (.bool (!a)) := .mk fun w _ ρ hρ => by
  simp [execOp, hρ _ _ hx, Op.unary]
theorem y_lensl {x : Operand} {T E : TypeId} {sz b : Nat} [h : SlT P T E sz b] {a : Option Addr} {n c : Nat} (hx : ev l x = some (.slice a n c)) :
    Y P S ⟨d, .call { callee := .builtin .len, args := #[x], argTypes := #[T] }, ty, pos, af, g⟩ l (.int .i64 n) := .mk fun w _ ρ hρ => by
  simp [execOp, hρ _ _ hx, resolve, invoke, builtin, Builtin.len_, run_underlying h.und, goInt]
theorem y_min {x y : Operand} {T U : TypeId} {a b : Nat} (hx : ev l x = some (.int .i64 a)) (hy : ev l y = some (.int .i64 b)) :
    Y P S ⟨d, .call { callee := .builtin .min, args := #[x, y], argTypes := #[T, U] }, ty, pos, af, g⟩ l (.int .i64 ((min a b : Nat) : Int)) := .mk fun w _ ρ hρ => by
  have : (if (b : Int) < (a : Int) then (b : Int) else (a : Int)) = ((min a b : Nat) : Int) := by split <;> omega
  simp only [execOp, resolve, invoke, builtin, List.map_toArray, List.map_cons, List.map_nil, hρ _ _ hx, hρ _ _ hy, Builtin.min_, ← this]
  rfl
theorem y_index {x i : Operand} {T E : TypeId} {sz b : Nat} [h : SlT P T E sz b] {a : Addr} {n c : Nat} {k : IntKind} {j : Nat}
    (hx : ev l x = some (.slice (some a) n c)) (hi : ev l i = some (.int k j)) (hj : j < n) :
    Y P S ⟨d, .indexAddr T x i, ty, pos, af, g⟩ l (.pointer (some (a.add (j * sz)))) := .mk fun w _ ρ hρ => by
  obtain ⟨i, z, h1, _, h3, _⟩ := h.info
  simp [execOp, hρ _ _ hx, hρ _ _ hi, Instr.indexAt, asIntOf, run_underlying h.und, sizeOf, typeInfo, h1, h3, hj]
theorem y_field {x : Operand} {T : TypeId} {i off : Nat} [h : FdT P T i off] {a : Addr} (hx : ev l x = some (.pointer (some a))) :
    Y P S ⟨d, .fieldAddr T x i, ty, pos, af, g⟩ l (.pointer (some (a.add off))) := .mk fun w _ ρ hρ => by
  simp [execOp, hρ _ _ hx, h.run]
theorem y_load {x : Operand} {T : TypeId} [h : ScT P T] {a : Addr} {v : Value} (hx : ev l x = some (.pointer (some a))) (hc : ∀ w, S w → w.cell? a = some v) :
    Y P S ⟨d, .load T x, ty, pos, af, g⟩ l v := .mk fun w hw ρ hρ => by
  simp [execOp, hρ _ _ hx, Instr.loadAt, Instr.sureAddr, loadVar, h.agg, hc w hw]
theorem y_nilc {x : Operand} {a : Addr} (hx : ev l x = some (.pointer (some a))) :
    Y P S ⟨d, .nilCheck x, ty, pos, af, g⟩ l (.pointer (some a)) := .mk fun w _ ρ hρ => by
  simp [execOp, hρ _ _ hx]
end

/-! ### One step of a region's walk -/
section
variable {M : Mode} {P : Program} {n : Nat} {ds : Dx} {ops : Array Oper} {Q : Exit → Act → World → Prop} {b : Bool} {rest : Tr} {l : List (Nat × Value)} {w : World}

theorem l_nil (h : QJ n ds Q .normal l w) : LJ M P n ds ops Q .nil l w := .mk h.out
theorem l_alt {r s : Tr} (h1 : LJ M P n ds ops Q r l w) (h2 : LJ M P n ds ops Q s l w) : LJ M P n ds ops Q (.alt r s) l w := .mk fun a ha => ⟨h1.out a ha, h2.out a ha⟩
/-- The guard of an operation, as far as the list tells it. -/
def gd (ops : Array Oper) (l : List (Nat × Value)) (j : Nat) : Option (Nat × Bool) :=
  match ops[j]? with
  | some o => match o.dst with
    | some d => match look l d with
      | some (.bool b) => some (d, b)
      | _ => none
    | none => none
  | none => none
theorem gd_look {ops : Array Oper} {l : List (Nat × Value)} {j d : Nat} {b : Bool} (h : gd ops l j = some (d, b)) : look l d = some (.bool b) ∧ (ops[j]?).bind (·.dst) = some d := by
  unfold gd at h
  split at h
  · rename_i o ho
    split at h
    · rename_i d' hd
      split at h
      · rename_i b' hb
        simp only [Option.some.injEq, Prod.mk.injEq] at h
        obtain ⟨rfl, rfl⟩ := h
        exact ⟨hb, by simp [ho, hd]⟩
      · cases h
    · cases h
  · cases h
theorem gd_spec {ops : Array Oper} {l : List (Nat × Value)} {j d : Nat} {b : Bool} {a : Act} (h : gd ops l j = some (d, b)) (ha : FrOk n ds l a) : yielded ops a.tmps j = some b := by
  obtain ⟨h1, h2⟩ := gd_look h
  simp [yielded, h2, ha.has _ _ h1]
/-- Is the guard met, as far as the list tells it? -/
def gOk (ops : Array Oper) (l : List (Nat × Value)) : Option (Nat × Bool) → Bool
  | none => true
  | some (j, t) => match gd ops l j with
    | some (_, b) => b == t
    | none => false
/-- What the list says of the slot that a guard looks at. -/
def gv (ops : Array Oper) (l : List (Nat × Value)) (j : Nat) : Option Value :=
  match ops[j]? with
  | some o => match o.dst with
    | some d => look l d
    | none => none
  | none => none
def gNo (ops : Array Oper) (l : List (Nat × Value)) : Option (Nat × Bool) → Bool
  | none => false
  | some (j, t) => match gv ops l j with
    | some (.bool b) => !(b == t)
    | some _ => true
    | none => false
theorem gOk_spec {ops : Array Oper} {l : List (Nat × Value)} {g : Option (Nat × Bool)} {a : Act} {d : Option Tmp} {op : Op} {ty : TypeId} {pos : String} {af : Array Edge} (h : gOk ops l g = true) (ha : FrOk n ds l a) :
    Region.wanted ⟨d, op, ty, pos, af, g⟩ (yielded ops a.tmps) = true := by
  unfold gOk at h
  split at h
  · rfl
  · rename_i j t
    split at h
    · rename_i d b hb
      simp only [beq_iff_eq] at h
      subst h
      simp [Region.wanted, gd_spec hb ha]
    · cases h
theorem gNo_spec {ops : Array Oper} {l : List (Nat × Value)} {g : Option (Nat × Bool)} {a : Act} {d : Option Tmp} {op : Op} {ty : TypeId} {pos : String} {af : Array Edge} (h : gNo ops l g = true) (ha : FrOk n ds l a) :
    ¬ Region.wanted ⟨d, op, ty, pos, af, g⟩ (yielded ops a.tmps) = true := by
  have gv_spec : ∀ {j : Nat} {v : Value}, gv ops l j = some v → ((ops[j]?).bind (·.dst)).bind (a.tmps[·]?) = some v := by
    intro j v hv
    unfold gv at hv
    split at hv
    · rename_i o ho
      split at hv
      · rename_i d' hd
        simp [ho, hd, ha.has _ _ hv]
      · cases hv
    · cases hv
  unfold gNo at h
  split at h
  · cases h
  · rename_i j t
    split at h
    · rename_i b hb
      simp [Region.wanted, yielded, gv_spec hb]
      simpa using h
    · rename_i v hn hb
      have : yielded ops a.tmps j = none := by
        unfold yielded
        rw [gv_spec hb]
        cases v <;> first | rfl | exact absurd rfl (hn _)
      simp [Region.wanted, this]
    · cases h
/-- It only looks. -/
theorem l_y {d : Nat} {op : Op} {ty : TypeId} {pos : String} {af : Array Edge} {g : Option (Nat × Bool)} {v : Value} (hg : gOk ops l g = true) (hd : Nat.blt d n = true) (hy : Y P (M.cls w) ⟨some d, op, ty, pos, af, g⟩ l v)
    (h : LJ M P n ds ops Q rest ((d, v) :: l) w) : LJ M P n ds ops Q (.one b ⟨some d, op, ty, pos, af, g⟩ rest) l w := by
  refine .mk fun a ha => ?_
  unfold WL
  rw [if_pos (gOk_spec hg ha)]
  exact .inl ⟨v, fun w' hw' => hy.out w' hw' _ ha.agr, h.out _ (ha.put v hd)⟩
/-- Its guard says no. -/
theorem l_sk {d : Nat} {op : Op} {ty : TypeId} {pos : String} {af : Array Edge} {g : Option (Nat × Bool)} (hg : gNo ops l g = true) (hd : Nat.blt d n = true)
    (h : LJ M P n ds ops Q rest ((d, undef) :: l) w) : LJ M P n ds ops Q (.one b ⟨some d, op, ty, pos, af, g⟩ rest) l w := by
  refine .mk fun a ha => ?_
  unfold WL
  rw [if_neg (gNo_spec hg ha)]
  exact h.out _ (ha.put _ hd)
/-- A slot that holds a Bool is not decided: two ways. -/
theorem j_sp {t : Nat} {v : Bool} {a : Act} (hl : look l t = some (.bool v)) (ha : FrOk n ds l a) : FrOk n ds ((t, .bool v) :: l) a := by
  refine ⟨ha.size, ha.defers, fun t' u ht => ?_⟩
  simp only [look] at ht
  by_cases e : t = t'
  · subst e; simp at ht; subst ht; exact ha.has _ _ hl
  · have hb : Nat.beq t t' = false := by rw [← Bool.not_eq_true, Nat.beq_eq]; exact e
    rw [hb] at ht
    exact ha.has _ u ht
theorem l_sp {d j dj : Nat} {t t' : Bool} {op : Op} {ty : TypeId} {pos : String} {af : Array Edge} (hg : gd ops l j = some (dj, t'))
    (hT : t' = true → LJ M P n ds ops Q (.one b ⟨some d, op, ty, pos, af, some (j, t)⟩ rest) ((dj, .bool true) :: l) w)
    (hF : t' = false → LJ M P n ds ops Q (.one b ⟨some d, op, ty, pos, af, some (j, t)⟩ rest) ((dj, .bool false) :: l) w) :
    LJ M P n ds ops Q (.one b ⟨some d, op, ty, pos, af, some (j, t)⟩ rest) l w := by
  have hl := (gd_look hg).1
  refine .mk fun a ha => ?_
  cases ht : t' with
  | true => subst ht; exact (hT rfl).out a (j_sp hl ha)
  | false => subst ht; exact (hF rfl).out a (j_sp hl ha)
theorem l_if {d j dj : Nat} {t : Bool} {p : Prop} [Decidable p] {op : Op} {ty : TypeId} {pos : String} {af : Array Edge} (hg : gd ops l j = some (dj, decide p))
    (hT : p → LJ M P n ds ops Q (.one b ⟨some d, op, ty, pos, af, some (j, t)⟩ rest) ((dj, .bool true) :: l) w)
    (hF : ¬ p → LJ M P n ds ops Q (.one b ⟨some d, op, ty, pos, af, some (j, t)⟩ rest) ((dj, .bool false) :: l) w) :
    LJ M P n ds ops Q (.one b ⟨some d, op, ty, pos, af, some (j, t)⟩ rest) l w :=
  l_sp hg (fun h => hT (of_decide_eq_true h)) (fun h => hF (of_decide_eq_false h))
theorem l_ifn {d j dj : Nat} {t : Bool} {p : Prop} [Decidable p] {op : Op} {ty : TypeId} {pos : String} {af : Array Edge} (hg : gd ops l j = some (dj, !decide p))
    (hT : ¬ p → LJ M P n ds ops Q (.one b ⟨some d, op, ty, pos, af, some (j, t)⟩ rest) ((dj, .bool true) :: l) w)
    (hF : p → LJ M P n ds ops Q (.one b ⟨some d, op, ty, pos, af, some (j, t)⟩ rest) ((dj, .bool false) :: l) w) :
    LJ M P n ds ops Q (.one b ⟨some d, op, ty, pos, af, some (j, t)⟩ rest) l w :=
  l_sp hg (fun h => hT (of_decide_eq_false (by simpa using h))) (fun h => hF (of_decide_eq_true (by simpa using h)))
theorem ci {k : IntKind} {a b : Int} (h : a = b) : Value.int k a = .int k b := by rw [h]
/-- The value of a slot, said otherwise. -/
theorem l_rw {t : Nat} {v v' : Value} (h : look l t = some v) (e : v = v') (k : LJ M P n ds ops Q rest ((t, v') :: l) w) : LJ M P n ds ops Q rest l w := by
  subst e
  refine .mk fun a ha => k.out a ⟨ha.size, ha.defers, fun t' u ht => ?_⟩
  simp only [look] at ht
  by_cases e : t = t'
  · subst e; simp at ht; subst ht; exact ha.has _ _ h
  · have hb : Nat.beq t t' = false := by rw [← Bool.not_eq_true, Nat.beq_eq]; exact e
    rw [hb] at ht
    exact ha.has _ u ht
end
end Go.Sx
namespace Go.Sx
open Go Go.Proofs
instance : ScT Tryz.prog 1 := ⟨fun _ => by kernel_rfl, fun _ => by kernel_rfl⟩
instance : FuT Tryz.prog 1 := ⟨fun _ => by kernel_rfl, fun _ _ _ _ => by kernel_rfl⟩
instance : ZeT Tryz.prog 1 (.nilFunc) := ⟨fun _ => by kernel_rfl⟩
instance : ScT Tryz.prog 2 := ⟨fun _ => by kernel_rfl, fun _ => by kernel_rfl⟩
instance : InT Tryz.prog 2 .i64 := ⟨by kernel_rfl⟩
instance : ZeT Tryz.prog 2 (.int .i64 0) := ⟨fun _ => by kernel_rfl⟩
instance : ScT Tryz.prog 3 := ⟨fun _ => by kernel_rfl, fun _ => by kernel_rfl⟩
instance : InT Tryz.prog 3 .i64 := ⟨by kernel_rfl⟩
instance : ZeT Tryz.prog 3 (.int .i64 0) := ⟨fun _ => by kernel_rfl⟩
instance : ScT Tryz.prog 4 := ⟨fun _ => by kernel_rfl, fun _ => by kernel_rfl⟩
instance : BoT Tryz.prog 4 := ⟨by kernel_rfl⟩
instance : ZeT Tryz.prog 4 (.bool false) := ⟨fun _ => by kernel_rfl⟩
instance : ScT Tryz.prog 5 := ⟨fun _ => by kernel_rfl, fun _ => by kernel_rfl⟩
instance : InT Tryz.prog 5 .u8 := ⟨by kernel_rfl⟩
instance : ZeT Tryz.prog 5 (.int .u8 0) := ⟨fun _ => by kernel_rfl⟩
instance : ScT Tryz.prog 6 := ⟨fun _ => by kernel_rfl, fun _ => by kernel_rfl⟩
instance : InT Tryz.prog 6 .u8 := ⟨by kernel_rfl⟩
instance : ZeT Tryz.prog 6 (.int .u8 0) := ⟨fun _ => by kernel_rfl⟩
instance : AgT Tryz.prog 7 4 := ⟨fun _ => by kernel_rfl, fun _ => by kernel_rfl⟩
instance : FdT Tryz.prog 7 0 0 := ⟨fun _ _ => by kernel_rfl⟩
instance : FdT Tryz.prog 7 1 1 := ⟨fun _ _ => by kernel_rfl⟩
instance : FdT Tryz.prog 7 2 2 := ⟨fun _ _ => by kernel_rfl⟩
instance : FdT Tryz.prog 7 3 3 := ⟨fun _ _ => by kernel_rfl⟩
instance : ZeT Tryz.prog 7 (.agg #[.int .i64 0, .int .i64 0, .bool false, .int .u8 0]) := ⟨fun _ => by kernel_rfl⟩
instance : AgT Tryz.prog 8 4 := ⟨fun _ => by kernel_rfl, fun _ => by kernel_rfl⟩
instance : FdT Tryz.prog 8 0 0 := ⟨fun _ _ => by kernel_rfl⟩
instance : FdT Tryz.prog 8 1 1 := ⟨fun _ _ => by kernel_rfl⟩
instance : FdT Tryz.prog 8 2 2 := ⟨fun _ _ => by kernel_rfl⟩
instance : FdT Tryz.prog 8 3 3 := ⟨fun _ _ => by kernel_rfl⟩
instance : ZeT Tryz.prog 8 (.agg #[.int .i64 0, .int .i64 0, .bool false, .int .u8 0]) := ⟨fun _ => by kernel_rfl⟩
instance : ScT Tryz.prog 9 := ⟨fun _ => by kernel_rfl, fun _ => by kernel_rfl⟩
instance : StT Tryz.prog 9 := ⟨by kernel_rfl⟩
instance : ZeT Tryz.prog 9 (.string ⟨#[]⟩) := ⟨fun _ => by kernel_rfl⟩
instance : ScT Tryz.prog 10 := ⟨fun _ => by kernel_rfl, fun _ => by kernel_rfl⟩
instance : StT Tryz.prog 10 := ⟨by kernel_rfl⟩
instance : ZeT Tryz.prog 10 (.string ⟨#[]⟩) := ⟨fun _ => by kernel_rfl⟩
instance : ScT Tryz.prog 11 := ⟨fun _ => by kernel_rfl, fun _ => by kernel_rfl⟩
instance : StT Tryz.prog 11 := ⟨by kernel_rfl⟩
instance : ZeT Tryz.prog 11 (.string ⟨#[]⟩) := ⟨fun _ => by kernel_rfl⟩
instance : ScT Tryz.prog 12 := ⟨fun _ => by kernel_rfl, fun _ => by kernel_rfl⟩
instance : InT Tryz.prog 12 .u64 := ⟨by kernel_rfl⟩
instance : ZeT Tryz.prog 12 (.int .u64 0) := ⟨fun _ => by kernel_rfl⟩
instance : AgT Tryz.prog 13 2 := ⟨fun _ => by kernel_rfl, fun _ => by kernel_rfl⟩
instance : FdT Tryz.prog 13 0 0 := ⟨fun _ _ => by kernel_rfl⟩
instance : FdT Tryz.prog 13 1 1 := ⟨fun _ _ => by kernel_rfl⟩
instance : ZeT Tryz.prog 13 (.agg #[.string ⟨#[]⟩, .int .u64 0]) := ⟨fun _ => by kernel_rfl⟩
instance : AgT Tryz.prog 14 2 := ⟨fun _ => by kernel_rfl, fun _ => by kernel_rfl⟩
instance : FdT Tryz.prog 14 0 0 := ⟨fun _ _ => by kernel_rfl⟩
instance : FdT Tryz.prog 14 1 1 := ⟨fun _ _ => by kernel_rfl⟩
instance : ZeT Tryz.prog 14 (.agg #[.string ⟨#[]⟩, .int .u64 0]) := ⟨fun _ => by kernel_rfl⟩
instance : ScT Tryz.prog 15 := ⟨fun _ => by kernel_rfl, fun _ => by kernel_rfl⟩
instance : PtT Tryz.prog 15 := ⟨by kernel_rfl⟩
instance : ZeT Tryz.prog 15 (.pointer none) := ⟨fun _ => by kernel_rfl⟩
instance : ScT Tryz.prog 16 := ⟨fun _ => by kernel_rfl, fun _ => by kernel_rfl⟩
instance : PtT Tryz.prog 16 := ⟨by kernel_rfl⟩
instance : ZeT Tryz.prog 16 (.pointer none) := ⟨fun _ => by kernel_rfl⟩
instance : ScT Tryz.prog 17 := ⟨fun _ => by kernel_rfl, fun _ => by kernel_rfl⟩
instance : PtT Tryz.prog 17 := ⟨by kernel_rfl⟩
instance : ZeT Tryz.prog 17 (.pointer none) := ⟨fun _ => by kernel_rfl⟩
instance : AgT Tryz.prog 18 1 := ⟨fun _ => by kernel_rfl, fun _ => by kernel_rfl⟩
instance : FdT Tryz.prog 18 0 0 := ⟨fun _ _ => by kernel_rfl⟩
instance : ZeT Tryz.prog 18 (.agg #[.pointer none]) := ⟨fun _ => by kernel_rfl⟩
instance : AgT Tryz.prog 19 1 := ⟨fun _ => by kernel_rfl, fun _ => by kernel_rfl⟩
instance : FdT Tryz.prog 19 0 0 := ⟨fun _ _ => by kernel_rfl⟩
instance : ZeT Tryz.prog 19 (.agg #[.pointer none]) := ⟨fun _ => by kernel_rfl⟩
instance : ScT Tryz.prog 20 := ⟨fun _ => by kernel_rfl, fun _ => by kernel_rfl⟩
instance : ZeT Tryz.prog 20 (.nilIface) := ⟨fun _ => by kernel_rfl⟩
instance : ScT Tryz.prog 21 := ⟨fun _ => by kernel_rfl, fun _ => by kernel_rfl⟩
instance : InT Tryz.prog 21 .i32 := ⟨by kernel_rfl⟩
instance : ZeT Tryz.prog 21 (.int .i32 0) := ⟨fun _ => by kernel_rfl⟩
theorem ti22 : (Tryz.prog.info? 31).map (fun i => (i.zero, i.size, i.bytes)) = some (some (.agg #[.slice none 0 0, .slice none 0 0]), 2, 48) := by kernel_rfl
instance : SlT Tryz.prog 22 31 2 48 := ⟨by kernel_rfl, by obtain ⟨j, h1, h2, h3, h4⟩ := info_parts ti22; exact ⟨j, _, h1, h2, h3, h4, rfl⟩⟩
instance : ScT Tryz.prog 22 := ⟨fun _ => by kernel_rfl, fun _ => by kernel_rfl⟩
instance : ZeT Tryz.prog 22 (.slice none 0 0) := ⟨fun _ => by kernel_rfl⟩
theorem ti23 : (Tryz.prog.info? 35).map (fun i => (i.zero, i.size, i.bytes)) = some (some (.agg #[.int .u64 0, .int .i64 0, .slice none 0 0, .slice none 0 0, .slice none 0 0]), 5, 88) := by kernel_rfl
instance : SlT Tryz.prog 23 35 5 88 := ⟨by kernel_rfl, by obtain ⟨j, h1, h2, h3, h4⟩ := info_parts ti23; exact ⟨j, _, h1, h2, h3, h4, rfl⟩⟩
instance : ScT Tryz.prog 23 := ⟨fun _ => by kernel_rfl, fun _ => by kernel_rfl⟩
instance : ZeT Tryz.prog 23 (.slice none 0 0) := ⟨fun _ => by kernel_rfl⟩
instance : ByT Tryz.prog 24 := ⟨5, by kernel_rfl, by kernel_rfl⟩
theorem ti24 : (Tryz.prog.info? 5).map (fun i => (i.zero, i.size, i.bytes)) = some (some (.int .u8 0), 1, 1) := by kernel_rfl
instance : SlT Tryz.prog 24 5 1 1 := ⟨by kernel_rfl, by obtain ⟨j, h1, h2, h3, h4⟩ := info_parts ti24; exact ⟨j, _, h1, h2, h3, h4, rfl⟩⟩
instance : ScT Tryz.prog 24 := ⟨fun _ => by kernel_rfl, fun _ => by kernel_rfl⟩
instance : ZeT Tryz.prog 24 (.slice none 0 0) := ⟨fun _ => by kernel_rfl⟩
instance : ScT Tryz.prog 25 := ⟨fun _ => by kernel_rfl, fun _ => by kernel_rfl⟩
instance : FuT Tryz.prog 25 := ⟨fun _ => by kernel_rfl, fun _ _ _ _ => by kernel_rfl⟩
instance : ZeT Tryz.prog 25 (.nilFunc) := ⟨fun _ => by kernel_rfl⟩
instance : ScT Tryz.prog 26 := ⟨fun _ => by kernel_rfl, fun _ => by kernel_rfl⟩
instance : FuT Tryz.prog 26 := ⟨fun _ => by kernel_rfl, fun _ _ _ _ => by kernel_rfl⟩
instance : ZeT Tryz.prog 26 (.nilFunc) := ⟨fun _ => by kernel_rfl⟩
instance : ScT Tryz.prog 27 := ⟨fun _ => by kernel_rfl, fun _ => by kernel_rfl⟩
instance : FuT Tryz.prog 27 := ⟨fun _ => by kernel_rfl, fun _ _ _ _ => by kernel_rfl⟩
instance : ZeT Tryz.prog 27 (.nilFunc) := ⟨fun _ => by kernel_rfl⟩
instance : ScT Tryz.prog 28 := ⟨fun _ => by kernel_rfl, fun _ => by kernel_rfl⟩
instance : FuT Tryz.prog 28 := ⟨fun _ => by kernel_rfl, fun _ _ _ _ => by kernel_rfl⟩
instance : ZeT Tryz.prog 28 (.nilFunc) := ⟨fun _ => by kernel_rfl⟩
theorem ti29 : (Tryz.prog.info? 24).map (fun i => (i.zero, i.size, i.bytes)) = some (some (.slice none 0 0), 1, 24) := by kernel_rfl
instance : SlT Tryz.prog 29 24 1 24 := ⟨by kernel_rfl, by obtain ⟨j, h1, h2, h3, h4⟩ := info_parts ti29; exact ⟨j, _, h1, h2, h3, h4, rfl⟩⟩
instance : ScT Tryz.prog 29 := ⟨fun _ => by kernel_rfl, fun _ => by kernel_rfl⟩
instance : ZeT Tryz.prog 29 (.slice none 0 0) := ⟨fun _ => by kernel_rfl⟩
instance : AgT Tryz.prog 30 2 := ⟨fun _ => by kernel_rfl, fun _ => by kernel_rfl⟩
instance : FdT Tryz.prog 30 0 0 := ⟨fun _ _ => by kernel_rfl⟩
instance : FdT Tryz.prog 30 1 1 := ⟨fun _ _ => by kernel_rfl⟩
instance : ZeT Tryz.prog 30 (.agg #[.slice none 0 0, .slice none 0 0]) := ⟨fun _ => by kernel_rfl⟩
instance : AgT Tryz.prog 31 2 := ⟨fun _ => by kernel_rfl, fun _ => by kernel_rfl⟩
instance : FdT Tryz.prog 31 0 0 := ⟨fun _ _ => by kernel_rfl⟩
instance : FdT Tryz.prog 31 1 1 := ⟨fun _ _ => by kernel_rfl⟩
instance : ZeT Tryz.prog 31 (.agg #[.slice none 0 0, .slice none 0 0]) := ⟨fun _ => by kernel_rfl⟩
instance : ScT Tryz.prog 32 := ⟨fun _ => by kernel_rfl, fun _ => by kernel_rfl⟩
instance : InT Tryz.prog 32 .u64 := ⟨by kernel_rfl⟩
instance : ZeT Tryz.prog 32 (.int .u64 0) := ⟨fun _ => by kernel_rfl⟩
instance : ScT Tryz.prog 33 := ⟨fun _ => by kernel_rfl, fun _ => by kernel_rfl⟩
instance : InT Tryz.prog 33 .i64 := ⟨by kernel_rfl⟩
instance : ZeT Tryz.prog 33 (.int .i64 0) := ⟨fun _ => by kernel_rfl⟩
instance : AgT Tryz.prog 34 5 := ⟨fun _ => by kernel_rfl, fun _ => by kernel_rfl⟩
instance : FdT Tryz.prog 34 0 0 := ⟨fun _ _ => by kernel_rfl⟩
instance : FdT Tryz.prog 34 1 1 := ⟨fun _ _ => by kernel_rfl⟩
instance : FdT Tryz.prog 34 2 2 := ⟨fun _ _ => by kernel_rfl⟩
instance : FdT Tryz.prog 34 3 3 := ⟨fun _ _ => by kernel_rfl⟩
instance : FdT Tryz.prog 34 4 4 := ⟨fun _ _ => by kernel_rfl⟩
instance : ZeT Tryz.prog 34 (.agg #[.int .u64 0, .int .i64 0, .slice none 0 0, .slice none 0 0, .slice none 0 0]) := ⟨fun _ => by kernel_rfl⟩
instance : AgT Tryz.prog 35 5 := ⟨fun _ => by kernel_rfl, fun _ => by kernel_rfl⟩
instance : FdT Tryz.prog 35 0 0 := ⟨fun _ _ => by kernel_rfl⟩
instance : FdT Tryz.prog 35 1 1 := ⟨fun _ _ => by kernel_rfl⟩
instance : FdT Tryz.prog 35 2 2 := ⟨fun _ _ => by kernel_rfl⟩
instance : FdT Tryz.prog 35 3 3 := ⟨fun _ _ => by kernel_rfl⟩
instance : FdT Tryz.prog 35 4 4 := ⟨fun _ _ => by kernel_rfl⟩
instance : ZeT Tryz.prog 35 (.agg #[.int .u64 0, .int .i64 0, .slice none 0 0, .slice none 0 0, .slice none 0 0]) := ⟨fun _ => by kernel_rfl⟩
instance : ScT Tryz.prog 36 := ⟨fun _ => by kernel_rfl, fun _ => by kernel_rfl⟩
instance : FuT Tryz.prog 36 := ⟨fun _ => by kernel_rfl, fun _ _ _ _ => by kernel_rfl⟩
instance : ZeT Tryz.prog 36 (.nilFunc) := ⟨fun _ => by kernel_rfl⟩
instance : ScT Tryz.prog 38 := ⟨fun _ => by kernel_rfl, fun _ => by kernel_rfl⟩
instance : FuT Tryz.prog 38 := ⟨fun _ => by kernel_rfl, fun _ _ _ _ => by kernel_rfl⟩
instance : ZeT Tryz.prog 38 (.nilFunc) := ⟨fun _ => by kernel_rfl⟩
instance : ScT Tryz.prog 40 := ⟨fun _ => by kernel_rfl, fun _ => by kernel_rfl⟩
instance : FuT Tryz.prog 40 := ⟨fun _ => by kernel_rfl, fun _ _ _ _ => by kernel_rfl⟩
instance : ZeT Tryz.prog 40 (.nilFunc) := ⟨fun _ => by kernel_rfl⟩
instance : ScT Tryz.prog 42 := ⟨fun _ => by kernel_rfl, fun _ => by kernel_rfl⟩
instance : FuT Tryz.prog 42 := ⟨fun _ => by kernel_rfl, fun _ _ _ _ => by kernel_rfl⟩
instance : ZeT Tryz.prog 42 (.nilFunc) := ⟨fun _ => by kernel_rfl⟩
instance : ScT Tryz.prog 43 := ⟨fun _ => by kernel_rfl, fun _ => by kernel_rfl⟩
instance : FuT Tryz.prog 43 := ⟨fun _ => by kernel_rfl, fun _ _ _ _ => by kernel_rfl⟩
instance : ZeT Tryz.prog 43 (.nilFunc) := ⟨fun _ => by kernel_rfl⟩
instance : ScT Tryz.prog 44 := ⟨fun _ => by kernel_rfl, fun _ => by kernel_rfl⟩
instance : FuT Tryz.prog 44 := ⟨fun _ => by kernel_rfl, fun _ _ _ _ => by kernel_rfl⟩
instance : ZeT Tryz.prog 44 (.nilFunc) := ⟨fun _ => by kernel_rfl⟩
theorem ti45 : (Tryz.prog.info? 83).map (fun i => (i.zero, i.size, i.bytes)) = some (some (.agg #[.bool false, .slice none 0 0, .slice none 0 0, .slice none 0 0, .slice none 0 0, .bool false]), 6, 112) := by kernel_rfl
instance : SlT Tryz.prog 45 83 6 112 := ⟨by kernel_rfl, by obtain ⟨j, h1, h2, h3, h4⟩ := info_parts ti45; exact ⟨j, _, h1, h2, h3, h4, rfl⟩⟩
instance : ScT Tryz.prog 45 := ⟨fun _ => by kernel_rfl, fun _ => by kernel_rfl⟩
instance : ZeT Tryz.prog 45 (.slice none 0 0) := ⟨fun _ => by kernel_rfl⟩
instance : ScT Tryz.prog 46 := ⟨fun _ => by kernel_rfl, fun _ => by kernel_rfl⟩
instance : FuT Tryz.prog 46 := ⟨fun _ => by kernel_rfl, fun _ _ _ _ => by kernel_rfl⟩
instance : ZeT Tryz.prog 46 (.nilFunc) := ⟨fun _ => by kernel_rfl⟩
instance : ScT Tryz.prog 47 := ⟨fun _ => by kernel_rfl, fun _ => by kernel_rfl⟩
instance : FuT Tryz.prog 47 := ⟨fun _ => by kernel_rfl, fun _ _ _ _ => by kernel_rfl⟩
instance : ZeT Tryz.prog 47 (.nilFunc) := ⟨fun _ => by kernel_rfl⟩
instance : ScT Tryz.prog 48 := ⟨fun _ => by kernel_rfl, fun _ => by kernel_rfl⟩
instance : FuT Tryz.prog 48 := ⟨fun _ => by kernel_rfl, fun _ _ _ _ => by kernel_rfl⟩
instance : ZeT Tryz.prog 48 (.nilFunc) := ⟨fun _ => by kernel_rfl⟩
instance : ScT Tryz.prog 49 := ⟨fun _ => by kernel_rfl, fun _ => by kernel_rfl⟩
instance : FuT Tryz.prog 49 := ⟨fun _ => by kernel_rfl, fun _ _ _ _ => by kernel_rfl⟩
instance : ZeT Tryz.prog 49 (.nilFunc) := ⟨fun _ => by kernel_rfl⟩
instance : ScT Tryz.prog 50 := ⟨fun _ => by kernel_rfl, fun _ => by kernel_rfl⟩
instance : FuT Tryz.prog 50 := ⟨fun _ => by kernel_rfl, fun _ _ _ _ => by kernel_rfl⟩
instance : ZeT Tryz.prog 50 (.nilFunc) := ⟨fun _ => by kernel_rfl⟩
instance : ScT Tryz.prog 51 := ⟨fun _ => by kernel_rfl, fun _ => by kernel_rfl⟩
instance : FuT Tryz.prog 51 := ⟨fun _ => by kernel_rfl, fun _ _ _ _ => by kernel_rfl⟩
instance : ZeT Tryz.prog 51 (.nilFunc) := ⟨fun _ => by kernel_rfl⟩
instance : AgT Tryz.prog 52 3 := ⟨fun _ => by kernel_rfl, fun _ => by kernel_rfl⟩
instance : FdT Tryz.prog 52 0 0 := ⟨fun _ _ => by kernel_rfl⟩
instance : FdT Tryz.prog 52 1 1 := ⟨fun _ _ => by kernel_rfl⟩
instance : FdT Tryz.prog 52 2 2 := ⟨fun _ _ => by kernel_rfl⟩
instance : ZeT Tryz.prog 52 (.agg #[.slice none 0 0, .slice none 0 0, .bool false]) := ⟨fun _ => by kernel_rfl⟩
instance : AgT Tryz.prog 53 3 := ⟨fun _ => by kernel_rfl, fun _ => by kernel_rfl⟩
instance : FdT Tryz.prog 53 0 0 := ⟨fun _ _ => by kernel_rfl⟩
instance : FdT Tryz.prog 53 1 1 := ⟨fun _ _ => by kernel_rfl⟩
instance : FdT Tryz.prog 53 2 2 := ⟨fun _ _ => by kernel_rfl⟩
instance : ZeT Tryz.prog 53 (.agg #[.slice none 0 0, .slice none 0 0, .bool false]) := ⟨fun _ => by kernel_rfl⟩
instance : ScT Tryz.prog 54 := ⟨fun _ => by kernel_rfl, fun _ => by kernel_rfl⟩
instance : FuT Tryz.prog 54 := ⟨fun _ => by kernel_rfl, fun _ _ _ _ => by kernel_rfl⟩
instance : ZeT Tryz.prog 54 (.nilFunc) := ⟨fun _ => by kernel_rfl⟩
instance : ScT Tryz.prog 55 := ⟨fun _ => by kernel_rfl, fun _ => by kernel_rfl⟩
instance : FuT Tryz.prog 55 := ⟨fun _ => by kernel_rfl, fun _ _ _ _ => by kernel_rfl⟩
instance : ZeT Tryz.prog 55 (.nilFunc) := ⟨fun _ => by kernel_rfl⟩
instance : ScT Tryz.prog 56 := ⟨fun _ => by kernel_rfl, fun _ => by kernel_rfl⟩
instance : FuT Tryz.prog 56 := ⟨fun _ => by kernel_rfl, fun _ _ _ _ => by kernel_rfl⟩
instance : ZeT Tryz.prog 56 (.nilFunc) := ⟨fun _ => by kernel_rfl⟩
instance : ScT Tryz.prog 58 := ⟨fun _ => by kernel_rfl, fun _ => by kernel_rfl⟩
instance : FuT Tryz.prog 58 := ⟨fun _ => by kernel_rfl, fun _ _ _ _ => by kernel_rfl⟩
instance : ZeT Tryz.prog 58 (.nilFunc) := ⟨fun _ => by kernel_rfl⟩
instance : ScT Tryz.prog 59 := ⟨fun _ => by kernel_rfl, fun _ => by kernel_rfl⟩
instance : FuT Tryz.prog 59 := ⟨fun _ => by kernel_rfl, fun _ _ _ _ => by kernel_rfl⟩
instance : ZeT Tryz.prog 59 (.nilFunc) := ⟨fun _ => by kernel_rfl⟩
theorem ti60 : (Tryz.prog.info? 71).map (fun i => (i.zero, i.size, i.bytes)) = some (some (.agg #[.int .i64 0, .int .i64 0, .slice none 0 0, .slice none 0 0, .slice none 0 0, .slice none 0 0, .slice none 0 0, .bool false]), 8, 144) := by kernel_rfl
instance : SlT Tryz.prog 60 71 8 144 := ⟨by kernel_rfl, by obtain ⟨j, h1, h2, h3, h4⟩ := info_parts ti60; exact ⟨j, _, h1, h2, h3, h4, rfl⟩⟩
instance : ScT Tryz.prog 60 := ⟨fun _ => by kernel_rfl, fun _ => by kernel_rfl⟩
instance : ZeT Tryz.prog 60 (.slice none 0 0) := ⟨fun _ => by kernel_rfl⟩
instance : ScT Tryz.prog 61 := ⟨fun _ => by kernel_rfl, fun _ => by kernel_rfl⟩
instance : PtT Tryz.prog 61 := ⟨by kernel_rfl⟩
instance : ZeT Tryz.prog 61 (.pointer none) := ⟨fun _ => by kernel_rfl⟩
theorem ti62 : (Tryz.prog.info? 9).map (fun i => (i.zero, i.size, i.bytes)) = some (some (.string ⟨#[]⟩), 1, 16) := by kernel_rfl
instance : SlT Tryz.prog 62 9 1 16 := ⟨by kernel_rfl, by obtain ⟨j, h1, h2, h3, h4⟩ := info_parts ti62; exact ⟨j, _, h1, h2, h3, h4, rfl⟩⟩
instance : ScT Tryz.prog 62 := ⟨fun _ => by kernel_rfl, fun _ => by kernel_rfl⟩
instance : ZeT Tryz.prog 62 (.slice none 0 0) := ⟨fun _ => by kernel_rfl⟩
instance : AgT Tryz.prog 63 2 := ⟨fun _ => by kernel_rfl, fun _ => by kernel_rfl⟩
instance : FdT Tryz.prog 63 0 0 := ⟨fun _ _ => by kernel_rfl⟩
instance : FdT Tryz.prog 63 1 1 := ⟨fun _ _ => by kernel_rfl⟩
instance : ZeT Tryz.prog 63 (.agg #[.slice none 0 0, .slice none 0 0]) := ⟨fun _ => by kernel_rfl⟩
instance : AgT Tryz.prog 64 2 := ⟨fun _ => by kernel_rfl, fun _ => by kernel_rfl⟩
instance : FdT Tryz.prog 64 0 0 := ⟨fun _ _ => by kernel_rfl⟩
instance : FdT Tryz.prog 64 1 1 := ⟨fun _ _ => by kernel_rfl⟩
instance : ZeT Tryz.prog 64 (.agg #[.slice none 0 0, .slice none 0 0]) := ⟨fun _ => by kernel_rfl⟩
theorem ti65 : (Tryz.prog.info? 22).map (fun i => (i.zero, i.size, i.bytes)) = some (some (.slice none 0 0), 1, 24) := by kernel_rfl
instance : SlT Tryz.prog 65 22 1 24 := ⟨by kernel_rfl, by obtain ⟨j, h1, h2, h3, h4⟩ := info_parts ti65; exact ⟨j, _, h1, h2, h3, h4, rfl⟩⟩
instance : ScT Tryz.prog 65 := ⟨fun _ => by kernel_rfl, fun _ => by kernel_rfl⟩
instance : ZeT Tryz.prog 65 (.slice none 0 0) := ⟨fun _ => by kernel_rfl⟩
theorem ti66 : (Tryz.prog.info? 23).map (fun i => (i.zero, i.size, i.bytes)) = some (some (.slice none 0 0), 1, 24) := by kernel_rfl
instance : SlT Tryz.prog 66 23 1 24 := ⟨by kernel_rfl, by obtain ⟨j, h1, h2, h3, h4⟩ := info_parts ti66; exact ⟨j, _, h1, h2, h3, h4, rfl⟩⟩
instance : ScT Tryz.prog 66 := ⟨fun _ => by kernel_rfl, fun _ => by kernel_rfl⟩
instance : ZeT Tryz.prog 66 (.slice none 0 0) := ⟨fun _ => by kernel_rfl⟩
theorem ti67 : (Tryz.prog.info? 45).map (fun i => (i.zero, i.size, i.bytes)) = some (some (.slice none 0 0), 1, 24) := by kernel_rfl
instance : SlT Tryz.prog 67 45 1 24 := ⟨by kernel_rfl, by obtain ⟨j, h1, h2, h3, h4⟩ := info_parts ti67; exact ⟨j, _, h1, h2, h3, h4, rfl⟩⟩
instance : ScT Tryz.prog 67 := ⟨fun _ => by kernel_rfl, fun _ => by kernel_rfl⟩
instance : ZeT Tryz.prog 67 (.slice none 0 0) := ⟨fun _ => by kernel_rfl⟩
instance : AgT Tryz.prog 68 6 := ⟨fun _ => by kernel_rfl, fun _ => by kernel_rfl⟩
instance : FdT Tryz.prog 68 0 0 := ⟨fun _ _ => by kernel_rfl⟩
instance : FdT Tryz.prog 68 1 2 := ⟨fun _ _ => by kernel_rfl⟩
instance : FdT Tryz.prog 68 2 3 := ⟨fun _ _ => by kernel_rfl⟩
instance : FdT Tryz.prog 68 3 4 := ⟨fun _ _ => by kernel_rfl⟩
instance : FdT Tryz.prog 68 4 5 := ⟨fun _ _ => by kernel_rfl⟩
instance : ZeT Tryz.prog 68 (.agg #[.slice none 0 0, .slice none 0 0, .slice none 0 0, .slice none 0 0, .slice none 0 0, .int .i64 0]) := ⟨fun _ => by kernel_rfl⟩
instance : AgT Tryz.prog 69 6 := ⟨fun _ => by kernel_rfl, fun _ => by kernel_rfl⟩
instance : FdT Tryz.prog 69 0 0 := ⟨fun _ _ => by kernel_rfl⟩
instance : FdT Tryz.prog 69 1 2 := ⟨fun _ _ => by kernel_rfl⟩
instance : FdT Tryz.prog 69 2 3 := ⟨fun _ _ => by kernel_rfl⟩
instance : FdT Tryz.prog 69 3 4 := ⟨fun _ _ => by kernel_rfl⟩
instance : FdT Tryz.prog 69 4 5 := ⟨fun _ _ => by kernel_rfl⟩
instance : ZeT Tryz.prog 69 (.agg #[.slice none 0 0, .slice none 0 0, .slice none 0 0, .slice none 0 0, .slice none 0 0, .int .i64 0]) := ⟨fun _ => by kernel_rfl⟩
instance : AgT Tryz.prog 70 8 := ⟨fun _ => by kernel_rfl, fun _ => by kernel_rfl⟩
instance : FdT Tryz.prog 70 0 0 := ⟨fun _ _ => by kernel_rfl⟩
instance : FdT Tryz.prog 70 1 1 := ⟨fun _ _ => by kernel_rfl⟩
instance : FdT Tryz.prog 70 2 2 := ⟨fun _ _ => by kernel_rfl⟩
instance : FdT Tryz.prog 70 3 3 := ⟨fun _ _ => by kernel_rfl⟩
instance : FdT Tryz.prog 70 4 4 := ⟨fun _ _ => by kernel_rfl⟩
instance : FdT Tryz.prog 70 5 5 := ⟨fun _ _ => by kernel_rfl⟩
instance : ZeT Tryz.prog 70 (.agg #[.int .i64 0, .int .i64 0, .slice none 0 0, .slice none 0 0, .slice none 0 0, .slice none 0 0, .slice none 0 0, .bool false]) := ⟨fun _ => by kernel_rfl⟩
instance : AgT Tryz.prog 71 8 := ⟨fun _ => by kernel_rfl, fun _ => by kernel_rfl⟩
instance : FdT Tryz.prog 71 0 0 := ⟨fun _ _ => by kernel_rfl⟩
instance : FdT Tryz.prog 71 1 1 := ⟨fun _ _ => by kernel_rfl⟩
instance : FdT Tryz.prog 71 2 2 := ⟨fun _ _ => by kernel_rfl⟩
instance : FdT Tryz.prog 71 3 3 := ⟨fun _ _ => by kernel_rfl⟩
instance : FdT Tryz.prog 71 4 4 := ⟨fun _ _ => by kernel_rfl⟩
instance : FdT Tryz.prog 71 5 5 := ⟨fun _ _ => by kernel_rfl⟩
instance : ZeT Tryz.prog 71 (.agg #[.int .i64 0, .int .i64 0, .slice none 0 0, .slice none 0 0, .slice none 0 0, .slice none 0 0, .slice none 0 0, .bool false]) := ⟨fun _ => by kernel_rfl⟩
instance : ScT Tryz.prog 72 := ⟨fun _ => by kernel_rfl, fun _ => by kernel_rfl⟩
instance : FuT Tryz.prog 72 := ⟨fun _ => by kernel_rfl, fun _ _ _ _ => by kernel_rfl⟩
instance : ZeT Tryz.prog 72 (.nilFunc) := ⟨fun _ => by kernel_rfl⟩
instance : ScT Tryz.prog 73 := ⟨fun _ => by kernel_rfl, fun _ => by kernel_rfl⟩
instance : FuT Tryz.prog 73 := ⟨fun _ => by kernel_rfl, fun _ _ _ _ => by kernel_rfl⟩
instance : ZeT Tryz.prog 73 (.nilFunc) := ⟨fun _ => by kernel_rfl⟩
instance : ScT Tryz.prog 74 := ⟨fun _ => by kernel_rfl, fun _ => by kernel_rfl⟩
instance : FuT Tryz.prog 74 := ⟨fun _ => by kernel_rfl, fun _ _ _ _ => by kernel_rfl⟩
instance : ZeT Tryz.prog 74 (.nilFunc) := ⟨fun _ => by kernel_rfl⟩
instance : ScT Tryz.prog 75 := ⟨fun _ => by kernel_rfl, fun _ => by kernel_rfl⟩
instance : FuT Tryz.prog 75 := ⟨fun _ => by kernel_rfl, fun _ _ _ _ => by kernel_rfl⟩
instance : ZeT Tryz.prog 75 (.nilFunc) := ⟨fun _ => by kernel_rfl⟩
instance : ScT Tryz.prog 76 := ⟨fun _ => by kernel_rfl, fun _ => by kernel_rfl⟩
instance : InT Tryz.prog 76 .i64 := ⟨by kernel_rfl⟩
instance : ZeT Tryz.prog 76 (.int .i64 0) := ⟨fun _ => by kernel_rfl⟩
instance : ScT Tryz.prog 78 := ⟨fun _ => by kernel_rfl, fun _ => by kernel_rfl⟩
instance : FuT Tryz.prog 78 := ⟨fun _ => by kernel_rfl, fun _ _ _ _ => by kernel_rfl⟩
instance : ZeT Tryz.prog 78 (.nilFunc) := ⟨fun _ => by kernel_rfl⟩
instance : ScT Tryz.prog 80 := ⟨fun _ => by kernel_rfl, fun _ => by kernel_rfl⟩
instance : FuT Tryz.prog 80 := ⟨fun _ => by kernel_rfl, fun _ _ _ _ => by kernel_rfl⟩
instance : ZeT Tryz.prog 80 (.nilFunc) := ⟨fun _ => by kernel_rfl⟩
instance : ScT Tryz.prog 81 := ⟨fun _ => by kernel_rfl, fun _ => by kernel_rfl⟩
instance : FuT Tryz.prog 81 := ⟨fun _ => by kernel_rfl, fun _ _ _ _ => by kernel_rfl⟩
instance : ZeT Tryz.prog 81 (.nilFunc) := ⟨fun _ => by kernel_rfl⟩
instance : AgT Tryz.prog 82 6 := ⟨fun _ => by kernel_rfl, fun _ => by kernel_rfl⟩
instance : FdT Tryz.prog 82 0 0 := ⟨fun _ _ => by kernel_rfl⟩
instance : FdT Tryz.prog 82 1 1 := ⟨fun _ _ => by kernel_rfl⟩
instance : FdT Tryz.prog 82 2 2 := ⟨fun _ _ => by kernel_rfl⟩
instance : FdT Tryz.prog 82 3 3 := ⟨fun _ _ => by kernel_rfl⟩
instance : ZeT Tryz.prog 82 (.agg #[.bool false, .slice none 0 0, .slice none 0 0, .slice none 0 0, .slice none 0 0, .bool false]) := ⟨fun _ => by kernel_rfl⟩
instance : AgT Tryz.prog 83 6 := ⟨fun _ => by kernel_rfl, fun _ => by kernel_rfl⟩
instance : FdT Tryz.prog 83 0 0 := ⟨fun _ _ => by kernel_rfl⟩
instance : FdT Tryz.prog 83 1 1 := ⟨fun _ _ => by kernel_rfl⟩
instance : FdT Tryz.prog 83 2 2 := ⟨fun _ _ => by kernel_rfl⟩
instance : FdT Tryz.prog 83 3 3 := ⟨fun _ _ => by kernel_rfl⟩
instance : ZeT Tryz.prog 83 (.agg #[.bool false, .slice none 0 0, .slice none 0 0, .slice none 0 0, .slice none 0 0, .bool false]) := ⟨fun _ => by kernel_rfl⟩
instance : ScT Tryz.prog 84 := ⟨fun _ => by kernel_rfl, fun _ => by kernel_rfl⟩
instance : FuT Tryz.prog 84 := ⟨fun _ => by kernel_rfl, fun _ _ _ _ => by kernel_rfl⟩
instance : ZeT Tryz.prog 84 (.nilFunc) := ⟨fun _ => by kernel_rfl⟩
instance : ScT Tryz.prog 85 := ⟨fun _ => by kernel_rfl, fun _ => by kernel_rfl⟩
instance : FuT Tryz.prog 85 := ⟨fun _ => by kernel_rfl, fun _ _ _ _ => by kernel_rfl⟩
instance : ZeT Tryz.prog 85 (.nilFunc) := ⟨fun _ => by kernel_rfl⟩
instance : ScT Tryz.prog 86 := ⟨fun _ => by kernel_rfl, fun _ => by kernel_rfl⟩
instance : FuT Tryz.prog 86 := ⟨fun _ => by kernel_rfl, fun _ _ _ _ => by kernel_rfl⟩
instance : ZeT Tryz.prog 86 (.nilFunc) := ⟨fun _ => by kernel_rfl⟩
instance : ScT Tryz.prog 87 := ⟨fun _ => by kernel_rfl, fun _ => by kernel_rfl⟩
instance : ZeT Tryz.prog 87 (.nilIface) := ⟨fun _ => by kernel_rfl⟩
instance : ScT Tryz.prog 88 := ⟨fun _ => by kernel_rfl, fun _ => by kernel_rfl⟩
instance : ZeT Tryz.prog 88 (.nilIface) := ⟨fun _ => by kernel_rfl⟩
instance : ScT Tryz.prog 89 := ⟨fun _ => by kernel_rfl, fun _ => by kernel_rfl⟩
instance : FuT Tryz.prog 89 := ⟨fun _ => by kernel_rfl, fun _ _ _ _ => by kernel_rfl⟩
instance : ZeT Tryz.prog 89 (.nilFunc) := ⟨fun _ => by kernel_rfl⟩
instance : AgT Tryz.prog 90 2 := ⟨fun _ => by kernel_rfl, fun _ => by kernel_rfl⟩
instance : FdT Tryz.prog 90 0 0 := ⟨fun _ _ => by kernel_rfl⟩
instance : FdT Tryz.prog 90 1 1 := ⟨fun _ _ => by kernel_rfl⟩
instance : ZeT Tryz.prog 90 (.agg #[.slice none 0 0, .slice none 0 0]) := ⟨fun _ => by kernel_rfl⟩
instance : AgT Tryz.prog 91 2 := ⟨fun _ => by kernel_rfl, fun _ => by kernel_rfl⟩
instance : FdT Tryz.prog 91 0 0 := ⟨fun _ _ => by kernel_rfl⟩
instance : FdT Tryz.prog 91 1 1 := ⟨fun _ _ => by kernel_rfl⟩
instance : ZeT Tryz.prog 91 (.agg #[.slice none 0 0, .slice none 0 0]) := ⟨fun _ => by kernel_rfl⟩
instance : ScT Tryz.prog 93 := ⟨fun _ => by kernel_rfl, fun _ => by kernel_rfl⟩
instance : FuT Tryz.prog 93 := ⟨fun _ => by kernel_rfl, fun _ _ _ _ => by kernel_rfl⟩
instance : ZeT Tryz.prog 93 (.nilFunc) := ⟨fun _ => by kernel_rfl⟩
instance : ScT Tryz.prog 94 := ⟨fun _ => by kernel_rfl, fun _ => by kernel_rfl⟩
instance : FuT Tryz.prog 94 := ⟨fun _ => by kernel_rfl, fun _ _ _ _ => by kernel_rfl⟩
instance : ZeT Tryz.prog 94 (.nilFunc) := ⟨fun _ => by kernel_rfl⟩
instance : AgT Tryz.prog 95 1 := ⟨fun _ => by kernel_rfl, fun _ => by kernel_rfl⟩
instance : FdT Tryz.prog 95 0 0 := ⟨fun _ _ => by kernel_rfl⟩
instance : ZeT Tryz.prog 95 (.agg #[.slice none 0 0]) := ⟨fun _ => by kernel_rfl⟩
instance : AgT Tryz.prog 96 1 := ⟨fun _ => by kernel_rfl, fun _ => by kernel_rfl⟩
instance : FdT Tryz.prog 96 0 0 := ⟨fun _ _ => by kernel_rfl⟩
instance : ZeT Tryz.prog 96 (.agg #[.slice none 0 0]) := ⟨fun _ => by kernel_rfl⟩
instance : ScT Tryz.prog 97 := ⟨fun _ => by kernel_rfl, fun _ => by kernel_rfl⟩
instance : FuT Tryz.prog 97 := ⟨fun _ => by kernel_rfl, fun _ _ _ _ => by kernel_rfl⟩
instance : ZeT Tryz.prog 97 (.nilFunc) := ⟨fun _ => by kernel_rfl⟩
instance : AgT Tryz.prog 98 2 := ⟨fun _ => by kernel_rfl, fun _ => by kernel_rfl⟩
instance : FdT Tryz.prog 98 0 0 := ⟨fun _ _ => by kernel_rfl⟩
instance : FdT Tryz.prog 98 1 1 := ⟨fun _ _ => by kernel_rfl⟩
instance : ZeT Tryz.prog 98 (.agg #[.slice none 0 0, .slice none 0 0]) := ⟨fun _ => by kernel_rfl⟩
instance : AgT Tryz.prog 99 2 := ⟨fun _ => by kernel_rfl, fun _ => by kernel_rfl⟩
instance : FdT Tryz.prog 99 0 0 := ⟨fun _ _ => by kernel_rfl⟩
instance : FdT Tryz.prog 99 1 1 := ⟨fun _ _ => by kernel_rfl⟩
instance : ZeT Tryz.prog 99 (.agg #[.slice none 0 0, .slice none 0 0]) := ⟨fun _ => by kernel_rfl⟩
instance : ScT Tryz.prog 100 := ⟨fun _ => by kernel_rfl, fun _ => by kernel_rfl⟩
instance : FuT Tryz.prog 100 := ⟨fun _ => by kernel_rfl, fun _ _ _ _ => by kernel_rfl⟩
instance : ZeT Tryz.prog 100 (.nilFunc) := ⟨fun _ => by kernel_rfl⟩
instance : ScT Tryz.prog 101 := ⟨fun _ => by kernel_rfl, fun _ => by kernel_rfl⟩
instance : FuT Tryz.prog 101 := ⟨fun _ => by kernel_rfl, fun _ _ _ _ => by kernel_rfl⟩
instance : ZeT Tryz.prog 101 (.nilFunc) := ⟨fun _ => by kernel_rfl⟩
instance : ScT Tryz.prog 102 := ⟨fun _ => by kernel_rfl, fun _ => by kernel_rfl⟩
instance : FuT Tryz.prog 102 := ⟨fun _ => by kernel_rfl, fun _ _ _ _ => by kernel_rfl⟩
instance : ZeT Tryz.prog 102 (.nilFunc) := ⟨fun _ => by kernel_rfl⟩
theorem ti104 : (Tryz.prog.info? 53).map (fun i => (i.zero, i.size, i.bytes)) = some (some (.agg #[.slice none 0 0, .slice none 0 0, .bool false]), 3, 56) := by kernel_rfl
instance : SlT Tryz.prog 104 53 3 56 := ⟨by kernel_rfl, by obtain ⟨j, h1, h2, h3, h4⟩ := info_parts ti104; exact ⟨j, _, h1, h2, h3, h4, rfl⟩⟩
instance : ScT Tryz.prog 104 := ⟨fun _ => by kernel_rfl, fun _ => by kernel_rfl⟩
instance : ZeT Tryz.prog 104 (.slice none 0 0) := ⟨fun _ => by kernel_rfl⟩
instance : ScT Tryz.prog 105 := ⟨fun _ => by kernel_rfl, fun _ => by kernel_rfl⟩
instance : FuT Tryz.prog 105 := ⟨fun _ => by kernel_rfl, fun _ _ _ _ => by kernel_rfl⟩
instance : ZeT Tryz.prog 105 (.nilFunc) := ⟨fun _ => by kernel_rfl⟩
instance : ScT Tryz.prog 106 := ⟨fun _ => by kernel_rfl, fun _ => by kernel_rfl⟩
instance : FuT Tryz.prog 106 := ⟨fun _ => by kernel_rfl, fun _ _ _ _ => by kernel_rfl⟩
instance : ZeT Tryz.prog 106 (.nilFunc) := ⟨fun _ => by kernel_rfl⟩
instance : ScT Tryz.prog 107 := ⟨fun _ => by kernel_rfl, fun _ => by kernel_rfl⟩
instance : FuT Tryz.prog 107 := ⟨fun _ => by kernel_rfl, fun _ _ _ _ => by kernel_rfl⟩
instance : ZeT Tryz.prog 107 (.nilFunc) := ⟨fun _ => by kernel_rfl⟩
instance : ScT Tryz.prog 108 := ⟨fun _ => by kernel_rfl, fun _ => by kernel_rfl⟩
instance : FuT Tryz.prog 108 := ⟨fun _ => by kernel_rfl, fun _ _ _ _ => by kernel_rfl⟩
instance : ZeT Tryz.prog 108 (.nilFunc) := ⟨fun _ => by kernel_rfl⟩
instance : ScT Tryz.prog 109 := ⟨fun _ => by kernel_rfl, fun _ => by kernel_rfl⟩
instance : FuT Tryz.prog 109 := ⟨fun _ => by kernel_rfl, fun _ _ _ _ => by kernel_rfl⟩
instance : ZeT Tryz.prog 109 (.nilFunc) := ⟨fun _ => by kernel_rfl⟩
instance : ScT Tryz.prog 110 := ⟨fun _ => by kernel_rfl, fun _ => by kernel_rfl⟩
instance : FuT Tryz.prog 110 := ⟨fun _ => by kernel_rfl, fun _ _ _ _ => by kernel_rfl⟩
instance : ZeT Tryz.prog 110 (.nilFunc) := ⟨fun _ => by kernel_rfl⟩
instance : ScT Tryz.prog 111 := ⟨fun _ => by kernel_rfl, fun _ => by kernel_rfl⟩
instance : FuT Tryz.prog 111 := ⟨fun _ => by kernel_rfl, fun _ _ _ _ => by kernel_rfl⟩
instance : ZeT Tryz.prog 111 (.nilFunc) := ⟨fun _ => by kernel_rfl⟩
instance : ScT Tryz.prog 112 := ⟨fun _ => by kernel_rfl, fun _ => by kernel_rfl⟩
instance : FuT Tryz.prog 112 := ⟨fun _ => by kernel_rfl, fun _ _ _ _ => by kernel_rfl⟩
instance : ZeT Tryz.prog 112 (.nilFunc) := ⟨fun _ => by kernel_rfl⟩
instance : ScT Tryz.prog 113 := ⟨fun _ => by kernel_rfl, fun _ => by kernel_rfl⟩
instance : FuT Tryz.prog 113 := ⟨fun _ => by kernel_rfl, fun _ _ _ _ => by kernel_rfl⟩
instance : ZeT Tryz.prog 113 (.nilFunc) := ⟨fun _ => by kernel_rfl⟩
instance : ScT Tryz.prog 114 := ⟨fun _ => by kernel_rfl, fun _ => by kernel_rfl⟩
instance : FuT Tryz.prog 114 := ⟨fun _ => by kernel_rfl, fun _ _ _ _ => by kernel_rfl⟩
instance : ZeT Tryz.prog 114 (.nilFunc) := ⟨fun _ => by kernel_rfl⟩
instance : ScT Tryz.prog 115 := ⟨fun _ => by kernel_rfl, fun _ => by kernel_rfl⟩
instance : FuT Tryz.prog 115 := ⟨fun _ => by kernel_rfl, fun _ _ _ _ => by kernel_rfl⟩
instance : ZeT Tryz.prog 115 (.nilFunc) := ⟨fun _ => by kernel_rfl⟩
instance : ScT Tryz.prog 116 := ⟨fun _ => by kernel_rfl, fun _ => by kernel_rfl⟩
instance : FuT Tryz.prog 116 := ⟨fun _ => by kernel_rfl, fun _ _ _ _ => by kernel_rfl⟩
instance : ZeT Tryz.prog 116 (.nilFunc) := ⟨fun _ => by kernel_rfl⟩
instance : ScT Tryz.prog 117 := ⟨fun _ => by kernel_rfl, fun _ => by kernel_rfl⟩
instance : FuT Tryz.prog 117 := ⟨fun _ => by kernel_rfl, fun _ _ _ _ => by kernel_rfl⟩
instance : ZeT Tryz.prog 117 (.nilFunc) := ⟨fun _ => by kernel_rfl⟩
instance : ScT Tryz.prog 118 := ⟨fun _ => by kernel_rfl, fun _ => by kernel_rfl⟩
instance : FuT Tryz.prog 118 := ⟨fun _ => by kernel_rfl, fun _ _ _ _ => by kernel_rfl⟩
instance : ZeT Tryz.prog 118 (.nilFunc) := ⟨fun _ => by kernel_rfl⟩
instance : ScT Tryz.prog 119 := ⟨fun _ => by kernel_rfl, fun _ => by kernel_rfl⟩
instance : FuT Tryz.prog 119 := ⟨fun _ => by kernel_rfl, fun _ _ _ _ => by kernel_rfl⟩
instance : ZeT Tryz.prog 119 (.nilFunc) := ⟨fun _ => by kernel_rfl⟩
instance : ScT Tryz.prog 120 := ⟨fun _ => by kernel_rfl, fun _ => by kernel_rfl⟩
instance : PtT Tryz.prog 120 := ⟨by kernel_rfl⟩
instance : ZeT Tryz.prog 120 (.pointer none) := ⟨fun _ => by kernel_rfl⟩
instance : AgT Tryz.prog 121 2 := ⟨fun _ => by kernel_rfl, fun _ => by kernel_rfl⟩
instance : FdT Tryz.prog 121 0 0 := ⟨fun _ _ => by kernel_rfl⟩
instance : FdT Tryz.prog 121 1 1 := ⟨fun _ _ => by kernel_rfl⟩
instance : ZeT Tryz.prog 121 (.agg #[.slice none 0 0, .bool false]) := ⟨fun _ => by kernel_rfl⟩
instance : AgT Tryz.prog 122 2 := ⟨fun _ => by kernel_rfl, fun _ => by kernel_rfl⟩
instance : FdT Tryz.prog 122 0 0 := ⟨fun _ _ => by kernel_rfl⟩
instance : FdT Tryz.prog 122 1 1 := ⟨fun _ _ => by kernel_rfl⟩
instance : ZeT Tryz.prog 122 (.agg #[.slice none 0 0, .bool false]) := ⟨fun _ => by kernel_rfl⟩
instance : ScT Tryz.prog 123 := ⟨fun _ => by kernel_rfl, fun _ => by kernel_rfl⟩
instance : FuT Tryz.prog 123 := ⟨fun _ => by kernel_rfl, fun _ _ _ _ => by kernel_rfl⟩
instance : ZeT Tryz.prog 123 (.nilFunc) := ⟨fun _ => by kernel_rfl⟩
instance : ScT Tryz.prog 124 := ⟨fun _ => by kernel_rfl, fun _ => by kernel_rfl⟩
instance : FuT Tryz.prog 124 := ⟨fun _ => by kernel_rfl, fun _ _ _ _ => by kernel_rfl⟩
instance : ZeT Tryz.prog 124 (.nilFunc) := ⟨fun _ => by kernel_rfl⟩
instance : ScT Tryz.prog 125 := ⟨fun _ => by kernel_rfl, fun _ => by kernel_rfl⟩
instance : FuT Tryz.prog 125 := ⟨fun _ => by kernel_rfl, fun _ _ _ _ => by kernel_rfl⟩
instance : ZeT Tryz.prog 125 (.nilFunc) := ⟨fun _ => by kernel_rfl⟩
instance : ScT Tryz.prog 126 := ⟨fun _ => by kernel_rfl, fun _ => by kernel_rfl⟩
instance : FuT Tryz.prog 126 := ⟨fun _ => by kernel_rfl, fun _ _ _ _ => by kernel_rfl⟩
instance : ZeT Tryz.prog 126 (.nilFunc) := ⟨fun _ => by kernel_rfl⟩
instance : ScT Tryz.prog 127 := ⟨fun _ => by kernel_rfl, fun _ => by kernel_rfl⟩
instance : FuT Tryz.prog 127 := ⟨fun _ => by kernel_rfl, fun _ _ _ _ => by kernel_rfl⟩
instance : ZeT Tryz.prog 127 (.nilFunc) := ⟨fun _ => by kernel_rfl⟩
instance : ScT Tryz.prog 128 := ⟨fun _ => by kernel_rfl, fun _ => by kernel_rfl⟩
instance : FuT Tryz.prog 128 := ⟨fun _ => by kernel_rfl, fun _ _ _ _ => by kernel_rfl⟩
instance : ZeT Tryz.prog 128 (.nilFunc) := ⟨fun _ => by kernel_rfl⟩
instance : ScT Tryz.prog 129 := ⟨fun _ => by kernel_rfl, fun _ => by kernel_rfl⟩
instance : FuT Tryz.prog 129 := ⟨fun _ => by kernel_rfl, fun _ _ _ _ => by kernel_rfl⟩
instance : ZeT Tryz.prog 129 (.nilFunc) := ⟨fun _ => by kernel_rfl⟩
instance : ScT Tryz.prog 130 := ⟨fun _ => by kernel_rfl, fun _ => by kernel_rfl⟩
instance : FuT Tryz.prog 130 := ⟨fun _ => by kernel_rfl, fun _ _ _ _ => by kernel_rfl⟩
instance : ZeT Tryz.prog 130 (.nilFunc) := ⟨fun _ => by kernel_rfl⟩
instance : ScT Tryz.prog 131 := ⟨fun _ => by kernel_rfl, fun _ => by kernel_rfl⟩
instance : FuT Tryz.prog 131 := ⟨fun _ => by kernel_rfl, fun _ _ _ _ => by kernel_rfl⟩
instance : ZeT Tryz.prog 131 (.nilFunc) := ⟨fun _ => by kernel_rfl⟩
instance : ScT Tryz.prog 132 := ⟨fun _ => by kernel_rfl, fun _ => by kernel_rfl⟩
instance : FuT Tryz.prog 132 := ⟨fun _ => by kernel_rfl, fun _ _ _ _ => by kernel_rfl⟩
instance : ZeT Tryz.prog 132 (.nilFunc) := ⟨fun _ => by kernel_rfl⟩
instance : ScT Tryz.prog 133 := ⟨fun _ => by kernel_rfl, fun _ => by kernel_rfl⟩
instance : FuT Tryz.prog 133 := ⟨fun _ => by kernel_rfl, fun _ _ _ _ => by kernel_rfl⟩
instance : ZeT Tryz.prog 133 (.nilFunc) := ⟨fun _ => by kernel_rfl⟩
instance : ScT Tryz.prog 134 := ⟨fun _ => by kernel_rfl, fun _ => by kernel_rfl⟩
instance : FuT Tryz.prog 134 := ⟨fun _ => by kernel_rfl, fun _ _ _ _ => by kernel_rfl⟩
instance : ZeT Tryz.prog 134 (.nilFunc) := ⟨fun _ => by kernel_rfl⟩
instance : ScT Tryz.prog 135 := ⟨fun _ => by kernel_rfl, fun _ => by kernel_rfl⟩
instance : InT Tryz.prog 135 .u64 := ⟨by kernel_rfl⟩
instance : ZeT Tryz.prog 135 (.int .u64 0) := ⟨fun _ => by kernel_rfl⟩
instance : ScT Tryz.prog 136 := ⟨fun _ => by kernel_rfl, fun _ => by kernel_rfl⟩
instance : FuT Tryz.prog 136 := ⟨fun _ => by kernel_rfl, fun _ _ _ _ => by kernel_rfl⟩
instance : ZeT Tryz.prog 136 (.nilFunc) := ⟨fun _ => by kernel_rfl⟩
instance : ScT Tryz.prog 137 := ⟨fun _ => by kernel_rfl, fun _ => by kernel_rfl⟩
instance : PtT Tryz.prog 137 := ⟨by kernel_rfl⟩
instance : ZeT Tryz.prog 137 (.pointer none) := ⟨fun _ => by kernel_rfl⟩
instance : ScT Tryz.prog 138 := ⟨fun _ => by kernel_rfl, fun _ => by kernel_rfl⟩
instance : FuT Tryz.prog 138 := ⟨fun _ => by kernel_rfl, fun _ _ _ _ => by kernel_rfl⟩
instance : ZeT Tryz.prog 138 (.nilFunc) := ⟨fun _ => by kernel_rfl⟩
theorem ti139 : (Tryz.prog.info? 3).map (fun i => (i.zero, i.size, i.bytes)) = some (some (.int .i64 0), 1, 8) := by kernel_rfl
instance : SlT Tryz.prog 139 3 1 8 := ⟨by kernel_rfl, by obtain ⟨j, h1, h2, h3, h4⟩ := info_parts ti139; exact ⟨j, _, h1, h2, h3, h4, rfl⟩⟩
instance : ScT Tryz.prog 139 := ⟨fun _ => by kernel_rfl, fun _ => by kernel_rfl⟩
instance : ZeT Tryz.prog 139 (.slice none 0 0) := ⟨fun _ => by kernel_rfl⟩
instance : ScT Tryz.prog 140 := ⟨fun _ => by kernel_rfl, fun _ => by kernel_rfl⟩
instance : FuT Tryz.prog 140 := ⟨fun _ => by kernel_rfl, fun _ _ _ _ => by kernel_rfl⟩
instance : ZeT Tryz.prog 140 (.nilFunc) := ⟨fun _ => by kernel_rfl⟩
instance : ScT Tryz.prog 141 := ⟨fun _ => by kernel_rfl, fun _ => by kernel_rfl⟩
instance : FuT Tryz.prog 141 := ⟨fun _ => by kernel_rfl, fun _ _ _ _ => by kernel_rfl⟩
instance : ZeT Tryz.prog 141 (.nilFunc) := ⟨fun _ => by kernel_rfl⟩
instance : ScT Tryz.prog 142 := ⟨fun _ => by kernel_rfl, fun _ => by kernel_rfl⟩
instance : FuT Tryz.prog 142 := ⟨fun _ => by kernel_rfl, fun _ _ _ _ => by kernel_rfl⟩
instance : ZeT Tryz.prog 142 (.nilFunc) := ⟨fun _ => by kernel_rfl⟩
instance : ScT Tryz.prog 143 := ⟨fun _ => by kernel_rfl, fun _ => by kernel_rfl⟩
instance : FuT Tryz.prog 143 := ⟨fun _ => by kernel_rfl, fun _ _ _ _ => by kernel_rfl⟩
instance : ZeT Tryz.prog 143 (.nilFunc) := ⟨fun _ => by kernel_rfl⟩
instance : ScT Tryz.prog 144 := ⟨fun _ => by kernel_rfl, fun _ => by kernel_rfl⟩
instance : FuT Tryz.prog 144 := ⟨fun _ => by kernel_rfl, fun _ _ _ _ => by kernel_rfl⟩
instance : ZeT Tryz.prog 144 (.nilFunc) := ⟨fun _ => by kernel_rfl⟩
instance : ScT Tryz.prog 145 := ⟨fun _ => by kernel_rfl, fun _ => by kernel_rfl⟩
instance : InT Tryz.prog 145 .i64 := ⟨by kernel_rfl⟩
instance : ZeT Tryz.prog 145 (.int .i64 0) := ⟨fun _ => by kernel_rfl⟩
instance : ScT Tryz.prog 147 := ⟨fun _ => by kernel_rfl, fun _ => by kernel_rfl⟩
instance : FuT Tryz.prog 147 := ⟨fun _ => by kernel_rfl, fun _ _ _ _ => by kernel_rfl⟩
instance : ZeT Tryz.prog 147 (.nilFunc) := ⟨fun _ => by kernel_rfl⟩
instance : ScT Tryz.prog 148 := ⟨fun _ => by kernel_rfl, fun _ => by kernel_rfl⟩
instance : FuT Tryz.prog 148 := ⟨fun _ => by kernel_rfl, fun _ _ _ _ => by kernel_rfl⟩
instance : ZeT Tryz.prog 148 (.nilFunc) := ⟨fun _ => by kernel_rfl⟩
instance : ScT Tryz.prog 149 := ⟨fun _ => by kernel_rfl, fun _ => by kernel_rfl⟩
instance : FuT Tryz.prog 149 := ⟨fun _ => by kernel_rfl, fun _ _ _ _ => by kernel_rfl⟩
instance : ZeT Tryz.prog 149 (.nilFunc) := ⟨fun _ => by kernel_rfl⟩
instance : ScT Tryz.prog 150 := ⟨fun _ => by kernel_rfl, fun _ => by kernel_rfl⟩
instance : FuT Tryz.prog 150 := ⟨fun _ => by kernel_rfl, fun _ _ _ _ => by kernel_rfl⟩
instance : ZeT Tryz.prog 150 (.nilFunc) := ⟨fun _ => by kernel_rfl⟩
instance : ScT Tryz.prog 151 := ⟨fun _ => by kernel_rfl, fun _ => by kernel_rfl⟩
instance : FuT Tryz.prog 151 := ⟨fun _ => by kernel_rfl, fun _ _ _ _ => by kernel_rfl⟩
instance : ZeT Tryz.prog 151 (.nilFunc) := ⟨fun _ => by kernel_rfl⟩
instance : ScT Tryz.prog 152 := ⟨fun _ => by kernel_rfl, fun _ => by kernel_rfl⟩
instance : InT Tryz.prog 152 .u32 := ⟨by kernel_rfl⟩
instance : ZeT Tryz.prog 152 (.int .u32 0) := ⟨fun _ => by kernel_rfl⟩
instance : ScT Tryz.prog 153 := ⟨fun _ => by kernel_rfl, fun _ => by kernel_rfl⟩
instance : FuT Tryz.prog 153 := ⟨fun _ => by kernel_rfl, fun _ _ _ _ => by kernel_rfl⟩
instance : ZeT Tryz.prog 153 (.nilFunc) := ⟨fun _ => by kernel_rfl⟩
instance : ScT Tryz.prog 154 := ⟨fun _ => by kernel_rfl, fun _ => by kernel_rfl⟩
instance : FuT Tryz.prog 154 := ⟨fun _ => by kernel_rfl, fun _ _ _ _ => by kernel_rfl⟩
instance : ZeT Tryz.prog 154 (.nilFunc) := ⟨fun _ => by kernel_rfl⟩
instance : ScT Tryz.prog 156 := ⟨fun _ => by kernel_rfl, fun _ => by kernel_rfl⟩
instance : FuT Tryz.prog 156 := ⟨fun _ => by kernel_rfl, fun _ _ _ _ => by kernel_rfl⟩
instance : ZeT Tryz.prog 156 (.nilFunc) := ⟨fun _ => by kernel_rfl⟩
theorem ti157 : (Tryz.prog.info? 4).map (fun i => (i.zero, i.size, i.bytes)) = some (some (.bool false), 1, 1) := by kernel_rfl
instance : SlT Tryz.prog 157 4 1 1 := ⟨by kernel_rfl, by obtain ⟨j, h1, h2, h3, h4⟩ := info_parts ti157; exact ⟨j, _, h1, h2, h3, h4, rfl⟩⟩
instance : ScT Tryz.prog 157 := ⟨fun _ => by kernel_rfl, fun _ => by kernel_rfl⟩
instance : ZeT Tryz.prog 157 (.slice none 0 0) := ⟨fun _ => by kernel_rfl⟩
instance : ScT Tryz.prog 158 := ⟨fun _ => by kernel_rfl, fun _ => by kernel_rfl⟩
instance : FuT Tryz.prog 158 := ⟨fun _ => by kernel_rfl, fun _ _ _ _ => by kernel_rfl⟩
instance : ZeT Tryz.prog 158 (.nilFunc) := ⟨fun _ => by kernel_rfl⟩
instance : ScT Tryz.prog 160 := ⟨fun _ => by kernel_rfl, fun _ => by kernel_rfl⟩
instance : FuT Tryz.prog 160 := ⟨fun _ => by kernel_rfl, fun _ _ _ _ => by kernel_rfl⟩
instance : ZeT Tryz.prog 160 (.nilFunc) := ⟨fun _ => by kernel_rfl⟩
instance : ScT Tryz.prog 161 := ⟨fun _ => by kernel_rfl, fun _ => by kernel_rfl⟩
instance : FuT Tryz.prog 161 := ⟨fun _ => by kernel_rfl, fun _ _ _ _ => by kernel_rfl⟩
instance : ZeT Tryz.prog 161 (.nilFunc) := ⟨fun _ => by kernel_rfl⟩
instance : ScT Tryz.prog 162 := ⟨fun _ => by kernel_rfl, fun _ => by kernel_rfl⟩
instance : FuT Tryz.prog 162 := ⟨fun _ => by kernel_rfl, fun _ _ _ _ => by kernel_rfl⟩
instance : ZeT Tryz.prog 162 (.nilFunc) := ⟨fun _ => by kernel_rfl⟩
instance : ScT Tryz.prog 163 := ⟨fun _ => by kernel_rfl, fun _ => by kernel_rfl⟩
instance : FuT Tryz.prog 163 := ⟨fun _ => by kernel_rfl, fun _ _ _ _ => by kernel_rfl⟩
instance : ZeT Tryz.prog 163 (.nilFunc) := ⟨fun _ => by kernel_rfl⟩
instance : ScT Tryz.prog 164 := ⟨fun _ => by kernel_rfl, fun _ => by kernel_rfl⟩
instance : FuT Tryz.prog 164 := ⟨fun _ => by kernel_rfl, fun _ _ _ _ => by kernel_rfl⟩
instance : ZeT Tryz.prog 164 (.nilFunc) := ⟨fun _ => by kernel_rfl⟩
instance : ScT Tryz.prog 165 := ⟨fun _ => by kernel_rfl, fun _ => by kernel_rfl⟩
instance : FuT Tryz.prog 165 := ⟨fun _ => by kernel_rfl, fun _ _ _ _ => by kernel_rfl⟩
instance : ZeT Tryz.prog 165 (.nilFunc) := ⟨fun _ => by kernel_rfl⟩
instance : ScT Tryz.prog 166 := ⟨fun _ => by kernel_rfl, fun _ => by kernel_rfl⟩
instance : FuT Tryz.prog 166 := ⟨fun _ => by kernel_rfl, fun _ _ _ _ => by kernel_rfl⟩
instance : ZeT Tryz.prog 166 (.nilFunc) := ⟨fun _ => by kernel_rfl⟩
instance : ScT Tryz.prog 167 := ⟨fun _ => by kernel_rfl, fun _ => by kernel_rfl⟩
instance : FuT Tryz.prog 167 := ⟨fun _ => by kernel_rfl, fun _ _ _ _ => by kernel_rfl⟩
instance : ZeT Tryz.prog 167 (.nilFunc) := ⟨fun _ => by kernel_rfl⟩
instance : ScT Tryz.prog 168 := ⟨fun _ => by kernel_rfl, fun _ => by kernel_rfl⟩
instance : FuT Tryz.prog 168 := ⟨fun _ => by kernel_rfl, fun _ _ _ _ => by kernel_rfl⟩
instance : ZeT Tryz.prog 168 (.nilFunc) := ⟨fun _ => by kernel_rfl⟩
instance : ScT Tryz.prog 169 := ⟨fun _ => by kernel_rfl, fun _ => by kernel_rfl⟩
instance : InT Tryz.prog 169 .u64 := ⟨by kernel_rfl⟩
instance : ZeT Tryz.prog 169 (.int .u64 0) := ⟨fun _ => by kernel_rfl⟩
instance : ScT Tryz.prog 170 := ⟨fun _ => by kernel_rfl, fun _ => by kernel_rfl⟩
instance : FuT Tryz.prog 170 := ⟨fun _ => by kernel_rfl, fun _ _ _ _ => by kernel_rfl⟩
instance : ZeT Tryz.prog 170 (.nilFunc) := ⟨fun _ => by kernel_rfl⟩
instance : ScT Tryz.prog 171 := ⟨fun _ => by kernel_rfl, fun _ => by kernel_rfl⟩
instance : FuT Tryz.prog 171 := ⟨fun _ => by kernel_rfl, fun _ _ _ _ => by kernel_rfl⟩
instance : ZeT Tryz.prog 171 (.nilFunc) := ⟨fun _ => by kernel_rfl⟩
instance : ScT Tryz.prog 172 := ⟨fun _ => by kernel_rfl, fun _ => by kernel_rfl⟩
instance : FuT Tryz.prog 172 := ⟨fun _ => by kernel_rfl, fun _ _ _ _ => by kernel_rfl⟩
instance : ZeT Tryz.prog 172 (.nilFunc) := ⟨fun _ => by kernel_rfl⟩
instance : ScT Tryz.prog 173 := ⟨fun _ => by kernel_rfl, fun _ => by kernel_rfl⟩
instance : PtT Tryz.prog 173 := ⟨by kernel_rfl⟩
instance : ZeT Tryz.prog 173 (.pointer none) := ⟨fun _ => by kernel_rfl⟩
instance : ScT Tryz.prog 174 := ⟨fun _ => by kernel_rfl, fun _ => by kernel_rfl⟩
instance : FuT Tryz.prog 174 := ⟨fun _ => by kernel_rfl, fun _ _ _ _ => by kernel_rfl⟩
instance : ZeT Tryz.prog 174 (.nilFunc) := ⟨fun _ => by kernel_rfl⟩
instance : ScT Tryz.prog 175 := ⟨fun _ => by kernel_rfl, fun _ => by kernel_rfl⟩
instance : FuT Tryz.prog 175 := ⟨fun _ => by kernel_rfl, fun _ _ _ _ => by kernel_rfl⟩
instance : ZeT Tryz.prog 175 (.nilFunc) := ⟨fun _ => by kernel_rfl⟩
instance : ScT Tryz.prog 176 := ⟨fun _ => by kernel_rfl, fun _ => by kernel_rfl⟩
instance : FuT Tryz.prog 176 := ⟨fun _ => by kernel_rfl, fun _ _ _ _ => by kernel_rfl⟩
instance : ZeT Tryz.prog 176 (.nilFunc) := ⟨fun _ => by kernel_rfl⟩
instance : ScT Tryz.prog 177 := ⟨fun _ => by kernel_rfl, fun _ => by kernel_rfl⟩
instance : FuT Tryz.prog 177 := ⟨fun _ => by kernel_rfl, fun _ _ _ _ => by kernel_rfl⟩
instance : ZeT Tryz.prog 177 (.nilFunc) := ⟨fun _ => by kernel_rfl⟩
instance : ScT Tryz.prog 178 := ⟨fun _ => by kernel_rfl, fun _ => by kernel_rfl⟩
instance : FuT Tryz.prog 178 := ⟨fun _ => by kernel_rfl, fun _ _ _ _ => by kernel_rfl⟩
instance : ZeT Tryz.prog 178 (.nilFunc) := ⟨fun _ => by kernel_rfl⟩
instance : ScT Tryz.prog 179 := ⟨fun _ => by kernel_rfl, fun _ => by kernel_rfl⟩
instance : PtT Tryz.prog 179 := ⟨by kernel_rfl⟩
instance : ZeT Tryz.prog 179 (.pointer none) := ⟨fun _ => by kernel_rfl⟩
instance : AgT Tryz.prog 180 3 := ⟨fun _ => by kernel_rfl, fun _ => by kernel_rfl⟩
instance : FdT Tryz.prog 180 0 0 := ⟨fun _ _ => by kernel_rfl⟩
instance : FdT Tryz.prog 180 1 1 := ⟨fun _ _ => by kernel_rfl⟩
instance : FdT Tryz.prog 180 2 2 := ⟨fun _ _ => by kernel_rfl⟩
instance : ZeT Tryz.prog 180 (.agg #[.slice none 0 0, .int .i64 0, .bool false]) := ⟨fun _ => by kernel_rfl⟩
instance : AgT Tryz.prog 181 3 := ⟨fun _ => by kernel_rfl, fun _ => by kernel_rfl⟩
instance : FdT Tryz.prog 181 0 0 := ⟨fun _ _ => by kernel_rfl⟩
instance : FdT Tryz.prog 181 1 1 := ⟨fun _ _ => by kernel_rfl⟩
instance : FdT Tryz.prog 181 2 2 := ⟨fun _ _ => by kernel_rfl⟩
instance : ZeT Tryz.prog 181 (.agg #[.slice none 0 0, .int .i64 0, .bool false]) := ⟨fun _ => by kernel_rfl⟩
instance : ScT Tryz.prog 182 := ⟨fun _ => by kernel_rfl, fun _ => by kernel_rfl⟩
instance : FuT Tryz.prog 182 := ⟨fun _ => by kernel_rfl, fun _ _ _ _ => by kernel_rfl⟩
instance : ZeT Tryz.prog 182 (.nilFunc) := ⟨fun _ => by kernel_rfl⟩
instance : ScT Tryz.prog 183 := ⟨fun _ => by kernel_rfl, fun _ => by kernel_rfl⟩
instance : FuT Tryz.prog 183 := ⟨fun _ => by kernel_rfl, fun _ _ _ _ => by kernel_rfl⟩
instance : ZeT Tryz.prog 183 (.nilFunc) := ⟨fun _ => by kernel_rfl⟩
instance : ScT Tryz.prog 184 := ⟨fun _ => by kernel_rfl, fun _ => by kernel_rfl⟩
instance : PtT Tryz.prog 184 := ⟨by kernel_rfl⟩
instance : ZeT Tryz.prog 184 (.pointer none) := ⟨fun _ => by kernel_rfl⟩
instance : ScT Tryz.prog 186 := ⟨fun _ => by kernel_rfl, fun _ => by kernel_rfl⟩
instance : FuT Tryz.prog 186 := ⟨fun _ => by kernel_rfl, fun _ _ _ _ => by kernel_rfl⟩
instance : ZeT Tryz.prog 186 (.nilFunc) := ⟨fun _ => by kernel_rfl⟩
instance : ScT Tryz.prog 187 := ⟨fun _ => by kernel_rfl, fun _ => by kernel_rfl⟩
instance : FuT Tryz.prog 187 := ⟨fun _ => by kernel_rfl, fun _ _ _ _ => by kernel_rfl⟩
instance : ZeT Tryz.prog 187 (.nilFunc) := ⟨fun _ => by kernel_rfl⟩
instance : ScT Tryz.prog 188 := ⟨fun _ => by kernel_rfl, fun _ => by kernel_rfl⟩
instance : FuT Tryz.prog 188 := ⟨fun _ => by kernel_rfl, fun _ _ _ _ => by kernel_rfl⟩
instance : ZeT Tryz.prog 188 (.nilFunc) := ⟨fun _ => by kernel_rfl⟩
instance : AgT Tryz.prog 189 4 := ⟨fun _ => by kernel_rfl, fun _ => by kernel_rfl⟩
instance : FdT Tryz.prog 189 0 0 := ⟨fun _ _ => by kernel_rfl⟩
instance : FdT Tryz.prog 189 1 1 := ⟨fun _ _ => by kernel_rfl⟩
instance : FdT Tryz.prog 189 2 2 := ⟨fun _ _ => by kernel_rfl⟩
instance : FdT Tryz.prog 189 3 3 := ⟨fun _ _ => by kernel_rfl⟩
instance : ZeT Tryz.prog 189 (.agg #[.pointer none, .pointer none, .pointer none, .string ⟨#[]⟩]) := ⟨fun _ => by kernel_rfl⟩
instance : AgT Tryz.prog 190 4 := ⟨fun _ => by kernel_rfl, fun _ => by kernel_rfl⟩
instance : FdT Tryz.prog 190 0 0 := ⟨fun _ _ => by kernel_rfl⟩
instance : FdT Tryz.prog 190 1 1 := ⟨fun _ _ => by kernel_rfl⟩
instance : FdT Tryz.prog 190 2 2 := ⟨fun _ _ => by kernel_rfl⟩
instance : FdT Tryz.prog 190 3 3 := ⟨fun _ _ => by kernel_rfl⟩
instance : ZeT Tryz.prog 190 (.agg #[.pointer none, .pointer none, .pointer none, .string ⟨#[]⟩]) := ⟨fun _ => by kernel_rfl⟩
instance : AgT Tryz.prog 191 0 := ⟨fun _ => by kernel_rfl, fun _ => by kernel_rfl⟩
instance : ZeT Tryz.prog 191 (.agg #[]) := ⟨fun _ => by kernel_rfl⟩
instance : AgT Tryz.prog 192 0 := ⟨fun _ => by kernel_rfl, fun _ => by kernel_rfl⟩
instance : ZeT Tryz.prog 192 (.agg #[]) := ⟨fun _ => by kernel_rfl⟩
instance : AgT Tryz.prog 193 0 := ⟨fun _ => by kernel_rfl, fun _ => by kernel_rfl⟩
instance : ZeT Tryz.prog 193 (.agg #[]) := ⟨fun _ => by kernel_rfl⟩
instance : ScT Tryz.prog 194 := ⟨fun _ => by kernel_rfl, fun _ => by kernel_rfl⟩
instance : FuT Tryz.prog 194 := ⟨fun _ => by kernel_rfl, fun _ _ _ _ => by kernel_rfl⟩
instance : ZeT Tryz.prog 194 (.nilFunc) := ⟨fun _ => by kernel_rfl⟩
instance : ScT Tryz.prog 195 := ⟨fun _ => by kernel_rfl, fun _ => by kernel_rfl⟩
instance : InT Tryz.prog 195 .u8 := ⟨by kernel_rfl⟩
instance : ZeT Tryz.prog 195 (.int .u8 0) := ⟨fun _ => by kernel_rfl⟩
instance : ScT Tryz.prog 196 := ⟨fun _ => by kernel_rfl, fun _ => by kernel_rfl⟩
instance : InT Tryz.prog 196 .u8 := ⟨by kernel_rfl⟩
instance : ZeT Tryz.prog 196 (.int .u8 0) := ⟨fun _ => by kernel_rfl⟩
instance : ScT Tryz.prog 197 := ⟨fun _ => by kernel_rfl, fun _ => by kernel_rfl⟩
instance : FuT Tryz.prog 197 := ⟨fun _ => by kernel_rfl, fun _ _ _ _ => by kernel_rfl⟩
instance : ZeT Tryz.prog 197 (.nilFunc) := ⟨fun _ => by kernel_rfl⟩
instance : ScT Tryz.prog 198 := ⟨fun _ => by kernel_rfl, fun _ => by kernel_rfl⟩
instance : PtT Tryz.prog 198 := ⟨by kernel_rfl⟩
instance : ZeT Tryz.prog 198 (.pointer none) := ⟨fun _ => by kernel_rfl⟩
instance : ScT Tryz.prog 199 := ⟨fun _ => by kernel_rfl, fun _ => by kernel_rfl⟩
instance : InT Tryz.prog 199 .i32 := ⟨by kernel_rfl⟩
instance : ZeT Tryz.prog 199 (.int .i32 0) := ⟨fun _ => by kernel_rfl⟩
instance : ScT Tryz.prog 200 := ⟨fun _ => by kernel_rfl, fun _ => by kernel_rfl⟩
instance : InT Tryz.prog 200 .i32 := ⟨by kernel_rfl⟩
instance : ZeT Tryz.prog 200 (.int .i32 0) := ⟨fun _ => by kernel_rfl⟩
instance : AgT Tryz.prog 201 11 := ⟨fun _ => by kernel_rfl, fun _ => by kernel_rfl⟩
instance : FdT Tryz.prog 201 0 0 := ⟨fun _ _ => by kernel_rfl⟩
instance : FdT Tryz.prog 201 1 1 := ⟨fun _ _ => by kernel_rfl⟩
instance : FdT Tryz.prog 201 2 2 := ⟨fun _ _ => by kernel_rfl⟩
instance : FdT Tryz.prog 201 3 3 := ⟨fun _ _ => by kernel_rfl⟩
instance : FdT Tryz.prog 201 4 4 := ⟨fun _ _ => by kernel_rfl⟩
instance : FdT Tryz.prog 201 5 5 := ⟨fun _ _ => by kernel_rfl⟩
instance : FdT Tryz.prog 201 6 6 := ⟨fun _ _ => by kernel_rfl⟩
instance : FdT Tryz.prog 201 7 7 := ⟨fun _ _ => by kernel_rfl⟩
instance : FdT Tryz.prog 201 8 8 := ⟨fun _ _ => by kernel_rfl⟩
instance : FdT Tryz.prog 201 9 9 := ⟨fun _ _ => by kernel_rfl⟩
instance : FdT Tryz.prog 201 10 10 := ⟨fun _ _ => by kernel_rfl⟩
instance : ZeT Tryz.prog 201 (.agg #[.int .u64 0, .int .u64 0, .int .u32 0, .int .u8 0, .int .u8 0, .int .u8 0, .int .u8 0, .nilFunc, .pointer none, .int .i32 0, .int .i32 0]) := ⟨fun _ => by kernel_rfl⟩
instance : AgT Tryz.prog 202 11 := ⟨fun _ => by kernel_rfl, fun _ => by kernel_rfl⟩
instance : FdT Tryz.prog 202 0 0 := ⟨fun _ _ => by kernel_rfl⟩
instance : FdT Tryz.prog 202 1 1 := ⟨fun _ _ => by kernel_rfl⟩
instance : FdT Tryz.prog 202 2 2 := ⟨fun _ _ => by kernel_rfl⟩
instance : FdT Tryz.prog 202 3 3 := ⟨fun _ _ => by kernel_rfl⟩
instance : FdT Tryz.prog 202 4 4 := ⟨fun _ _ => by kernel_rfl⟩
instance : FdT Tryz.prog 202 5 5 := ⟨fun _ _ => by kernel_rfl⟩
instance : FdT Tryz.prog 202 6 6 := ⟨fun _ _ => by kernel_rfl⟩
instance : FdT Tryz.prog 202 7 7 := ⟨fun _ _ => by kernel_rfl⟩
instance : FdT Tryz.prog 202 8 8 := ⟨fun _ _ => by kernel_rfl⟩
instance : FdT Tryz.prog 202 9 9 := ⟨fun _ _ => by kernel_rfl⟩
instance : FdT Tryz.prog 202 10 10 := ⟨fun _ _ => by kernel_rfl⟩
instance : ZeT Tryz.prog 202 (.agg #[.int .u64 0, .int .u64 0, .int .u32 0, .int .u8 0, .int .u8 0, .int .u8 0, .int .u8 0, .nilFunc, .pointer none, .int .i32 0, .int .i32 0]) := ⟨fun _ => by kernel_rfl⟩
instance : ScT Tryz.prog 203 := ⟨fun _ => by kernel_rfl, fun _ => by kernel_rfl⟩
instance : ZeT Tryz.prog 203 (.pointer none) := ⟨fun _ => by kernel_rfl⟩
instance : FnT Tryz.prog 2 := ⟨fun _ _ => by kernel_rfl⟩
instance : FnT Tryz.prog 3 := ⟨fun _ _ => by kernel_rfl⟩
instance : FnT Tryz.prog 4 := ⟨fun _ _ => by kernel_rfl⟩
instance : FnT Tryz.prog 5 := ⟨fun _ _ => by kernel_rfl⟩
instance : FnT Tryz.prog 6 := ⟨fun _ _ => by kernel_rfl⟩
instance : FnT Tryz.prog 7 := ⟨fun _ _ => by kernel_rfl⟩
instance : FnT Tryz.prog 8 := ⟨fun _ _ => by kernel_rfl⟩
instance : FnT Tryz.prog 9 := ⟨fun _ _ => by kernel_rfl⟩
instance : FnT Tryz.prog 10 := ⟨fun _ _ => by kernel_rfl⟩
instance : FnT Tryz.prog 11 := ⟨fun _ _ => by kernel_rfl⟩
instance : FnT Tryz.prog 12 := ⟨fun _ _ => by kernel_rfl⟩
instance : FnT Tryz.prog 13 := ⟨fun _ _ => by kernel_rfl⟩
instance : FnT Tryz.prog 14 := ⟨fun _ _ => by kernel_rfl⟩
instance : FnT Tryz.prog 15 := ⟨fun _ _ => by kernel_rfl⟩
instance : FnT Tryz.prog 16 := ⟨fun _ _ => by kernel_rfl⟩
instance : FnT Tryz.prog 17 := ⟨fun _ _ => by kernel_rfl⟩
instance : FnT Tryz.prog 18 := ⟨fun _ _ => by kernel_rfl⟩
instance : FnT Tryz.prog 19 := ⟨fun _ _ => by kernel_rfl⟩
instance : FnT Tryz.prog 20 := ⟨fun _ _ => by kernel_rfl⟩
instance : FnT Tryz.prog 21 := ⟨fun _ _ => by kernel_rfl⟩
instance : FnT Tryz.prog 22 := ⟨fun _ _ => by kernel_rfl⟩
instance : FnT Tryz.prog 23 := ⟨fun _ _ => by kernel_rfl⟩
instance : FnT Tryz.prog 24 := ⟨fun _ _ => by kernel_rfl⟩
instance : FnT Tryz.prog 25 := ⟨fun _ _ => by kernel_rfl⟩
instance : FnT Tryz.prog 26 := ⟨fun _ _ => by kernel_rfl⟩
instance : FnT Tryz.prog 27 := ⟨fun _ _ => by kernel_rfl⟩
instance : FnT Tryz.prog 28 := ⟨fun _ _ => by kernel_rfl⟩
instance : FnT Tryz.prog 29 := ⟨fun _ _ => by kernel_rfl⟩
instance : FnT Tryz.prog 30 := ⟨fun _ _ => by kernel_rfl⟩
instance : FnT Tryz.prog 31 := ⟨fun _ _ => by kernel_rfl⟩
instance : FnT Tryz.prog 32 := ⟨fun _ _ => by kernel_rfl⟩
instance : FnT Tryz.prog 33 := ⟨fun _ _ => by kernel_rfl⟩
instance : FnT Tryz.prog 34 := ⟨fun _ _ => by kernel_rfl⟩
instance : FnT Tryz.prog 35 := ⟨fun _ _ => by kernel_rfl⟩
instance : FnT Tryz.prog 36 := ⟨fun _ _ => by kernel_rfl⟩
instance : FnT Tryz.prog 37 := ⟨fun _ _ => by kernel_rfl⟩
instance : FnT Tryz.prog 38 := ⟨fun _ _ => by kernel_rfl⟩
instance : FnT Tryz.prog 39 := ⟨fun _ _ => by kernel_rfl⟩
instance : FnT Tryz.prog 40 := ⟨fun _ _ => by kernel_rfl⟩
instance : FnT Tryz.prog 41 := ⟨fun _ _ => by kernel_rfl⟩
instance : FnT Tryz.prog 42 := ⟨fun _ _ => by kernel_rfl⟩
instance : FnT Tryz.prog 43 := ⟨fun _ _ => by kernel_rfl⟩
instance : FnT Tryz.prog 44 := ⟨fun _ _ => by kernel_rfl⟩
instance : FnT Tryz.prog 45 := ⟨fun _ _ => by kernel_rfl⟩
instance : FnT Tryz.prog 46 := ⟨fun _ _ => by kernel_rfl⟩
instance : FnT Tryz.prog 47 := ⟨fun _ _ => by kernel_rfl⟩
instance : FnT Tryz.prog 48 := ⟨fun _ _ => by kernel_rfl⟩
instance : FnT Tryz.prog 49 := ⟨fun _ _ => by kernel_rfl⟩
instance : FnT Tryz.prog 50 := ⟨fun _ _ => by kernel_rfl⟩
instance : FnT Tryz.prog 51 := ⟨fun _ _ => by kernel_rfl⟩
instance : FnT Tryz.prog 52 := ⟨fun _ _ => by kernel_rfl⟩
instance : FnT Tryz.prog 53 := ⟨fun _ _ => by kernel_rfl⟩
instance : FnT Tryz.prog 54 := ⟨fun _ _ => by kernel_rfl⟩
instance : FnT Tryz.prog 55 := ⟨fun _ _ => by kernel_rfl⟩
instance : FnT Tryz.prog 56 := ⟨fun _ _ => by kernel_rfl⟩
instance : FnT Tryz.prog 57 := ⟨fun _ _ => by kernel_rfl⟩
instance : FnT Tryz.prog 58 := ⟨fun _ _ => by kernel_rfl⟩
instance : FnT Tryz.prog 59 := ⟨fun _ _ => by kernel_rfl⟩
instance : FnT Tryz.prog 60 := ⟨fun _ _ => by kernel_rfl⟩
instance : FnT Tryz.prog 61 := ⟨fun _ _ => by kernel_rfl⟩
instance : FnT Tryz.prog 62 := ⟨fun _ _ => by kernel_rfl⟩
instance : FnT Tryz.prog 63 := ⟨fun _ _ => by kernel_rfl⟩
instance : FnT Tryz.prog 64 := ⟨fun _ _ => by kernel_rfl⟩
instance : FnT Tryz.prog 65 := ⟨fun _ _ => by kernel_rfl⟩
instance : FnT Tryz.prog 66 := ⟨fun _ _ => by kernel_rfl⟩
instance : FnT Tryz.prog 67 := ⟨fun _ _ => by kernel_rfl⟩
instance : FnT Tryz.prog 68 := ⟨fun _ _ => by kernel_rfl⟩
instance : FnT Tryz.prog 69 := ⟨fun _ _ => by kernel_rfl⟩
instance : FnT Tryz.prog 70 := ⟨fun _ _ => by kernel_rfl⟩
instance : FnT Tryz.prog 71 := ⟨fun _ _ => by kernel_rfl⟩
instance : FnT Tryz.prog 72 := ⟨fun _ _ => by kernel_rfl⟩
instance : FnT Tryz.prog 73 := ⟨fun _ _ => by kernel_rfl⟩
instance : FnT Tryz.prog 74 := ⟨fun _ _ => by kernel_rfl⟩
instance : FnT Tryz.prog 75 := ⟨fun _ _ => by kernel_rfl⟩
instance : FnT Tryz.prog 76 := ⟨fun _ _ => by kernel_rfl⟩
instance : FnT Tryz.prog 77 := ⟨fun _ _ => by kernel_rfl⟩
instance : FnT Tryz.prog 78 := ⟨fun _ _ => by kernel_rfl⟩
instance : FnT Tryz.prog 79 := ⟨fun _ _ => by kernel_rfl⟩
instance : FnT Tryz.prog 80 := ⟨fun _ _ => by kernel_rfl⟩
instance : FnT Tryz.prog 82 := ⟨fun _ _ => by kernel_rfl⟩
instance : FnT Tryz.prog 83 := ⟨fun _ _ => by kernel_rfl⟩
instance : FnT Tryz.prog 84 := ⟨fun _ _ => by kernel_rfl⟩
instance : FnT Tryz.prog 85 := ⟨fun _ _ => by kernel_rfl⟩
instance : FnT Tryz.prog 86 := ⟨fun _ _ => by kernel_rfl⟩
instance : FnT Tryz.prog 87 := ⟨fun _ _ => by kernel_rfl⟩
instance : FnT Tryz.prog 88 := ⟨fun _ _ => by kernel_rfl⟩
instance : FnT Tryz.prog 89 := ⟨fun _ _ => by kernel_rfl⟩
instance : FnT Tryz.prog 90 := ⟨fun _ _ => by kernel_rfl⟩
instance : FnT Tryz.prog 91 := ⟨fun _ _ => by kernel_rfl⟩
instance : FnT Tryz.prog 92 := ⟨fun _ _ => by kernel_rfl⟩
instance : FnT Tryz.prog 93 := ⟨fun _ _ => by kernel_rfl⟩
instance : FnT Tryz.prog 94 := ⟨fun _ _ => by kernel_rfl⟩
instance : FnT Tryz.prog 95 := ⟨fun _ _ => by kernel_rfl⟩
instance : FnT Tryz.prog 96 := ⟨fun _ _ => by kernel_rfl⟩
instance : FnT Tryz.prog 97 := ⟨fun _ _ => by kernel_rfl⟩
instance : FnT Tryz.prog 98 := ⟨fun _ _ => by kernel_rfl⟩
instance : FnT Tryz.prog 99 := ⟨fun _ _ => by kernel_rfl⟩
instance : FnT Tryz.prog 100 := ⟨fun _ _ => by kernel_rfl⟩
instance : FnT Tryz.prog 101 := ⟨fun _ _ => by kernel_rfl⟩
instance : FnT Tryz.prog 102 := ⟨fun _ _ => by kernel_rfl⟩
instance : FnT Tryz.prog 103 := ⟨fun _ _ => by kernel_rfl⟩
instance : FnT Tryz.prog 104 := ⟨fun _ _ => by kernel_rfl⟩
instance : FnT Tryz.prog 105 := ⟨fun _ _ => by kernel_rfl⟩
instance : FnT Tryz.prog 106 := ⟨fun _ _ => by kernel_rfl⟩
instance : FnT Tryz.prog 107 := ⟨fun _ _ => by kernel_rfl⟩
instance : FnT Tryz.prog 108 := ⟨fun _ _ => by kernel_rfl⟩
instance : FnT Tryz.prog 109 := ⟨fun _ _ => by kernel_rfl⟩
instance : FnT Tryz.prog 110 := ⟨fun _ _ => by kernel_rfl⟩
instance : FnT Tryz.prog 111 := ⟨fun _ _ => by kernel_rfl⟩
instance : FnT Tryz.prog 112 := ⟨fun _ _ => by kernel_rfl⟩
instance : FnT Tryz.prog 113 := ⟨fun _ _ => by kernel_rfl⟩
instance : FnT Tryz.prog 114 := ⟨fun _ _ => by kernel_rfl⟩
instance : FnT Tryz.prog 115 := ⟨fun _ _ => by kernel_rfl⟩
instance : FnT Tryz.prog 116 := ⟨fun _ _ => by kernel_rfl⟩
instance : FnT Tryz.prog 117 := ⟨fun _ _ => by kernel_rfl⟩
instance : FnT Tryz.prog 118 := ⟨fun _ _ => by kernel_rfl⟩
instance : FnT Tryz.prog 119 := ⟨fun _ _ => by kernel_rfl⟩
instance : FnT Tryz.prog 120 := ⟨fun _ _ => by kernel_rfl⟩
instance : FnT Tryz.prog 121 := ⟨fun _ _ => by kernel_rfl⟩
instance : FnT Tryz.prog 122 := ⟨fun _ _ => by kernel_rfl⟩
instance : FnT Tryz.prog 123 := ⟨fun _ _ => by kernel_rfl⟩
instance : FnT Tryz.prog 124 := ⟨fun _ _ => by kernel_rfl⟩
instance : FnT Tryz.prog 125 := ⟨fun _ _ => by kernel_rfl⟩
instance : FnT Tryz.prog 126 := ⟨fun _ _ => by kernel_rfl⟩
instance : FnT Tryz.prog 127 := ⟨fun _ _ => by kernel_rfl⟩
instance : FnT Tryz.prog 128 := ⟨fun _ _ => by kernel_rfl⟩
instance : FnT Tryz.prog 129 := ⟨fun _ _ => by kernel_rfl⟩
instance : FnT Tryz.prog 130 := ⟨fun _ _ => by kernel_rfl⟩
instance : FnT Tryz.prog 131 := ⟨fun _ _ => by kernel_rfl⟩
instance : FnT Tryz.prog 132 := ⟨fun _ _ => by kernel_rfl⟩
instance : FnT Tryz.prog 133 := ⟨fun _ _ => by kernel_rfl⟩
instance : FnT Tryz.prog 134 := ⟨fun _ _ => by kernel_rfl⟩
instance : FnT Tryz.prog 135 := ⟨fun _ _ => by kernel_rfl⟩
instance : FnT Tryz.prog 136 := ⟨fun _ _ => by kernel_rfl⟩
instance : FnT Tryz.prog 137 := ⟨fun _ _ => by kernel_rfl⟩
instance : FnT Tryz.prog 138 := ⟨fun _ _ => by kernel_rfl⟩
instance : FnT Tryz.prog 139 := ⟨fun _ _ => by kernel_rfl⟩
instance : FnT Tryz.prog 140 := ⟨fun _ _ => by kernel_rfl⟩
instance : FnT Tryz.prog 141 := ⟨fun _ _ => by kernel_rfl⟩
instance : FnT Tryz.prog 142 := ⟨fun _ _ => by kernel_rfl⟩
instance : FnT Tryz.prog 143 := ⟨fun _ _ => by kernel_rfl⟩
instance : FnT Tryz.prog 144 := ⟨fun _ _ => by kernel_rfl⟩
instance : FnT Tryz.prog 145 := ⟨fun _ _ => by kernel_rfl⟩
instance : FnT Tryz.prog 146 := ⟨fun _ _ => by kernel_rfl⟩
instance : FnT Tryz.prog 147 := ⟨fun _ _ => by kernel_rfl⟩
instance : FnT Tryz.prog 148 := ⟨fun _ _ => by kernel_rfl⟩
instance : FnT Tryz.prog 149 := ⟨fun _ _ => by kernel_rfl⟩
instance : FnT Tryz.prog 150 := ⟨fun _ _ => by kernel_rfl⟩
instance : FnT Tryz.prog 151 := ⟨fun _ _ => by kernel_rfl⟩
instance : FnT Tryz.prog 152 := ⟨fun _ _ => by kernel_rfl⟩
instance : FnT Tryz.prog 153 := ⟨fun _ _ => by kernel_rfl⟩
instance : FnT Tryz.prog 154 := ⟨fun _ _ => by kernel_rfl⟩
instance : FnT Tryz.prog 155 := ⟨fun _ _ => by kernel_rfl⟩
instance : FnT Tryz.prog 156 := ⟨fun _ _ => by kernel_rfl⟩
instance : FnT Tryz.prog 157 := ⟨fun _ _ => by kernel_rfl⟩
instance : FnT Tryz.prog 158 := ⟨fun _ _ => by kernel_rfl⟩
instance : FnT Tryz.prog 159 := ⟨fun _ _ => by kernel_rfl⟩
instance : FnT Tryz.prog 160 := ⟨fun _ _ => by kernel_rfl⟩
instance : FnT Tryz.prog 161 := ⟨fun _ _ => by kernel_rfl⟩
instance : FnT Tryz.prog 162 := ⟨fun _ _ => by kernel_rfl⟩
instance : FnT Tryz.prog 163 := ⟨fun _ _ => by kernel_rfl⟩
instance : FnT Tryz.prog 164 := ⟨fun _ _ => by kernel_rfl⟩
instance : FnT Tryz.prog 165 := ⟨fun _ _ => by kernel_rfl⟩
instance : FnT Tryz.prog 166 := ⟨fun _ _ => by kernel_rfl⟩
instance : FnT Tryz.prog 167 := ⟨fun _ _ => by kernel_rfl⟩
instance : FnT Tryz.prog 184 := ⟨fun _ _ => by kernel_rfl⟩
instance : FnT Tryz.prog 185 := ⟨fun _ _ => by kernel_rfl⟩
instance : FnT Tryz.prog 186 := ⟨fun _ _ => by kernel_rfl⟩
theorem mixed : Tryz.prog.follows .mixedOrders = true := by kernel_rfl
end Go.Sx
namespace Go.Sx
open Go

/-- What a call that returns is said to do. -/
def RetR (R : Value → World → Prop) : Ending → World → Prop := fun e w => ∃ v, e = .returned v ∧ R v w
/-- A contract: the function k, called so, returns, and R holds of its value and of the world behind it. -/
def Fn (P : Program) (k : FuncId) (args : Array Value) (w : World) (R : Value → World → Prop) : Prop := Calls P k args w (RetR R)
theorem Fn.mono {P : Program} {k : FuncId} {args : Array Value} {w : World} {R R' : Value → World → Prop} (h : Fn P k args w R) (hr : ∀ v w', R v w' → R' v w') : Fn P k args w R' :=
  Calls.mono h fun _ _ ⟨v, he, hR⟩ => ⟨v, he, hr _ _ hR⟩

def slots : Nat → List Value → List (Nat × Value)
  | _, [] => []
  | i, v :: vs => (i, v) :: slots (i + 1) vs
theorem look_slots : ∀ (vs : List Value) (i t : Nat) (v : Value), look (slots i vs) t = some v → i ≤ t ∧ vs[t - i]? = some v
  | [], i, t, v, h => by simp [slots, look] at h
  | u :: us, i, t, v, h => by
    simp only [slots, look] at h
    by_cases e : i = t
    · subst e; simp at h; subst h; simp
    · have hb : Nat.beq i t = false := by rw [← Bool.not_eq_true, Nat.beq_eq]; exact e
      rw [hb] at h
      obtain ⟨h1, h2⟩ := look_slots us (i + 1) t v h
      refine ⟨by omega, ?_⟩
      have : t - i = (t - (i + 1)) + 1 := by omega
      rw [this]; simpa using h2
theorem frok_start {n : Nat} (args : List Value) (hn : args.length ≤ n) : FrOk n dx0 (slots 0 args) { tmps := args.toArray ++ Array.replicate (n - args.toArray.size) undef, defers := [] } := by
  refine ⟨by simp; omega, rfl, fun t v ht => ?_⟩
  obtain ⟨_, h2⟩ := look_slots args 0 t v ht
  simp only [Nat.sub_zero] at h2
  have : t < args.length := (List.getElem?_eq_some_iff.1 h2).1
  simp [Array.getElem?_append, this]
  exact (List.getElem?_eq_some_iff.1 h2).2

theorem fn_enter {P : Program} {k : FuncId} {fn : Func} {c : Code} {args : List Value} {w : World} {R : Ending → World → Prop} {n : Nat}
    (hf : P.funcs[k]? = some fn) (hb : fn.body = some c) (hn : fn.ntmps = n) (hl : Nat.ble args.length n = true)
    (h : CJ P n dx0 c (bodyPost P fn R) (slots 0 args) w) : Calls P k args.toArray w R := by
  refine calls_of_wp hf hb ((wpIn_wide (n := 0)).1 ?_)
  subst hn
  exact h.out _ (frok_start args (by simpa using hl))

section
variable {P : Program} {fn : Func} {R : Value → World → Prop} {n : Nat} {l : List (Nat × Value)} {w : World}
theorem q_ret1 {t : Tmp} {v : Value} (hr : fn.results = #[.tmp t]) (hl : look l t = some v) (h : R v w) : QJ n dx0 (bodyPost P fn (RetR R)) .ret l w := .mk fun a ha =>
  ⟨ha.defers, v, by rw [results_tmp hr]; simp [Array.getD_eq_getD_getElem?, ha.has _ _ hl], v, rfl, h⟩
theorem q_ret2 {t u : Tmp} {v v' : Value} (hr : fn.results = #[.tmp t, .tmp u]) (hl : look l t = some v) (hl' : look l u = some v') (h : R (.tuple #[v, v']) w) : QJ n dx0 (bodyPost P fn (RetR R)) .ret l w := .mk fun a ha =>
  ⟨ha.defers, .tuple #[v, v'], by rw [results_tmp2 hr]; simp [Array.getD_eq_getD_getElem?, ha.has _ _ hl, ha.has _ _ hl'], _, rfl, h⟩
theorem q_ret0 (hr : fn.results = #[]) (h : R (.tuple #[]) w) : QJ n dx0 (bodyPost P fn (RetR R)) .ret l w := .mk fun a ha =>
  ⟨ha.defers, .tuple #[], by rw [results_none hr], _, rfl, h⟩
theorem q_end0 (hr : fn.results = #[]) (h : R (.tuple #[]) w) : QJ n dx0 (bodyPost P fn (RetR R)) .normal l w := .mk fun a ha =>
  ⟨ha.defers, .tuple #[], by rw [results_none hr], _, rfl, h⟩
end

/-! ### Regions that draw: the class 'all that was there when it began is there yet' -/
theorem c_dr {P : Program} {n : Nat} {ds : Dx} {Q : Exit → Act → World → Prop} {l : List (Nat × Value)} {w : World} {id : Nat} {lo : List Oper} (G : Nat → Prop) (π : It) (hm : P.follows .mixedOrders = true)
    (hc : (Region.noSelect lo.toArray && noDefer lo && (π.depth == lo.toArray.size) && π.level && chkOrder lo.toArray π true (Array.replicate lo.toArray.size false)) = true)
    (h : ∀ w1, Ex w w1 → w1.heap = w.heap → LJ (held (Ext G w)) P n ds lo.toArray (NoPan Q) (ordered lo.toArray π) l w1) : CJ P n ds (.region id lo.toArray true) Q l w :=
  c_draw (Ext G w) π hm hc (Ext.drew w) (h w.drew (Ext.drew w) rfl)

/-! ### Steps that act -/
section
variable {M : Mode} {P : Program} {n : Nat} {ds : Dx} {ops : Array Oper} {Q : Exit → Act → World → Prop} {b : Bool} {rest : Tr} {l : List (Nat × Value)} {w : World}
variable {op : Op} {ty : TypeId} {pos : String} {af : Array Edge} {g : Option (Nat × Bool)}

/-- It acts: a value, a new world. -/
theorem l_e {d : Nat} {v : Value} {w' : World} (hb : (M.any || !b) = true) (hg : gOk ops l g = true) (hd : Nat.blt d n = true)
    (he : ∀ ρ, Agr l ρ → (execOp ρ ⟨some d, op, ty, pos, af, g⟩).run P w = .ok (.value v) w') (hc : M.chk w')
    (h : LJ M P n ds ops Q rest ((d, v) :: l) w') : LJ M P n ds ops Q (.one b ⟨some d, op, ty, pos, af, g⟩ rest) l w := by
  refine .mk fun a ha => ?_
  unfold WL
  rw [if_pos (gOk_spec hg ha)]
  refine .inr ⟨by simpa using hb, ?_⟩
  exact op_of (he _ ha.agr) (fun _ _ e => by cases e) (fun _ _ e => by cases e) ⟨hc, h.out _ (ha.put v hd)⟩
/-- It acts: no value. -/
theorem l_u {w' : World} (hb : (M.any || !b) = true) (hg : gOk ops l g = true)
    (he : ∀ ρ, Agr l ρ → (execOp ρ ⟨none, op, ty, pos, af, g⟩).run P w = .ok .skip w') (hc : M.chk w')
    (h : LJ M P n ds ops Q rest l w') : LJ M P n ds ops Q (.one b ⟨none, op, ty, pos, af, g⟩ rest) l w := by
  refine .mk fun a ha => ?_
  unfold WL
  rw [if_pos (gOk_spec hg ha)]
  refine .inr ⟨by simpa using hb, ?_⟩
  exact op_of (he _ ha.agr) (fun _ _ e => by cases e) (fun _ _ e => by cases e) ⟨hc, h.out _ ha⟩
/-- The values of a list of operands. -/
def evs (l : List (Nat × Value)) : List Operand → Option (List Value)
  | [] => some []
  | x :: xs => match ev l x, evs l xs with
    | some v, some vs => some (v :: vs)
    | _, _ => none
theorem evs_map {ρ : Operand → Value} (hρ : Agr l ρ) : ∀ {xs : List Operand} {vs : List Value}, evs l xs = some vs → xs.map ρ = vs
  | [], vs, h => by simp [evs] at h; simp [h]
  | x :: xs, vs, h => by
    unfold evs at h
    split at h
    · rename_i v us h1 h2
      simp only [Option.some.injEq] at h
      subst h
      simp [hρ _ _ h1, evs_map hρ h2]
    · cases h
/-- A call of a function by its contract. -/
theorem l_call {d : Nat} {k : FuncId} {xs : List Operand} {ts : Array TypeId} {args : List Value} {R : Value → World → Prop} [hk : FnT P k] (hb : (M.any || !b) = true) (hg : gOk ops l g = true) (hd : Nat.blt d n = true)
    (ha : evs l xs = some args) (hf : Fn P k args.toArray w R) (h : ∀ v w', R v w' → M.chk w' ∧ LJ M P n ds ops Q rest ((d, v) :: l) w') :
    LJ M P n ds ops Q (.one b ⟨some d, .call { callee := .value (.func k), args := xs.toArray, argTypes := ts }, ty, pos, af, g⟩ rest) l w := by
  refine .mk fun a hfr => ?_
  unfold WL
  rw [if_pos (gOk_spec hg hfr)]
  refine .inr ⟨by simpa using hb, ?_⟩
  have hargs := evs_map hfr.agr ha
  have : (execOp a.eval ⟨some d, .call { callee := .value (.func k), args := xs.toArray, argTypes := ts }, ty, pos, af, g⟩).run P w = .ok (.enter k args.toArray) w := by
    simp [execOp, resolve, Act.eval, Deferred.ofValue, invoke, hargs, hk.run]
  refine op_enter this hf ?_
  rintro e w' ⟨v, rfl, hR⟩
  exact ⟨(h v w' hR).1, (h v w' hR).2.out _ (hfr.put v hd)⟩
end
end Go.Sx
namespace Go.Sx
open Go

/-! ### Blocks of one's own -/
/-- Block b is a row of cells of type T that hold vs; none is frozen. -/
def HB (w : World) (b : Nat) (T : TypeId) (vs : List Value) : Prop := w.heap[b]? = some (.cells vs.toArray T (0, 0))
theorem HB.lt {w : World} {b : Nat} {T : TypeId} {vs : List Value} (h : HB w b T vs) : b < w.heap.size := (Array.getElem?_eq_some_iff.1 h).1
theorem HB.ext {G : Nat → Prop} {w w' : World} {b : Nat} {T : TypeId} {vs : List Value} (h : HB w b T vs) (he : Ext G w w') (hn : ¬ G b) : HB w' b T vs := by
  unfold HB
  rw [he.block b h.lt hn]; exact h
theorem HB.ex {w w' : World} {b : Nat} {T : TypeId} {vs : List Value} (h : HB w b T vs) (he : Ex w w') : HB w' b T vs := h.ext he (fun h => h)
theorem HB.cell {w : World} {b : Nat} {T : TypeId} {vs : List Value} (h : HB w b T vs) (i : Nat) {v : Value} (hv : vs[i]? = some v) : w.cell? ((⟨b, 0, none⟩ : Addr).add i) = some v := by
  have : (⟨b, 0, none⟩ : Addr).add i = ⟨b, i, none⟩ := by unfold Addr.add; split <;> simp_all
  rw [this]
  unfold HB at h
  simp [World.cell?, h, hv]
theorem HB.cell0 {w : World} {b : Nat} {T : TypeId} {vs : List Value} (h : HB w b T vs) {v : Value} (hv : vs[0]? = some v) : w.cell? ⟨b, 0, none⟩ = some v := h.cell 0 hv
theorem HB.cells {w : World} {b : Nat} {T : TypeId} {vs : List Value} (h : HB w b T vs) : Cells w ⟨b, 0, none⟩ vs := fun i _ hi => h.cell i hi
/-- A world that differs only in its count of draws, or in nothing. -/
theorem HB.heap {w w' : World} {b : Nat} {T : TypeId} {vs : List Value} (h : HB w b T vs) (he : w'.heap = w.heap) : HB w' b T vs := by
  unfold HB; rw [he]; exact h

/-- A new block. -/
structure New (w w' : World) (b : Nat) (T : TypeId) (vs : List Value) : Prop where
  at_ : b = w.heap.size
  sz : w'.heap.size = w.heap.size + 1
  ex : Ex w w'
  hb : HB w' b T vs
theorem New.mk' (w : World) (T : TypeId) (vs : List Value) : New w (w.alloc (.cells vs.toArray T)) w.heap.size T vs :=
  ⟨rfl, by simp, Ext.alloc w _, heap_alloc_new w _⟩

/-- A slice of one's own, at the head of a row that holds as much as its capacity at least. -/
def Own (w : World) (B E sz : Nat) (a : Option Addr) (n c : Nat) (xs : List Value) : Prop :=
  xs.length = n * sz ∧ ((a = none ∧ n = 0 ∧ c = 0) ∨ ∃ g rest, a = some ⟨g, 0, none⟩ ∧ B ≤ g ∧ HB w g E (xs ++ rest) ∧ n ≤ c ∧ c ≤ maxLen ∧ c * sz ≤ xs.length + rest.length)
theorem Own.nil (w : World) (B E sz : Nat) : Own w B E sz none 0 0 [] := ⟨by simp, .inl ⟨rfl, rfl, rfl⟩⟩
theorem Own.len {w : World} {B E sz : Nat} {a : Option Addr} {n c : Nat} {xs : List Value} (h : Own w B E sz a n c xs) : xs.length = n * sz := h.1
/-- Own, opened: nil, or the row. -/
theorem Own.open {w : World} {B E sz : Nat} {a : Option Addr} {n c : Nat} {xs : List Value} (h : Own w B E sz a n c xs) :
    (a = none ∧ n = 0 ∧ c = 0 ∧ xs = []) ∨ ∃ g rest, a = some ⟨g, 0, none⟩ ∧ B ≤ g ∧ HB w g E (xs ++ rest) ∧ n ≤ c ∧ c ≤ maxLen ∧ c * sz ≤ xs.length + rest.length := by
  obtain ⟨hl, ⟨h1, h2, h3⟩ | h⟩ := h
  · subst h2
    exact .inl ⟨h1, rfl, h3, List.eq_nil_of_length_eq_zero (by simpa using hl)⟩
  · exact .inr h
theorem Own.mk' {w : World} {B E sz g n c : Nat} {xs rest : List Value} (hb : B ≤ g) (hg : HB w g E (xs ++ rest)) (hl : xs.length = n * sz) (h1 : n ≤ c) (h2 : c ≤ maxLen) (h3 : c * sz ≤ xs.length + rest.length) :
    Own w B E sz (some ⟨g, 0, none⟩) n c xs := ⟨hl, .inr ⟨g, rest, rfl, hb, hg, h1, h2, h3⟩⟩
theorem Own.mk {w : World} {B E sz g n c : Nat} {xs rest : List Value} (hb : B ≤ g) (hg : HB w g E (xs ++ rest)) (hl : xs.length = n * sz) (h1 : n ≤ c) (h2 : c ≤ maxLen) (h3 : xs.length + rest.length = c * sz) :
    Own w B E sz (some ⟨g, 0, none⟩) n c xs := Own.mk' hb hg hl h1 h2 (Nat.le_of_eq h3.symm)
theorem Own.of_row {w : World} {B E sz : Nat} {a : Option Addr} {n c : Nat} {xs : List Value} (h : w.ownsRow B E sz (.slice a n c) n xs) : Own w B E sz a n c xs := by
  obtain ⟨hl, h | ⟨g, cap, cur, hv, hb, hg, h1, h2, h3, h4⟩⟩ := h
  · obtain ⟨h1, h2⟩ := h
    simp only [Value.slice.injEq] at h1
    obtain ⟨rfl, h3, h4⟩ := h1
    exact ⟨hl, .inl ⟨rfl, h2, h4⟩⟩
  · simp only [Value.slice.injEq] at hv
    obtain ⟨rfl, _, rfl⟩ := hv
    refine ⟨hl, .inr ⟨g, cur.toList.drop (n * sz), rfl, hb, ?_, h1, h2, ?_⟩⟩
    · rw [← h4, List.take_append_drop]; exact hg
    · rw [hl]; simp [h3]; have := Nat.mul_le_mul_right sz h1; omega
/-- Of less capacity. -/
theorem Own.clip {w : World} {B E sz : Nat} {a : Option Addr} {n c c' : Nat} {xs : List Value} (h : Own w B E sz a n c xs) (h1 : n ≤ c') (h2 : c' ≤ c) : Own w B E sz a n c' xs := by
  obtain ⟨rfl, rfl, rfl, rfl⟩ | ⟨g, rest, rfl, hb, hg, g1, g2, g3⟩ := h.open
  · obtain rfl : c' = 0 := by omega
    exact Own.nil ..
  · exact Own.mk' hb hg h.len h1 (Nat.le_trans h2 g2) (Nat.le_trans (Nat.mul_le_mul_right _ h2) g3)
theorem Own.ext {G : Nat → Prop} {w w' : World} {B E sz : Nat} {a : Option Addr} {n c : Nat} {xs : List Value} (h : Own w B E sz a n c xs) (he : Ext G w w') (hn : ∀ ad, a = some ad → ¬ G ad.block) : Own w' B E sz a n c xs := by
  obtain ⟨rfl, rfl, rfl, rfl⟩ | ⟨g, rest, rfl, hb, hg, h1, h2, h3⟩ := h.open
  · exact Own.nil ..
  · exact Own.mk' hb (hg.ext he (hn _ rfl)) h.len h1 h2 h3
theorem Own.ex {w w' : World} {B E sz : Nat} {a : Option Addr} {n c : Nat} {xs : List Value} (h : Own w B E sz a n c xs) (he : Ex w w') : Own w' B E sz a n c xs := h.ext he (fun _ _ h => h)
theorem Own.ge {w : World} {B E sz : Nat} {ad : Addr} {n c : Nat} {xs : List Value} (h : Own w B E sz (some ad) n c xs) : B ≤ ad.block ∧ ad.block < w.heap.size := by
  obtain ⟨h, _⟩ | ⟨g, rest, h, hb, hg, _⟩ := h.open
  · cases h
  · cases h; exact ⟨hb, hg.lt⟩
theorem Own.mono {w : World} {B B' E sz : Nat} {a : Option Addr} {n c : Nat} {xs : List Value} (h : Own w B E sz a n c xs) (hB : B' ≤ B) : Own w B' E sz a n c xs := by
  obtain ⟨rfl, rfl, rfl, rfl⟩ | ⟨g, rest, rfl, hb, hg, h1, h2, h3⟩ := h.open
  · exact Own.nil ..
  · exact Own.mk' (Nat.le_trans hB hb) hg h.len h1 h2 h3
theorem Own.cells {w : World} {B E sz : Nat} {ad : Addr} {n c : Nat} {xs : List Value} (h : Own w B E sz (some ad) n c xs) : Cells w ad xs := by
  obtain ⟨h, _⟩ | ⟨g, rest, h, hb, hg, _⟩ := h.open
  · cases h
  · cases h; intro i v hi; exact hg.cells i v (by rw [List.getElem?_append_left (List.getElem?_eq_some_iff.1 hi).1]; exact hi)
theorem Own.le {w : World} {B E sz : Nat} {a : Option Addr} {n c : Nat} {xs : List Value} (h : Own w B E sz a n c xs) : n ≤ c ∧ c ≤ maxLen := by
  obtain ⟨rfl, rfl, rfl, rfl⟩ | ⟨g, rest, rfl, hb, hg, h1, h2, h3⟩ := h.open
  · exact ⟨Nat.le_refl _, Nat.zero_le _⟩
  · exact ⟨h1, h2⟩
/-- Bytes of one's own read as bytes. -/
theorem Own.by {w : World} {B E : Nat} {a : Option Addr} {n c : Nat} {bs : List UInt8} (h : Own w B E 1 a n c (bs.map bv)) : n = bs.length ∧ By w a c bs := by
  have hl := h.len
  simp only [List.length_map, Nat.mul_one] at hl
  refine ⟨hl.symm, ⟨by have := h.le; omega, h.le.2, ?_, ?_⟩⟩
  · rintro rfl
    obtain ⟨_, _, h, _⟩ | ⟨g, rest, h, _⟩ := h.open
    · exact h
    · cases h
  · rintro ad rfl; exact h.cells

/-! ### Steps -/
section
variable {M : Mode} {P : Program} {n : Nat} {ds : Dx} {ops : Array Oper} {Q : Exit → Act → World → Prop} {b : Bool} {rest : Tr} {l : List (Nat × Value)} {w : World}
variable {ty : TypeId} {pos : String} {af : Array Edge} {g : Option (Nat × Bool)}

theorem l_box {d : Nat} {T : TypeId} {x : Operand} {v : Value} (hb : (M.any || !b) = true) (hg : gOk ops l g = true) (hd : Nat.blt d n = true) (hx : ev l x = some v)
    (h : ∀ k w', New w w' k T v.cells.toList → M.chk w' ∧ LJ M P n ds ops Q rest ((d, .pointer (some ⟨k, 0, none⟩)) :: l) w') :
    LJ M P n ds ops Q (.one b ⟨some d, .box T x, ty, pos, af, g⟩ rest) l w := by
  have hN := New.mk' w T v.cells.toList
  obtain ⟨h1, h2⟩ := h _ _ hN
  refine l_e hb hg hd (v := .pointer (some ⟨w.heap.size, 0, none⟩)) (fun ρ hρ => ?_) h1 h2
  simp [execOp, hρ _ _ hx, Instr.box, newVar, newRow]
theorem l_alloc {d : Nat} {T : TypeId} {z : Value} [hz : ZeT P T z] (hb : (M.any || !b) = true) (hg : gOk ops l g = true) (hd : Nat.blt d n = true)
    (h : ∀ k w', New w w' k T z.cells.toList → M.chk w' ∧ LJ M P n ds ops Q rest ((d, .pointer (some ⟨k, 0, none⟩)) :: l) w') :
    LJ M P n ds ops Q (.one b ⟨some d, .alloc T, ty, pos, af, g⟩ rest) l w := by
  have hN := New.mk' w T z.cells.toList
  obtain ⟨h1, h2⟩ := h _ _ hN
  refine l_e hb hg hd (v := .pointer (some ⟨w.heap.size, 0, none⟩)) (fun ρ hρ => ?_) h1 h2
  simp [execOp, Instr.alloc, newVar, newRow, hz.run]

/-- What a store of cells into block k leaves. -/
theorem store_row (P : Program) (k o : Nat) (T : TypeId) (vs cs : List Value) (hg : HB w k T vs) (hl : o + cs.length ≤ vs.length) (h1 : ∀ v ∈ cs, v.oneCell' = true) :
    ∃ w', (storeCells ((⟨k, 0, none⟩ : Addr).add o) cs).run P w = .ok () w' ∧ HB w' k T (vs.take o ++ cs ++ vs.drop (o + cs.length)) ∧ Ext (fun i => i = k) w w' ∧ w'.heap.size = w.heap.size := by
  have ha : (⟨k, 0, none⟩ : Addr).add o = ⟨k, o, none⟩ := by unfold Addr.add; split <;> simp_all
  rw [ha]
  have := run_storeCells_at P k o T cs 0 vs.toArray w hg (by simpa using hl) h1
  simp only [Nat.add_zero] at this
  refine ⟨_, this, ?_, ⟨rfl, rfl, rfl, by simp [World.setRow], fun i hi hn => setRow_other w k i _ hn⟩, by simp [World.setRow]⟩
  exact setRow_heap w k _ _ T (0, 0) hg

/-- A store of one cell. -/
theorem l_store {T : TypeId} [hs : ScT P T] {p x : Operand} {k o : Nat} {U : TypeId} {vs : List Value} {v : Value} (hb : (M.any || !b) = true) (hg : gOk ops l g = true)
    (hp : ev l p = some (.pointer (some ((⟨k, 0, none⟩ : Addr).add o)))) (hx : ev l x = some v) (hB : HB w k U vs) (ho : o < vs.length) (hv : v.oneCell' = true)
    (h : ∀ w', HB w' k U (vs.set o v) → Ext (fun i => i = k) w w' → w'.heap.size = w.heap.size → M.chk w' ∧ LJ M P n ds ops Q rest l w') :
    LJ M P n ds ops Q (.one b ⟨none, .store T p x, ty, pos, af, g⟩ rest) l w := by
  obtain ⟨w', h1, h2, h3, h4⟩ := store_row P k o U vs [v] hB (by simp; omega) (by simpa using hv)
  have hset : vs.take o ++ [v] ++ vs.drop (o + [v].length) = vs.set o v := by
    rw [List.set_eq_take_append_cons_drop, if_pos ho]; simp
  rw [hset] at h2
  obtain ⟨h5, h6⟩ := h w' h2 h3 h4
  refine l_u hb hg (fun ρ hρ => ?_) h5 h6
  have hc : v.cells = #[v] := by cases v <;> first | rfl | simp [Value.oneCell'] at hv
  simp [execOp, hρ _ _ hp, hρ _ _ hx, Instr.storeAt, Instr.sureAddr, storeVar, hc, hs.size, h1]
/-- A store of a struct (of sz cells) into a block. -/
theorem l_storeA {T : TypeId} {sz : Nat} [hs : AgT P T sz] {p x : Operand} {k o : Nat} {U : TypeId} {vs : List Value} {cs : List Value} (hb : (M.any || !b) = true) (hg : gOk ops l g = true)
    (hp : ev l p = some (.pointer (some ((⟨k, 0, none⟩ : Addr).add o)))) (hx : ev l x = some (.agg cs.toArray)) (hB : HB w k U vs) (ho : o + sz ≤ vs.length) (hz : cs.length = sz) (hv : cs.all Value.oneCell' = true)
    (h : ∀ w', HB w' k U (vs.take o ++ cs ++ vs.drop (o + sz)) → Ext (fun i => i = k) w w' → w'.heap.size = w.heap.size → M.chk w' ∧ LJ M P n ds ops Q rest l w') :
    LJ M P n ds ops Q (.one b ⟨none, .store T p x, ty, pos, af, g⟩ rest) l w := by
  subst hz
  obtain ⟨w', h1, h2, h3, h4⟩ := store_row P k o U vs cs hB ho (List.all_eq_true.1 hv)
  obtain ⟨h5, h6⟩ := h w' h2 h3 h4
  refine l_u hb hg (fun ρ hρ => ?_) h5 h6
  simp [execOp, hρ _ _ hp, hρ _ _ hx, Instr.storeAt, Instr.sureAddr, storeVar, hs.size, Value.cells, h1]

/-- make([]T, 0, c). -/
theorem l_make0 {d : Nat} {T E : TypeId} {sz by' : Nat} [hT : SlT P T E sz by'] {x y : Operand} {kx ky : IntKind} {c : Nat} (hb : (M.any || !b) = true) (hg : gOk ops l g = true) (hd : Nat.blt d n = true)
    (hx : ev l x = some (.int kx 0)) (hy : ev l y = some (.int ky c)) (h1 : by' * c ≤ 281474976710656) (h2 : c ≤ maxLen)
    (h : ∀ a w', Own w' w.heap.size E sz (some a) 0 c [] → Ex w w' → M.chk w' ∧ LJ M P n ds ops Q rest ((d, .slice (some a) 0 c) :: l) w') :
    LJ M P n ds ops Q (.one b ⟨some d, .makeSlice T x y, ty, pos, af, g⟩ rest) l w := by
  obtain ⟨i, z, i1, i2, i3, i4, i5⟩ := hT.info
  obtain ⟨w', r1, r2, r3⟩ := run_make_own (P := P) w w.heap.size T E i z sz hT.und i1 i2 i3 kx ky c (by rw [i4]; exact h1) h2 (Nat.le_refl _)
  obtain ⟨h5, h6⟩ := h _ w' (Own.of_row r2) ((Ext.of_grown r3).mono (fun _ _ h => by cases h))
  refine l_e hb hg hd (fun ρ hρ => ?_) h5 h6
  simp [execOp, hρ _ _ hx, hρ _ _ hy, r1]
/-- make([]T, c). -/
theorem l_make {d : Nat} {T E : TypeId} {sz by' : Nat} [hT : SlT P T E sz by'] {z : Value} [hz : ZeT P E z] {x y : Operand} {kx ky : IntKind} {c : Nat} (hb : (M.any || !b) = true) (hg : gOk ops l g = true) (hd : Nat.blt d n = true)
    (hx : ev l x = some (.int kx c)) (hy : ev l y = some (.int ky c)) (h1 : by' * c ≤ 281474976710656) (h2 : c ≤ maxLen)
    (h : ∀ a w', Own w' w.heap.size E sz (some a) c c (madeCells z.cells (c * sz)).toList → Ex w w' → M.chk w' ∧ LJ M P n ds ops Q rest ((d, .slice (some a) c c) :: l) w') :
    LJ M P n ds ops Q (.one b ⟨some d, .makeSlice T x y, ty, pos, af, g⟩ rest) l w := by
  obtain ⟨i, z', i1, i2, i3, i4, i5⟩ := hT.info
  have hzz : z' = z := by
    have := hz.run w
    simp [zeroValue, typeInfo, i1, i2] at this
    exact this
  subst hzz
  obtain ⟨w', r1, r2, r3⟩ := run_make_full (P := P) w w.heap.size T E i z' sz hT.und i1 i2 i3 kx ky c (by rw [i4]; exact h1) h2 (Nat.le_refl _)
  obtain ⟨h5, h6⟩ := h _ w' (Own.of_row r2) ((Ext.of_grown r3).mono (fun _ _ h => by cases h))
  refine l_e hb hg hd (fun ρ hρ => ?_) h5 h6
  simp [execOp, hρ _ _ hx, hρ _ _ hy, r1]

/-- What is appended: from a on (nil: nothing). -/
def Src (w : World) (a : Option Addr) (cs : List Value) : Prop := (a = none → cs = []) ∧ ∀ ad, a = some ad → Cells w ad cs
theorem By.src {w : World} {a : Option Addr} {c : Nat} {xs : List UInt8} (h : By w a c xs) : Src w a (xs.map bv) :=
  ⟨fun e => by have := h.nil e; have := h.le; rw [List.eq_nil_of_length_eq_zero (by omega : xs.length = 0)]; rfl, fun ad e => h.cells ad e⟩
theorem HB.src {w : World} {k : Nat} {T : TypeId} {vs : List Value} (h : HB w k T vs) : Src w (some ⟨k, 0, none⟩) vs := ⟨fun e => (by cases e), fun ad e => (by cases e; exact h.cells)⟩
theorem app_run {P : Program} {w : World} {T E : TypeId} {sz by' : Nat} [hT : SlT P T E sz by'] {B : Nat} {a : Option Addr} {ad : Addr} {k c m c2 : Nat} {xs news : List Value} (ty : TypeId) (hsz : 0 < sz)
    (hown : Own w B E sz a k c xs) (hsrc : Cells w ad news) (hm : news.length = m * sz) (h1 : ∀ v ∈ news, v.oneCell' = true)
    (hby : (k + m) * by' ≤ 140737488355328) (hle : k + m ≤ maxLen) (hB : B ≤ w.heap.size) :
    ∃ a' c' w', (Builtin.append_ #[T, T] ty #[.slice a k c, .slice (some ad) m c2]).run P w = .ok (.slice a' (k + m) c') w' ∧ Own w' B E sz a' (k + m) c' (xs ++ news) ∧
      Ext (fun i => a.map (·.block) = some i) w w' ∧ ∀ ad', a' = some ad' → a.map (·.block) = some ad'.block ∨ w.heap.size ≤ ad'.block := by
  obtain ⟨i, z, i1, i2, i3, i4, i5⟩ := hT.info
  have shape : ∀ {v' : Value} {w' : World} {B' : Nat}, w'.ownsRow B' E sz v' (k + m) (xs ++ news) → ∃ a' c', v' = .slice a' (k + m) c' := by
    intro v' w' B' r2
    rcases r2.2 with ⟨h, h0⟩ | ⟨g, cap, cur, h, _⟩
    · rw [h0]; exact ⟨none, 0, h⟩
    · exact ⟨_, _, h⟩
  rcases hown.open with ⟨rfl, rfl, rfl, rfl⟩ | ⟨g, rest, rfl, hb, hg, h2, h3, h4⟩
  · obtain ⟨v', w', r1, r2, r3, r4⟩ := run_append_own (P := P) w w.heap.size T ty E i z sz by' hT.und i1 i2 i3 i4 i5 hsz (.slice none 0 0) 0 [] (World.ownsRow_nil w w.heap.size E sz) ad m c2 news hm hsrc h1 hle hby (Nat.le_refl _)
    obtain ⟨a', c', rfl⟩ := shape r2
    have r2 := Own.of_row r2
    refine ⟨a', c', w', r1, Own.mono r2 hB, (Ext.of_grown r3).mono (fun i _ h => by simp [Value.ownBlock] at h), fun ad' e => .inr ?_⟩
    subst e
    exact (Own.ge r2).1
  · by_cases hroom : k + m ≤ c
    · have hkl := hown.len
      have hle2 : (k + m) * sz ≤ c * sz := Nat.mul_le_mul_right _ hroom
      rw [Nat.add_mul] at hle2
      have hr := run_append_room (P := P) w T ty E i hT.und i1 g k c (xs ++ rest).toArray hg ad m c2 news (by rw [i3]; exact hm) hsrc h1 hroom (by rw [i3, List.size_toArray, List.length_append]; omega)
      rw [i3] at hr
      have e1 : (xs ++ rest).toArray.toList.take (k * sz) ++ news ++ (xs ++ rest).toArray.toList.drop (k * sz + news.length) = (xs ++ news) ++ rest.drop news.length := by
        have q1 : (xs ++ rest).take (k * sz) = xs := by rw [← hkl]; exact List.take_left
        have q2 : (xs ++ rest).drop (k * sz + news.length) = rest.drop news.length := by rw [← hkl, ← List.drop_drop, List.drop_left]
        show (xs ++ rest).take (k * sz) ++ news ++ (xs ++ rest).drop (k * sz + news.length) = _
        rw [q1, q2]
      rw [e1] at hr
      have hB' : HB (w.setRow g ((xs ++ news) ++ rest.drop news.length).toArray) g E ((xs ++ news) ++ rest.drop news.length) := setRow_heap w g _ _ E (0, 0) hg
      refine ⟨_, _, _, hr, Own.mk' hb hB' (by rw [List.length_append, hkl, hm, Nat.add_mul]) hroom h3 (by rw [List.length_append, List.length_drop]; omega), ⟨rfl, rfl, rfl, by simp [World.setRow], fun i _ hn => setRow_other w g i _ (fun e => hn (by rw [e]; rfl))⟩, fun ad' e => .inl (by cases e; rfl)⟩
    · have hge : k + m ≤ grownCap w (k + m) c E := grownCap_ge w (k + m) c E
      have hcm : grownCap w (k + m) c E ≤ maxLen := grownCap_le_maxLen w (k + m) c E hle
      have hr := run_append_grow (P := P) w T ty E i z hT.und i1 i2 ⟨g, 0, none⟩ k c xs (by rw [i3]; exact hown.len) hown.cells ad m c2 news (by rw [i3]; exact hm) hsrc (by omega) (by simp only [maxLen] at hle; omega)
        (by rw [i4]; exact growslice_fits (by omega) hby)
      refine ⟨_, _, _, hr, ?_, (Ext.drew w).trans (Ext.alloc _ _), fun ad' e => .inr (by cases e; exact Nat.le_refl _)⟩
      refine Own.mk (rest := (Builtin.zeroCells z.cells (grownCap w (k + m) c E - (k + m))).toList) hB ?_ (by simp [hown.len, hm, Nat.add_mul]) hge hcm ?_
      · have := heap_alloc_new w.drew (.cells (xs.toArray ++ news.toArray ++ Builtin.zeroCells z.cells (grownCap w (k + m) c E - (k + m))) E)
        refine this.trans ?_
        simp
      · simp only [List.length_append, Array.length_toList, size_zeroCells, i5, hown.len, hm, ← Nat.add_mul]
        congr 1
        omega
/-- append(s, x...). -/
theorem l_app {d : Nat} {T E : TypeId} {sz by' : Nat} [hT : SlT P T E sz by'] {s x : Operand} {B : Nat} {a a2 : Option Addr} {k c m c2 : Nat} {xs news : List Value} (hsz : 0 < sz) (hb : (M.any || !b) = true) (hg : gOk ops l g = true) (hd : Nat.blt d n = true)
    (hs : ev l s = some (.slice a k c)) (hx : ev l x = some (.slice a2 m c2)) (hown : Own w B E sz a k c xs) (hsrc : Src w a2 news) (hnil : a2 = none → c2 = 0) (hm : news.length = m * sz) (h1 : ∀ v ∈ news, v.oneCell' = true)
    (hby : (k + m) * by' ≤ 140737488355328) (hle : k + m ≤ maxLen) (hB : B ≤ w.heap.size)
    (h : ∀ a' c' w', Own w' B E sz a' (k + m) c' (xs ++ news) → Ext (fun i => a.map (·.block) = some i) w w' → (∀ ad', a' = some ad' → a.map (·.block) = some ad'.block ∨ w.heap.size ≤ ad'.block) →
      M.chk w' ∧ LJ M P n ds ops Q rest ((d, .slice a' (k + m) c') :: l) w') :
    LJ M P n ds ops Q (.one b ⟨some d, .call { callee := .builtin .append, args := #[s, x], argTypes := #[T, T] }, ty, pos, af, g⟩ rest) l w := by
  obtain ⟨i, z, i1, i2, i3, i4, i5⟩ := hT.info
  cases a2 with
  | none =>
    have hnews := hsrc.1 rfl
    subst hnews
    have hm0 : m = 0 := by
      simp only [List.length_nil] at hm
      rcases Nat.eq_zero_or_pos m with h | h
      · exact h
      · have := Nat.mul_pos h hsz; omega
    have hc0 := hnil rfl
    subst hm0
    subst hc0
    have hr : (Builtin.append_ #[T, T] ty #[.slice a k c, .slice none 0 0]).run P w = .ok (.slice a k c) w := by
      have hkc := hown.le.1
      rcases hown.open with ⟨rfl, rfl, rfl, rfl⟩ | ⟨g, rest, rfl, _⟩
      · simp [Builtin.append_, run_underlying hT.und, sizeOf, typeInfo, i1, Builtin.lenOf, Builtin.firstCells]
      · simp [Builtin.append_, run_underlying hT.und, sizeOf, typeInfo, i1, Builtin.lenOf, Builtin.firstCells, hkc, storeCells]
    obtain ⟨h5, h6⟩ := h a c w (by simpa using hown) (Ext.refl w) (fun ad e => .inl (by rw [e]; rfl))
    refine l_e hb hg hd (fun ρ hρ => ?_) h5 h6
    simp [execOp, resolve, invoke, builtin, hρ _ _ hs, hρ _ _ hx, hr]
  | some ad =>
    obtain ⟨a', c', w', r1, r2, r3, r4⟩ := app_run (P := P) (T := T) (c2 := c2) ty hsz hown (hsrc.2 ad rfl) hm h1 hby hle hB
    obtain ⟨h5, h6⟩ := h a' c' w' r2 r3 r4
    refine l_e hb hg hd (fun ρ hρ => ?_) h5 h6
    simp [execOp, resolve, invoke, builtin, hρ _ _ hs, hρ _ _ hx, r1]
end
end Go.Sx
namespace Go.Sx
open Go

abbrev Bs := List UInt8

/-! ### Keys -/
def common : Bs → Bs → Nat
  | a :: x, b :: y => if a = b then common x y + 1 else 0
  | _, _ => 0
theorem common_le : ∀ (x y : Bs), common x y ≤ x.length ∧ common x y ≤ y.length
  | [], _ => by simp [common]
  | _ :: _, [] => by simp [common]
  | a :: x, b :: y => by
    have := common_le x y
    simp only [common]
    split <;> simp <;> omega
/-- Where two lists agree up to k, and k is the end of one or they part there. -/
theorem common_eq : ∀ (x y : Bs) (k : Nat), k ≤ x.length → k ≤ y.length → (∀ i, i < k → x.getD i 0 = y.getD i 0) →
    (k = x.length ∨ k = y.length ∨ x.getD k 0 ≠ y.getD k 0) → common x y = k
  | [], y, k, h1, _, _, _ => by simp at h1; simp [common, h1]
  | _ :: _, [], k, _, h2, _, _ => by simp at h2; simp [common, h2]
  | a :: x, b :: y, 0, _, _, _, h4 => by
    simp at h4
    simp [common, h4]
  | a :: x, b :: y, k + 1, h1, h2, h3, h4 => by
    have hab : a = b := by have := h3 0 (by omega); simpa using this
    subst hab
    have := common_eq x y k (by simpa using h1) (by simpa using h2) (fun i hi => by have := h3 (i + 1) (by omega); simpa using this) (by simpa using h4)
    simp [common, this]
def cmp : Bs → Bs → Int
  | [], [] => 0
  | [], _ :: _ => -1
  | _ :: _, [] => 1
  | a :: x, b :: y => if a = b then cmp x y else if b < a then 1 else -1
theorem cmp_common : ∀ (x y : Bs), cmp x y = if common x y = x.length ∧ common x y = y.length then 0 else if common x y = x.length then -1
    else if common x y = y.length ∨ y.getD (common x y) 0 < x.getD (common x y) 0 then 1 else -1
  | [], [] => by simp [cmp, common]
  | [], _ :: _ => by simp [cmp, common]
  | _ :: _, [] => by simp [cmp, common]
  | a :: x, b :: y => by
    by_cases h : a = b
    · subst h
      have := cmp_common x y
      simp only [cmp, common, if_true, this, List.length_cons, Nat.add_right_cancel_iff, List.getD_cons_succ]
    · simp only [cmp, common, if_neg h, List.length_cons, List.getD_cons_zero]
      simp

theorem cmp_eq : ∀ (x y : Bs), cmp x y = 0 ↔ x = y
  | [], [] => by simp [cmp]
  | [], _ :: _ => by simp [cmp]
  | _ :: _, [] => by simp [cmp]
  | a :: x, b :: y => by
    by_cases h : a = b
    · subst h; simp [cmp, cmp_eq x y]
    · have h2 : cmp (a :: x) (b :: y) = if b < a then 1 else -1 := by simp [cmp, h]
      rw [h2]
      simp only [List.cons.injEq, h, false_and, iff_false]
      split <;> decide
theorem cmp_anti : ∀ (x y : Bs), cmp y x = - cmp x y
  | [], [] => by simp [cmp]
  | [], _ :: _ => by simp [cmp]
  | _ :: _, [] => by simp [cmp]
  | a :: x, b :: y => by
    by_cases h : a = b
    · subst h; simp [cmp, cmp_anti x y]
    · have h' : ¬ b = a := fun e => h e.symm
      simp only [cmp, if_neg h, if_neg h']
      by_cases hlt : a < b
      · rw [if_pos hlt, if_neg (by simp only [UInt8.lt_iff_toNat_lt] at *; omega)]; rfl
      · rw [if_neg hlt, if_pos (by simp only [UInt8.lt_iff_toNat_lt] at *; have : a.toNat ≠ b.toNat := fun e => h (UInt8.toNat_inj.1 e); omega)]
theorem cmp_lt_trans : ∀ (x y z : Bs), cmp x y ≤ 0 → cmp y z ≤ 0 → (cmp x z ≤ 0 ∧ (cmp x y < 0 ∨ cmp y z < 0 → cmp x z < 0))
  | [], [], z, _, h2 => ⟨h2, fun h => h.elim (fun h => by simp [cmp] at h) (fun h => h)⟩
  | [], b :: y, [], _, h2 => by simp [cmp] at h2
  | [], b :: y, c :: z, _, _ => by simp [cmp]
  | a :: x, [], z, h1, _ => by simp [cmp] at h1
  | a :: x, b :: y, [], _, h2 => by simp [cmp] at h2
  | a :: x, b :: y, c :: z, h1, h2 => by
    have ih := cmp_lt_trans x y z
    by_cases hab : a = b
    · subst hab
      by_cases hac : a = c
      · subst hac; simp only [cmp, if_true] at *; exact ih h1 h2
      · simp only [cmp, if_true, if_neg hac] at *
        split at h2
        · omega
        · rename_i hh; rw [if_neg hh]; omega
    · by_cases hbc : b = c
      · subst hbc
        simp only [cmp, if_true, if_neg hab] at *
        split at h1
        · omega
        · rename_i hh; rw [if_neg hh]; omega
      · simp only [cmp, if_neg hab, if_neg hbc] at *
        split at h1
        · omega
        · split at h2
          · omega
          · rename_i g1 g2
            have e1 : a.toNat ≠ b.toNat := fun e => hab (UInt8.toNat_inj.1 e)
            have e2 : b.toNat ≠ c.toNat := fun e => hbc (UInt8.toNat_inj.1 e)
            simp only [UInt8.lt_iff_toNat_lt] at g1 g2
            have hac : ¬ a = c := by intro e; subst e; omega
            rw [if_neg hac, if_neg (by simp only [UInt8.lt_iff_toNat_lt]; omega)]
            omega
theorem bytesLess_cmp : ∀ (x y : Bs), Op.bytesLess x y = decide (cmp x y < 0)
  | [], [] => by simp [Op.bytesLess, cmp]
  | [], _ :: _ => by simp [Op.bytesLess, cmp]
  | _ :: _, [] => by simp [Op.bytesLess, cmp]
  | a :: x, b :: y => by
    by_cases h : a = b
    · subst h; simp [Op.bytesLess, cmp, bytesLess_cmp x y, UInt8.lt_irrefl]
    · have h' : a.toNat ≠ b.toNat := fun e => h (UInt8.toNat_inj.1 e)
      simp only [Op.bytesLess, cmp, if_neg h]
      have hb : (a == b) = false := by simpa using h
      simp only [hb, Bool.false_and, Bool.or_false]
      by_cases hlt : a < b
      · rw [if_neg (by simp only [UInt8.lt_iff_toNat_lt] at *; omega)]; simp [hlt]
      · rw [if_pos (by simp only [UInt8.lt_iff_toNat_lt] at *; omega)]; simp [hlt]

/-! ### Entries -/
/-- An entry: its key and its value, and where they lie. -/
structure KV where
  ka : Option Addr
  kc : Nat
  k : Bs
  va : Option Addr
  vc : Nat
  v : Bs
def KV.cells (e : KV) : List Value := [.slice e.ka e.k.length e.kc, .slice e.va e.v.length e.vc]
def KV.p (e : KV) : Bs × Bs := (e.k, e.v)
structure En (w : World) (a : Option Addr) (c : Nat) (es : List KV) : Prop where
  le : es.length ≤ c
  cap : c ≤ maxLen
  nil : a = none → c = 0
  cells : ∀ ad, a = some ad → Cells w ad (es.flatMap KV.cells)
  by_ : ∀ e, e ∈ es → By w e.ka e.kc e.k ∧ By w e.va e.vc e.v
theorem flat_get : ∀ (es : List KV) (i : Nat) (e : KV), es[i]? = some e → (es.flatMap KV.cells)[i * 2]? = some (.slice e.ka e.k.length e.kc) ∧ (es.flatMap KV.cells)[i * 2 + 1]? = some (.slice e.va e.v.length e.vc)
  | [], i, e, h => by simp at h
  | x :: r, 0, e, h => by simp at h; subst h; simp [KV.cells]
  | x :: r, i + 1, e, h => by
    have := flat_get r i e (by simpa using h)
    simp only [List.flatMap_cons, KV.cells, List.cons_append, List.nil_append]
    rw [show (i + 1) * 2 = i * 2 + 1 + 1 by omega]
    simpa using this
theorem En.len {w : World} {a : Option Addr} {c : Nat} {es : List KV} (h : En w a c es) : (es.length : Int) ≤ 9223372036854775807 := by
  have h1 := h.le
  have h2 := h.cap
  simp only [maxLen] at h2
  omega
theorem En.some {w : World} {a : Option Addr} {c : Nat} {es : List KV} (h : En w a c es) (hx : 0 < es.length) : ∃ ad, a = Option.some ad := by
  cases a with
  | none => have := h.nil rfl; have := h.le; omega
  | some ad => exact ⟨ad, rfl⟩
theorem En.key {w : World} {ad : Addr} {c : Nat} {es : List KV} (h : En w (Option.some ad) c es) {i : Nat} {e : KV} (hi : es[i]? = Option.some e) : w.cell? ((ad.add (i * 2)).add 0) = Option.some (.slice e.ka e.k.length e.kc) := by
  rw [add_add]; exact h.cells ad rfl _ _ (flat_get es i e hi).1
theorem En.val {w : World} {ad : Addr} {c : Nat} {es : List KV} (h : En w (Option.some ad) c es) {i : Nat} {e : KV} (hi : es[i]? = Option.some e) : w.cell? ((ad.add (i * 2)).add 1) = Option.some (.slice e.va e.v.length e.vc) := by
  rw [add_add]; exact h.cells ad rfl _ _ (flat_get es i e hi).2
theorem En.at {w : World} {a : Option Addr} {c : Nat} {es : List KV} (h : En w a c es) {i : Nat} {e : KV} (hi : es[i]? = Option.some e) : By w e.ka e.kc e.k ∧ By w e.va e.vc e.v := h.by_ e (List.mem_of_getElem? hi)
/-- An entry whole, as a load of a struct reads it. -/
theorem En.both {w : World} {ad : Addr} {c : Nat} {es : List KV} (h : En w (Option.some ad) c es) {i : Nat} {e : KV} (hi : es[i]? = Option.some e) : Cells w (ad.add (i * 2)) e.cells := by
  intro j v hj
  match j, hj with
  | 0, hj => simp only [KV.cells, List.getElem?_cons_zero, Option.some.injEq] at hj; subst hj; exact h.key hi
  | 1, hj => simp only [KV.cells, List.getElem?_cons_succ, List.getElem?_cons_zero, Option.some.injEq] at hj; subst hj; exact h.val hi
  | j + 2, hj => simp [KV.cells] at hj
theorem En.ex {w w' : World} {a : Option Addr} {c : Nat} {es : List KV} (h : En w a c es) (he : Ex w w') : En w' a c es :=
  ⟨h.le, h.cap, h.nil, fun ad e => (h.cells ad e).ext he (fun _ h => h), fun e he' => ⟨(h.by_ e he').1.ex he, (h.by_ e he').2.ex he⟩⟩
theorem get_lt {α : Type} (l : List α) (i : Nat) (h : i < l.length) : ∃ e, l[i]? = some e := ⟨l[i], List.getElem?_eq_getElem h⟩
theorem get_lt' {α : Type} {l : List α} {i : Nat} {e : α} (h : l[i]? = some e) : i < l.length := (List.getElem?_eq_some_iff.1 h).1

/-! ### Loads of structs -/
section
variable {P : Program} {S : World → Prop} {l : List (Nat × Value)} {d : Option Tmp} {ty : TypeId} {pos : String} {af : Array Edge} {g : Option (Nat × Bool)}
theorem y_loadA {x : Operand} {T : TypeId} {sz : Nat} [h : AgT P T sz] {a : Addr} {vs : List Value} (hx : ev l x = some (.pointer (some a))) (hc : ∀ w, S w → Cells w a vs) (hl : vs.length = sz) :
    Y P S ⟨d, .load T x, ty, pos, af, g⟩ l (.agg vs.toArray) := .mk fun w hw ρ hρ => by
  subst hl
  have := run_loadCells_list (P := P) (w := w) a vs (hc w hw)
  simp [execOp, hρ _ _ hx, Instr.loadAt, Instr.sureAddr, loadVar, h.agg, h.size, this]
/-- x / c of what is not below 0. -/
theorem y_quo {x : Operand} {T U : TypeId} {a c : Int} (hx : ev l x = some (.int .i64 a)) (h : (0 ≤ a ∧ a ≤ 9223372036854775807) ∧ 1 ≤ c) :
    Y P S ⟨d, .binOp .quo T x (.const (.int .i64 c)) U, ty, pos, af, g⟩ l (.int .i64 (a / c)) := .mk fun w _ ρ hρ => by
  have h2 := hρ (.const (.int .i64 c)) _ rfl
  have hne : c ≠ 0 := by omega
  have hb : -9223372036854775808 ≤ a / c ∧ a / c ≤ 9223372036854775807 := by
    have h1 := Int.ediv_nonneg h.1.1 (by omega : 0 ≤ c)
    have h2 := Int.ediv_le_self c h.1.1
    omega
  have := IntWalk.i64_in (a / c) hb
  rw [← Int.tdiv_eq_ediv_of_nonneg h.1.1] at this ⊢
  simp [execOp, hρ _ _ hx, h2, eqGuard_quo, binOp_quo, Op.intDiv, hne, this]
/-! x >> c. -/
theorem y_shr1 {x : Operand} {T U : TypeId} {a : Int} {k k' : IntKind} (hx : ev l x = some (.int k a)) (hc : Nat.ble 1 k.bits = true) :
    Y P S ⟨d, .binOp .shr T x (.const (.int k' 1)) U, ty, pos, af, g⟩ l (.int k (a / 2)) := .mk fun w _ ρ hρ => by
  have h2 := hρ (.const (.int k' 1)) _ rfl
  have h3 : min 1 k.bits = 1 := by have := Nat.le_of_ble_eq_true hc; omega
  simp [execOp, hρ _ _ hx, h2, eqGuard_shr, binOp_shr, Op.shift, h3]
  rw [Int.fdiv_eq_ediv_of_nonneg a (by decide)]
theorem y_shr8 {x : Operand} {T U : TypeId} {a : Int} {k k' : IntKind} (hx : ev l x = some (.int k a)) (hc : Nat.ble 8 k.bits = true) :
    Y P S ⟨d, .binOp .shr T x (.const (.int k' 8)) U, ty, pos, af, g⟩ l (.int k (a / 256)) := .mk fun w _ ρ hρ => by
  have h2 := hρ (.const (.int k' 8)) _ rfl
  have h3 : min 8 k.bits = 8 := by have := Nat.le_of_ble_eq_true hc; omega
  simp [execOp, hρ _ _ hx, h2, eqGuard_shr, binOp_shr, Op.shift, h3]
  rw [Int.fdiv_eq_ediv_of_nonneg a (by decide)]
theorem y_shr16 {x : Operand} {T U : TypeId} {a : Int} {k k' : IntKind} (hx : ev l x = some (.int k a)) (hc : Nat.ble 16 k.bits = true) :
    Y P S ⟨d, .binOp .shr T x (.const (.int k' 16)) U, ty, pos, af, g⟩ l (.int k (a / 65536)) := .mk fun w _ ρ hρ => by
  have h2 := hρ (.const (.int k' 16)) _ rfl
  have h3 : min 16 k.bits = 16 := by have := Nat.le_of_ble_eq_true hc; omega
  simp [execOp, hρ _ _ hx, h2, eqGuard_shr, binOp_shr, Op.shift, h3]
  rw [Int.fdiv_eq_ediv_of_nonneg a (by decide)]
theorem y_shr24 {x : Operand} {T U : TypeId} {a : Int} {k k' : IntKind} (hx : ev l x = some (.int k a)) (hc : Nat.ble 24 k.bits = true) :
    Y P S ⟨d, .binOp .shr T x (.const (.int k' 24)) U, ty, pos, af, g⟩ l (.int k (a / 16777216)) := .mk fun w _ ρ hρ => by
  have h2 := hρ (.const (.int k' 24)) _ rfl
  have h3 : min 24 k.bits = 24 := by have := Nat.le_of_ble_eq_true hc; omega
  simp [execOp, hρ _ _ hx, h2, eqGuard_shr, binOp_shr, Op.shift, h3]
  rw [Int.fdiv_eq_ediv_of_nonneg a (by decide)]
/-- A conversion between integers. -/
theorem y_conv {x : Operand} {T U : TypeId} {k k' : IntKind} {a : Int} [hT : InT P T k'] [hU : InT P U k] (hx : ev l x = some (.int k' a)) :
    Y P S ⟨d, .convert T U x, ty, pos, af, g⟩ l (.int k (k.wrap a)) := .mk fun w _ ρ hρ => by
  simp [execOp, hρ _ _ hx, convert, run_underlying hT.und, run_underlying hU.und, Conv.intToInt]
end
/-! ### A slice that is written out -/
theorem foldl_set (c : List Value) : ∀ (pre old post : List Value), old.length = c.length → ∀ (k : Nat),
    (c.zipIdx k).foldl (fun (cs : Array Value) (x : Value × Nat) => cs.setIfInBounds (pre.length - k + x.2) x.1) (pre ++ old ++ post).toArray = (pre ++ c ++ post).toArray ∨ pre.length < k := by
  induction c with
  | nil =>
    intro pre old post h k
    have : old = [] := List.eq_nil_of_length_eq_zero (by simpa using h)
    subst this
    exact .inl rfl
  | cons v c ih =>
    intro pre old post h k
    by_cases hk : pre.length < k
    · exact .inr hk
    · left
      match old, h with
      | o :: old, h =>
        simp only [List.zipIdx_cons, List.foldl_cons]
        have h1 : pre.length - k + k = pre.length := by omega
        rw [h1]
        have h2 : ((pre ++ (o :: old) ++ post).toArray.setIfInBounds pre.length v) = ((pre ++ [v]) ++ old ++ post).toArray := by
          simp
        rw [h2]
        rcases ih (pre ++ [v]) old post (by simpa using h) (k + 1) with h3 | h3
        · have h4 : (pre ++ [v]).length - (k + 1) = pre.length - k := by simp
          rw [h4] at h3
          rw [h3]
          simp
        · simp at h3; omega
theorem fill_all (sz : Nat) : ∀ (vals : List Value) (k : Nat) (pre zs : List Value), pre.length = k * sz → zs.length = vals.length * sz → (∀ v, v ∈ vals → v.cells.size = sz) →
    Instr.fill (fun i => some (i * sz, sz)) (pre ++ zs).toArray ((vals.zipIdx k).map fun x => (x.2, x.1)) = some (pre ++ vals.flatMap fun v => v.cells.toList).toArray
  | [], k, pre, zs, h1, h2, h3 => by
    have : zs = [] := List.eq_nil_of_length_eq_zero (by simpa using h2)
    subst this
    simp [Instr.fill]
  | v :: r, k, pre, zs, h1, h2, h3 => by
    have hv := h3 v (by simp)
    have hsz : sz ≤ zs.length := by rw [h2, List.length_cons, Nat.add_mul]; omega
    simp only [List.zipIdx_cons, List.map_cons, Instr.fill, hv, ne_eq, not_true_eq_false]
    rw [if_neg (by simp; omega)]
    have hz : zs = zs.take sz ++ zs.drop sz := (List.take_append_drop sz zs).symm
    have h4 : ((v.cells.zipIdx).foldl (fun (cs : Array Value) (x : Value × Nat) => cs.setIfInBounds (k * sz + x.2) x.1) (pre ++ zs).toArray) = (pre ++ v.cells.toList ++ zs.drop sz).toArray := by
      have := foldl_set v.cells.toList pre (zs.take sz) (zs.drop sz) (by simp [hv]; omega) 0
      simp only [Nat.not_lt_zero, or_false, Nat.sub_zero, h1] at this
      rw [← this, List.append_assoc, ← hz, ← Array.foldl_toList]
      simp [Array.toList_zipIdx]
    simp only [h4]
    have := fill_all sz r (k + 1) (pre ++ v.cells.toList) (zs.drop sz) (by simp [h1, hv, Nat.add_mul]) (by simp [h2, Nat.add_mul]) (fun u hu => h3 u (by simp [hu]))
    rw [this]
    simp
section
variable {M : Mode} {P : Program} {n : Nat} {ds : Dx} {ops : Array Oper} {Q : Exit → Act → World → Prop} {b : Bool} {rest : Tr} {l : List (Nat × Value)} {w : World}
variable {ty : TypeId} {pos : String} {af : Array Edge} {g : Option (Nat × Bool)}
def evp (l : List (Nat × Value)) : Nat → List (Nat × Operand) → Option (List Value)
  | _, [] => some []
  | k, (i, x) :: r => if i = k then match ev l x, evp l (k + 1) r with
    | some v, some vs => some (v :: vs)
    | _, _ => none
    else none
theorem evp_spec {ρ : Operand → Value} (hρ : Agr l ρ) : ∀ {ps : List (Nat × Operand)} {k : Nat} {vs : List Value}, evp l k ps = some vs → ps.map (fun x => (x.1, ρ x.2)) = (vs.zipIdx k).map fun x => (x.2, x.1)
  | [], k, vs, h => by simp [evp] at h; subst h; rfl
  | (i, x) :: r, k, vs, h => by
    unfold evp at h
    split at h
    · rename_i hik
      split at h
      · rename_i v us h1 h2
        simp only [Option.some.injEq] at h
        subst h
        subst hik
        simp [hρ _ _ h1, evp_spec hρ h2]
      · cases h
    · cases h
/-- []T{v0, v1, ..}. -/
theorem l_bsl {d : Nat} {T E : TypeId} {sz by' m : Nat} [hT : SlT P T E sz by'] {ps : List (Nat × Operand)} {vals : List Value} (hb : (M.any || !b) = true) (hg : gOk ops l g = true) (hd : Nat.blt d n = true)
    (hp : evp l 0 ps = some vals) (hm : vals.length = m) (hs' : (vals.all fun v => Nat.beq v.cells.size sz) = true) (hle : Nat.ble (m * sz) 16777216 = true)
    (h : ∀ k w', New w w' k E (vals.flatMap fun v => v.cells.toList) → M.chk w' ∧ LJ M P n ds ops Q rest ((d, .slice (some ⟨k, 0, none⟩) m m) :: l) w') :
    LJ M P n ds ops Q (.one b ⟨some d, .buildSlice T m ps.toArray, ty, pos, af, g⟩ rest) l w := by
  have hs : ∀ v, v ∈ vals → v.cells.size = sz := fun v hv => by simpa using List.all_eq_true.1 hs' v hv
  obtain ⟨i, z, i1, i2, i3, i4, i5⟩ := hT.info
  subst hm
  have hN := New.mk' w E (vals.flatMap fun v => v.cells.toList)
  obtain ⟨h1, h2⟩ := h _ _ hN
  refine l_e hb hg hd (v := .slice (some ⟨w.heap.size, 0, none⟩) vals.length vals.length) (fun ρ hρ => ?_) h1 h2
  have hle' : ¬ (vals.length * sz > 2 ^ 24) := by have := Nat.le_of_ble_eq_true hle; omega
  have hparts := evp_spec hρ hp
  have hz : (fun i => z.cells[i % z.cells.size]!) = fun i => z.cells[i % sz]! := by rw [i5]
  have hfill : ∀ (zs : Array Value), zs.size = vals.length * sz → Instr.fill (fun i => some (i * sz, sz)) zs ((vals.zipIdx 0).map fun x => (x.2, x.1)) = some (vals.flatMap fun v => v.cells.toList).toArray := by
    intro zs hzs
    have := fill_all sz vals 0 [] zs.toList (by simp) (by simpa using hzs) hs
    simpa using this
  by_cases h0 : vals.length * sz = 0
  · simp only [execOp, Instr.buildSlice, Sem.run_bind, run_underlying hT.und, Result.andThen_ok, sizeOf, typeInfo, run_program, i1, Sem.run_pure, i3, h0, if_true, List.map_toArray, hparts, Array.range_zero', List.map_nil, newRow]
    simp [hfill #[] (by simp [h0])]
  · simp only [execOp, Instr.buildSlice, Sem.run_bind, run_underlying hT.und, Result.andThen_ok, sizeOf, typeInfo, run_program, i1, Sem.run_pure, i3, if_neg hle', h0, if_false, List.map_toArray, hparts, zeroValue, i2, newRow]
    simp [hfill]
end
end Go.Sx
namespace Go.Sx
open Go

abbrev blk (a : Option Addr) : Option Nat := a.map (·.block)
/-- From world w, where a slice of one's own lies at a, to w', where it lies at a': nothing else that was there has turned. -/
structure Grow (w : World) (a : Option Addr) (w' : World) (a' : Option Addr) : Prop where
  ext : Ext (fun i => blk a = some i) w w'
  fr : ∀ ad', a' = some ad' → blk a = some ad'.block ∨ w.heap.size ≤ ad'.block
theorem Grow.refl (w : World) (a : Option Addr) : Grow w a w a := ⟨Ext.refl w, fun ad e => .inl (by rw [e]; rfl)⟩
theorem Grow.trans {w w' w'' : World} {a a' a'' : Option Addr} (h : Grow w a w' a') (k : Grow w' a' w'' a'') : Grow w a w'' a'' := by
  have hs := h.ext.size
  refine ⟨h.ext.trans' k.ext (fun _ _ h => h) ?_, ?_⟩
  · intro i hi hb
    cases ha : a' with
    | none => rw [ha] at hb; cases hb
    | some ad =>
      rw [ha] at hb
      have hb' : ad.block = i := by simpa [blk] using hb
      rcases h.fr ad ha with h1 | h1
      · rw [← hb']; exact h1
      · omega
  · intro ad e
    rcases k.fr ad e with h1 | h1
    · cases ha : a' with
      | none => rw [ha] at h1; cases h1
      | some ad' =>
        rw [ha] at h1
        have hb' : ad'.block = ad.block := by simpa [blk] using h1
        rcases h.fr ad' ha with h2 | h2
        · left; rw [← hb']; exact h2
        · right; omega
    · right; omega
theorem Grow.ex {w w' w'' : World} {a a' : Option Addr} (h : Grow w a w' a') (k : Ex w' w'') : Grow w a w'' a' :=
  ⟨h.ext.trans k.ext, h.fr⟩
theorem Own.out {w : World} {B E sz : Nat} {a : Option Addr} {n c : Nat} {xs : List Value} (h : Own w B E sz a n c xs) {i : Nat} (hi : i < B) : ¬ blk a = some i := by
  intro hb
  cases a with
  | none => cases hb
  | some ad =>
    have := h.ge
    have hb' : ad.block = i := by simpa [blk] using hb
    omega
/-- Bytes of one's own. -/
abbrev OwB (w : World) (B E : Nat) (a : Option Addr) (c : Nat) (bs : Bs) : Prop := Own w B E 1 a bs.length c (bs.map bv)
theorem OwB.by {w : World} {B E : Nat} {a : Option Addr} {c : Nat} {bs : Bs} (h : OwB w B E a c bs) : By w a c bs := (Own.by h).2

section
variable {P : Program} {S : World → Prop} {l : List (Nat × Value)} {d : Option Tmp} {ty : TypeId} {pos : String} {af : Array Edge} {g : Option (Nat × Bool)}
/-- Where a slice from lo on lies. -/
def sl (a : Option Addr) (c lo sz : Nat) : Option Addr := if c = lo then a else a.map (·.add (lo * sz))
theorem run_sl {P : Program} {T E : TypeId} {sz by' : Nat} [hT : SlT P T E sz by'] (w : World) (a : Option Addr) (n c lo hi : Nat) (vlo vhi : Option Value) (h1 : lo ≤ hi) (h2 : hi ≤ c)
    (hlo : vlo = none ∧ lo = 0 ∨ ∃ k, vlo = some (.int k (lo : Int))) (hhi : vhi = none ∧ hi = n ∨ ∃ k, vhi = some (.int k (hi : Int))) :
    (Instr.sliceAt T (.slice a n c) vlo vhi none).run P w = .ok (.slice (sl a c lo sz) (hi - lo) (c - lo)) w := by
  obtain ⟨i, z, i1, i2, i3, i4, i5⟩ := hT.info
  have hb : (Instr.sliceBounds true n c vlo vhi none).run P w = .ok (lo, hi, c) w := by
    unfold Instr.sliceBounds
    rcases hlo with ⟨rfl, rfl⟩ | ⟨k, rfl⟩ <;> rcases hhi with ⟨rfl, rfl⟩ | ⟨k', rfl⟩ <;> simp [Instr.sliceBound, asIntOf, h1, h2]
  simp [Instr.sliceAt, Instr.slice, run_underlying hT.und, hb, sizeOf, typeInfo, i1, i3, sl]
theorem y_slF {x lo : Operand} {T E : TypeId} {sz by' : Nat} [hT : SlT P T E sz by'] {a : Option Addr} {n c k : Nat} {kk : IntKind} (hx : ev l x = some (.slice a n c)) (hlo : ev l lo = some (.int kk (k : Int))) (hk : k ≤ n ∧ n ≤ c) :
    Y P S ⟨d, .slice T x (some lo) none none, ty, pos, af, g⟩ l (.slice (sl a c k sz) (n - k) (c - k)) := .mk fun w _ ρ hρ => by
  have := run_sl (P := P) (T := T) w a n c k n (some (.int kk (k : Int))) none hk.1 hk.2 (.inr ⟨kk, rfl⟩) (.inl ⟨rfl, rfl⟩)
  simp [execOp, hρ _ _ hx, hρ _ _ hlo, this]
theorem y_slT {x hi : Operand} {T E : TypeId} {sz by' : Nat} [hT : SlT P T E sz by'] {a : Option Addr} {n c k : Nat} {kk : IntKind} (hx : ev l x = some (.slice a n c)) (hhi : ev l hi = some (.int kk (k : Int))) (hk : k ≤ c) :
    Y P S ⟨d, .slice T x none (some hi) none, ty, pos, af, g⟩ l (.slice a k c) := .mk fun w _ ρ hρ => by
  have := run_sl (P := P) (T := T) w a n c 0 k none (some (.int kk (k : Int))) (Nat.zero_le _) hk (.inl ⟨rfl, rfl⟩) (.inr ⟨kk, rfl⟩)
  have hs : sl a c 0 sz = a := by
    unfold sl
    split
    · rfl
    · cases a <;> simp [Addr.add]
  rw [hs] at this
  simp [execOp, hρ _ _ hx, hρ _ _ hhi, this]
theorem y_slB {x lo hi : Operand} {T E : TypeId} {sz by' : Nat} [hT : SlT P T E sz by'] {a : Option Addr} {n c j k : Nat} {kk kl : IntKind} (hx : ev l x = some (.slice a n c)) (hlo : ev l lo = some (.int kl (j : Int))) (hhi : ev l hi = some (.int kk (k : Int))) (hk : j ≤ k ∧ k ≤ c) :
    Y P S ⟨d, .slice T x (some lo) (some hi) none, ty, pos, af, g⟩ l (.slice (sl a c j sz) (k - j) (c - j)) := .mk fun w _ ρ hρ => by
  have := run_sl (P := P) (T := T) w a n c j k (some (.int kl (j : Int))) (some (.int kk (k : Int))) hk.1 hk.2 (.inr ⟨kl, rfl⟩) (.inr ⟨kk, rfl⟩)
  simp [execOp, hρ _ _ hx, hρ _ _ hlo, hρ _ _ hhi, this]
end
/-- A part of a slice of bytes reads as that part. -/
theorem By.sl {w : World} {a : Option Addr} {c : Nat} {xs : Bs} (h : By w a c xs) {j k : Nat} (hj : j ≤ k) (hk : k ≤ xs.length) : By w (Sx.sl a c j 1) (c - j) ((xs.take k).drop j) := by
  have hl : ((xs.take k).drop j).length = k - j := by simp; omega
  have hle := h.le
  have hcap := h.cap
  refine ⟨by rw [hl]; omega, by omega, ?_, ?_⟩
  · intro e
    unfold Sx.sl at e
    split at e
    · omega
    · cases a with
      | none => have := h.nil rfl; omega
      | some ad => cases e
  · intro ad e
    unfold Sx.sl at e
    split at e
    · rename_i hc
      have : (xs.take k).drop j = [] := List.eq_nil_of_length_eq_zero (by omega)
      rw [this]
      intro i v hv; simp at hv
    · cases a with
      | none => cases e
      | some ad0 =>
        simp only [Option.map_some, Option.some.injEq, Nat.mul_one] at e
        subst e
        intro i v hv
        rw [add_add]
        refine h.cells ad0 rfl _ _ ?_
        simp only [List.map_drop, List.map_take, List.getElem?_drop, List.getElem?_take] at hv
        split at hv
        · exact hv
        · cases hv
/-- The beginning of a slice of bytes. -/
theorem By.take {w : World} {a : Option Addr} {c : Nat} {xs : Bs} (h : By w a c xs) {k : Nat} (hk : k ≤ xs.length) : By w a c (xs.take k) := by
  have hle := h.le
  refine ⟨by simp; omega, h.cap, h.nil, ?_⟩
  intro ad e i v hv
  refine h.cells ad e i v ?_
  simp only [List.map_take, List.getElem?_take] at hv
  split at hv
  · exact hv
  · cases hv
theorem By.drop {w : World} {a : Option Addr} {c : Nat} {xs : Bs} (h : By w a c xs) {j : Nat} (hj : j ≤ xs.length) : By w (Sx.sl a c j 1) (c - j) (xs.drop j) := by
  have := h.sl hj (Nat.le_refl _)
  rwa [List.take_length] at this

/-! ### Strings -/
def str (xs : Bs) : Value := .string ⟨xs.toArray⟩
section
variable {P : Program} {S : World → Prop} {l : List (Nat × Value)} {d : Option Tmp} {ty : TypeId} {pos : String} {af : Array Edge} {g : Option (Nat × Bool)}
theorem y_str {x : Operand} {T U : TypeId} [hT : ByT P T] [hU : StT P U] {a : Option Addr} {c : Nat} {xs : Bs} (hx : ev l x = some (.slice a xs.length c)) (hb : ∀ w, S w → By w a c xs) :
    Y P S ⟨d, .convert T U x, ty, pos, af, g⟩ l (str xs) := .mk fun w hw ρ hρ => by
  obtain ⟨e, h1, h2⟩ := hT.und
  have hb := hb w hw
  cases a with
  | none =>
    have := hb.nil rfl
    have := hb.le
    obtain rfl : xs = [] := List.eq_nil_of_length_eq_zero (by omega)
    simp [execOp, hρ _ _ hx, convert, run_underlying h1, run_underlying hU.und, run_underlying h2, Conv.bytesToString, str]
    rfl
  | some ad =>
    have := run_convert_bytes_back (P := P) w T U e ad c xs h1 h2 hU.und (fun j hj => hb.cells ad rfl j _ (by simp [hj, bv]))
    simp [execOp, hρ _ _ hx, this, str]
theorem y_seq {x y : Operand} {T U : TypeId} {xs ys : Bs} (hx : ev l x = some (str xs)) (hy : ev l y = some (str ys)) :
    Y P S ⟨d, .binOp .eql T x y U, ty, pos, af, g⟩ l (.bool (decide (xs = ys))) := .mk fun w _ ρ hρ => by
  simp only [execOp, hρ _ _ hx, hρ _ _ hy, str, eqGuard_at_string]
  simp [binOp, Op.stringOp]
  rw [Bool.eq_iff_iff]; simp
theorem y_sne {x y : Operand} {T U : TypeId} {xs ys : Bs} (hx : ev l x = some (str xs)) (hy : ev l y = some (str ys)) :
    Y P S ⟨d, .binOp .neq T x y U, ty, pos, af, g⟩ l (.bool (!decide (xs = ys))) := .mk fun w _ ρ hρ => by
  simp only [execOp, hρ _ _ hx, hρ _ _ hy, str, eqGuard_at_string]
  simp [binOp, Op.stringOp]
  rw [Bool.eq_iff_iff]; simp
theorem y_slt {x y : Operand} {T U : TypeId} {xs ys : Bs} (hx : ev l x = some (str xs)) (hy : ev l y = some (str ys)) :
    Y P S ⟨d, .binOp .lss T x y U, ty, pos, af, g⟩ l (.bool (decide (cmp xs ys < 0))) := .mk fun w _ ρ hρ => by
  simp only [execOp, hρ _ _ hx, hρ _ _ hy, str, eqGuard_at_string]
  simp [binOp, Op.stringOp, bytesLess_cmp]
theorem y_sle {x y : Operand} {T U : TypeId} {xs ys : Bs} (hx : ev l x = some (str xs)) (hy : ev l y = some (str ys)) :
    Y P S ⟨d, .binOp .leq T x y U, ty, pos, af, g⟩ l (.bool (decide (cmp xs ys ≤ 0))) := .mk fun w _ ρ hρ => by
  simp only [execOp, hρ _ _ hx, hρ _ _ hy, str, eqGuard_at_string]
  have : (decide (cmp xs ys < 0) || xs == ys) = decide (cmp xs ys ≤ 0) := by
    have := cmp_eq xs ys
    rw [Bool.eq_iff_iff]; simp only [Bool.or_eq_true, decide_eq_true_eq, beq_iff_eq, ← this]; omega
  simp [binOp, Op.stringOp, bytesLess_cmp, this]
theorem y_sgt {x y : Operand} {T U : TypeId} {xs ys : Bs} (hx : ev l x = some (str xs)) (hy : ev l y = some (str ys)) :
    Y P S ⟨d, .binOp .gtr T x y U, ty, pos, af, g⟩ l (.bool (decide (0 < cmp xs ys))) := .mk fun w _ ρ hρ => by
  simp only [execOp, hρ _ _ hx, hρ _ _ hy, str, eqGuard_at_string]
  have : (!(decide (cmp xs ys < 0) || xs == ys)) = decide (0 < cmp xs ys) := by
    have := cmp_eq xs ys
    rw [Bool.eq_iff_iff]; simp only [Bool.not_eq_true', Bool.or_eq_false_iff, decide_eq_false_iff_not, decide_eq_true_eq, beq_eq_false_iff_ne, ne_eq, ← this]; omega
  simp only [binOp, Op.stringOp, ByteArray.toList_mk, bytesLess_cmp, this, Sem.run_bind, Sem.run_pure, Result.andThen_ok]
theorem y_sge {x y : Operand} {T U : TypeId} {xs ys : Bs} (hx : ev l x = some (str xs)) (hy : ev l y = some (str ys)) :
    Y P S ⟨d, .binOp .geq T x y U, ty, pos, af, g⟩ l (.bool (decide (0 ≤ cmp xs ys))) := .mk fun w _ ρ hρ => by
  simp only [execOp, hρ _ _ hx, hρ _ _ hy, str, eqGuard_at_string]
  have : (!(decide (cmp xs ys < 0))) = decide (0 ≤ cmp xs ys) := by
    rw [Bool.eq_iff_iff]; simp
  simp only [binOp, Op.stringOp, ByteArray.toList_mk, bytesLess_cmp, this, Sem.run_bind, Sem.run_pure, Result.andThen_ok]
end

/-! ### nil, results that lie in memory -/
section
variable {P : Program} {S : World → Prop} {l : List (Nat × Value)} {d : Option Tmp} {ty : TypeId} {pos : String} {af : Array Edge} {g : Option (Nat × Bool)}
theorem run_slnil {P : Program} {T E : TypeId} {sz b : Nat} [h : SlT P T E sz b] (w : World) (a : Option Addr) (k c : Nat) : (Op.equal T (.slice a k c) (.slice none 0 0)).run P w = .ok a.isNone w := by
  exact run_equal_slice_nil w T E a k c h.und
theorem y_eqnil {x : Operand} {T E U : TypeId} {sz b : Nat} [h : SlT P T E sz b] {a : Option Addr} {k c : Nat} (hx : ev l x = some (.slice a k c)) :
    Y P S ⟨d, .binOp .eql T x (.const (.slice none 0 0)) U, ty, pos, af, g⟩ l (.bool a.isNone) := .mk fun w _ ρ hρ => by
  have h2 := hρ (.const (.slice none 0 0)) _ rfl
  simp [execOp, hρ _ _ hx, h2, eqGuard_at_slice, binOp, run_slnil]
theorem y_nenil {x : Operand} {T E U : TypeId} {sz b : Nat} [h : SlT P T E sz b] {a : Option Addr} {k c : Nat} (hx : ev l x = some (.slice a k c)) :
    Y P S ⟨d, .binOp .neq T x (.const (.slice none 0 0)) U, ty, pos, af, g⟩ l (.bool (!a.isNone)) := .mk fun w _ ρ hρ => by
  have h2 := hρ (.const (.slice none 0 0)) _ rfl
  simp [execOp, hρ _ _ hx, h2, eqGuard_at_slice, binOp, run_slnil]
theorem y_index0 {x i : Operand} {T E : TypeId} {sz b : Nat} [h : SlT P T E sz b] {a : Addr} {n c : Nat} {k : IntKind}
    (hx : ev l x = some (.slice (some a) n c)) (hi : ev l i = some (.int k 0)) (hj : 0 < n) :
    Y P S ⟨d, .indexAddr T x i, ty, pos, af, g⟩ l (.pointer (some (a.add (0 * sz)))) := y_index (j := 0) hx hi hj
theorem y_index1 {x i : Operand} {T E : TypeId} {sz b : Nat} [h : SlT P T E sz b] {a : Addr} {n c : Nat} {k : IntKind}
    (hx : ev l x = some (.slice (some a) n c)) (hi : ev l i = some (.int k 1)) (hj : 1 < n) :
    Y P S ⟨d, .indexAddr T x i, ty, pos, af, g⟩ l (.pointer (some (a.add (1 * sz)))) := y_index (j := 1) hx hi hj
theorem y_index2 {x i : Operand} {T E : TypeId} {sz b : Nat} [h : SlT P T E sz b] {a : Addr} {n c : Nat} {k : IntKind}
    (hx : ev l x = some (.slice (some a) n c)) (hi : ev l i = some (.int k 2)) (hj : 2 < n) :
    Y P S ⟨d, .indexAddr T x i, ty, pos, af, g⟩ l (.pointer (some (a.add (2 * sz)))) := y_index (j := 2) hx hi hj
theorem y_index3 {x i : Operand} {T E : TypeId} {sz b : Nat} [h : SlT P T E sz b] {a : Addr} {n c : Nat} {k : IntKind}
    (hx : ev l x = some (.slice (some a) n c)) (hi : ev l i = some (.int k 3)) (hj : 3 < n) :
    Y P S ⟨d, .indexAddr T x i, ty, pos, af, g⟩ l (.pointer (some (a.add (3 * sz)))) := y_index (j := 3) hx hi hj
theorem y_cap {x : Operand} {T E : TypeId} {sz b : Nat} [h : SlT P T E sz b] {a : Option Addr} {k c : Nat} (hx : ev l x = some (.slice a k c)) :
    Y P S ⟨d, .call { callee := .builtin .cap, args := #[x], argTypes := #[T] }, ty, pos, af, g⟩ l (.int .i64 c) := .mk fun w _ ρ hρ => by
  simp [execOp, hρ _ _ hx, resolve, invoke, builtin, Builtin.cap_, run_underlying h.und, goInt]
theorem y_ext {x : Operand} {i : Nat} {vs : List Value} {v : Value} (hx : ev l x = some (.tuple vs.toArray)) (hv : vs[i]? = some v) :
    Y P S ⟨d, .extract x i, ty, pos, af, g⟩ l v := .mk fun w _ ρ hρ => by
  simp [execOp, hρ _ _ hx, Instr.extract, hv]
/-- A byte as an int. -/
theorem wrap_byte (x : UInt8) : IntKind.i64.wrap (x.toNat : Int) = ((x.toNat : Nat) : Int) := IntWalk.i64_in _ (by have := x.toNat_lt; omega)
theorem y_b2i {x : Operand} {T U : TypeId} {a : UInt8} [hT : InT P T .u8] [hU : InT P U .i64] (hx : ev l x = some (bv a)) :
    Y P S ⟨d, .convert T U x, ty, pos, af, g⟩ l (.int .i64 (a.toNat : Nat)) := by
  have := y_conv (P := P) (S := S) (d := d) (ty := ty) (pos := pos) (af := af) (g := g) (T := T) (U := U) (k := .i64) hx
  rwa [wrap_byte] at this
end
section
variable {P : Program} {fn : Func} {R : Value → World → Prop} {n : Nat} {l : List (Nat × Value)} {w : World}
theorem q_retc {t : Tmp} {T : TypeId} {sz : Nat} [h : AgT P T sz] {k U : Nat} {vs : List Value} (hr : fn.results = #[.cell t T]) (hl : look l t = some (.pointer (some ⟨k, 0, none⟩))) (hB : HB w k U vs) (hz : vs.length = sz)
    (hR : R (.agg vs.toArray) w) : QJ n dx0 (bodyPost P fn (RetR R)) .ret l w := .mk fun a ha => by
  subst hz
  have := run_loadCells_list (P := P) (w := w) ⟨k, 0, none⟩ vs hB.cells
  exact ⟨ha.defers, .agg vs.toArray, by simp [results, hr, Array.getD_eq_getD_getElem?, ha.has _ _ hl, asAddr, loadVar, h.agg, h.size, this], _, rfl, hR⟩
end
/-! ### Structs that are written out -/
section
variable {P : Program} {S : World → Prop} {l : List (Nat × Value)} {d : Option Tmp} {ty : TypeId} {pos : String} {af : Array Edge} {g : Option (Nat × Bool)}
/-- Values of parts, in their order. -/
def evb (l : List (Nat × Value)) : List (Nat × Operand) → Option (List (Nat × Value))
  | [] => some []
  | (i, x) :: r => match ev l x, evb l r with
    | some v, some vs => some ((i, v) :: vs)
    | _, _ => none
theorem evb_spec {ρ : Operand → Value} (hρ : Agr l ρ) : ∀ {ps : List (Nat × Operand)} {vs : List (Nat × Value)}, evb l ps = some vs → ps.map (fun x => (x.1, ρ x.2)) = vs
  | [], vs, h => by simp [evb] at h; subst h; rfl
  | (i, x) :: r, vs, h => by
    unfold evb at h
    split at h
    · rename_i v us h1 h2
      simp only [Option.some.injEq] at h
      subst h
      simp [hρ _ _ h1, evb_spec hρ h2]
    · cases h
/-- The built struct, by a closed fact on its type. -/
theorem y_build {T : TypeId} {ps : List (Nat × Operand)} {vals : List (Nat × Value)} {cs : List Value} (hp : evb l ps = some vals) (hr : ∀ w, (Instr.build T vals.toArray).run P w = .ok (.agg cs.toArray) w) :
    Y P S ⟨d, .build T ps.toArray, ty, pos, af, g⟩ l (.agg cs.toArray) := .mk fun w _ ρ hρ => by
  have := evb_spec hρ hp
  simp [execOp, this, hr]
end
end Go.Sx
namespace Go.Sx
open Go

section
variable {P : Program} {fn : Func} {R : Value → World → Prop} {E : List PanicEntry → World → Prop} {n : Nat} {ds : Dx} {l : List (Nat × Value)} {w : World} {Q : Exit → Act → World → Prop}
end

section
variable {M : Mode} {P : Program} {n : Nat} {ds : Dx} {ops : Array Oper} {Q : Exit → Act → World → Prop} {b : Bool} {rest : Tr} {l : List (Nat × Value)} {w : World}
variable {ty : TypeId} {pos : String} {af : Array Edge} {g : Option (Nat × Bool)}
end

section
variable {P : Program} {S : World → Prop} {l : List (Nat × Value)} {d : Option Tmp} {ty : TypeId} {pos : String} {af : Array Edge} {g : Option (Nat × Bool)}
theorem y_mkf {f : Go.Fn} {xs : List Operand} {args : List Value} (hx : evs l xs = some args) :
    Y P S ⟨d, .makeFunc f #[] xs.toArray, ty, pos, af, g⟩ l (.func f #[] args.toArray) := .mk fun w _ ρ hρ => by
  have := evs_map hρ hx
  simp [execOp, Instr.makeFunc, this]
/-- A byte's shift, and two numbers laid together. -/
theorem y_shl8 {x : Operand} {T U : TypeId} {a : Nat} {k' : IntKind} (hx : ev l x = some (.int .i64 (a : Int))) (ha : a < 65536) :
    Y P S ⟨d, .binOp .shl T x (.const (.int k' 8)) U, ty, pos, af, g⟩ l (.int .i64 ((a * 256 : Nat) : Int)) := .mk fun w _ ρ hρ => by
  have h2 := hρ (.const (.int k' 8)) _ rfl
  have h3 : IntKind.i64.wrap ((a : Int) * 256) = ((a * 256 : Nat) : Int) := by rw [IntWalk.i64_in _ (by omega)]; omega
  simp [execOp, hρ _ _ hx, h2, eqGuard, binOp, Op.shift, IntKind.bits, h3]
theorem y_or8 {x y : Operand} {T U : TypeId} {a c : Nat} (hx : ev l x = some (.int .i64 ((a * 256 : Nat) : Int))) (hy : ev l y = some (.int .i64 (c : Int))) (ha : a < 65536) (hc : c < 256) :
    Y P S ⟨d, .binOp .or T x y U, ty, pos, af, g⟩ l (.int .i64 ((a * 256 + c : Nat) : Int)) := .mk fun w _ ρ hρ => by
  have h3 : Go.bits .or .i64 ((a * 256 : Nat) : Int) (c : Int) = ((a * 256 : Nat) : Int) + c := bits_join .i64 63 (by decide) (fun m h0 h1 => IntWalk.i64_in m (by omega)) 8 _ _ (by omega) (by omega) (by omega) (by omega) (by omega) (by omega)
  have h4 : (((a * 256 + c : Nat) : Int)) = ((a * 256 : Nat) : Int) + c := by omega
  rw [h4, ← h3]
  simp [execOp, hρ _ _ hx, hρ _ _ hy, eqGuard, binOp, Op.intBits, Go.bits]
end

section
variable {M : Mode} {P : Program} {n : Nat} {ds : Dx} {ops : Array Oper} {Q : Exit → Act → World → Prop} {b : Bool} {rest : Tr} {l : List (Nat × Value)} {w : World}
variable {ty : TypeId} {pos : String} {af : Array Edge} {g : Option (Nat × Bool)}
end

/-! ### A function that puts calls off -/
section
variable {P : Program} {fn : Func} {R : Value → World → Prop} {n : Nat} {l : List (Nat × Value)} {w : World}
end
/-! ### Slices of slices of bytes -/
structure SB where
  a : Option Addr
  c : Nat
  xs : Bs
def SB.val (p : SB) : Value := .slice p.a p.xs.length p.c
structure Bbs (w : World) (a : Option Addr) (c : Nat) (ps : List SB) : Prop where
  le : ps.length ≤ c
  cap : c ≤ maxLen
  nil : a = none → c = 0
  cells : ∀ ad, a = some ad → Cells w ad (ps.map SB.val)
  by_ : ∀ p, p ∈ ps → By w p.a p.c p.xs
theorem Bbs.ex {w w' : World} {a : Option Addr} {c : Nat} {ps : List SB} (h : Bbs w a c ps) (he : Ex w w') : Bbs w' a c ps :=
  ⟨h.le, h.cap, h.nil, fun ad e => (h.cells ad e).ext he (fun _ h => h), fun p hp => (h.by_ p hp).ex he⟩
theorem Bbs.ext {G : Nat → Prop} {w w' : World} {a : Option Addr} {c : Nat} {ps : List SB} (h : Bbs w a c ps) (he : Ext G w w') (h1 : ∀ ad, a = some ad → ¬ G ad.block) (h2 : ∀ p ∈ ps, ∀ ad, p.a = some ad → ¬ G ad.block) : Bbs w' a c ps :=
  ⟨h.le, h.cap, h.nil, fun ad e => (h.cells ad e).ext he (fun _ => h1 ad e), fun p hp => (h.by_ p hp).ext he (fun ad e _ => h2 p hp ad e)⟩
theorem Bbs.len {w : World} {a : Option Addr} {c : Nat} {ps : List SB} (h : Bbs w a c ps) : (ps.length : Int) ≤ 9223372036854775807 := by
  have := h.le; have := h.cap; simp only [maxLen] at this; omega
theorem Bbs.some {w : World} {a : Option Addr} {c : Nat} {ps : List SB} (h : Bbs w a c ps) (hp : 0 < ps.length) : ∃ ad, a = Option.some ad := by
  cases a with
  | none => have := h.nil rfl; have := h.le; omega
  | some ad => exact ⟨ad, rfl⟩
theorem Bbs.val {w : World} {ad : Addr} {c : Nat} {ps : List SB} (h : Bbs w (Option.some ad) c ps) {i : Nat} {p : SB} (hp : ps[i]? = Option.some p) : w.cell? (ad.add (i * 1)) = Option.some (.slice p.a p.xs.length p.c) := by
  rw [Nat.mul_one]
  exact h.cells ad rfl i _ (by simp [hp, SB.val])
theorem Bbs.at {w : World} {a : Option Addr} {c : Nat} {ps : List SB} (h : Bbs w a c ps) {i : Nat} {p : SB} (hp : ps[i]? = Option.some p) : By w p.a p.c p.xs := h.by_ p (List.mem_of_getElem? hp)
end Go.Sx
namespace Go.Sx
open Go

section
variable {M : Mode} {P : Program} {n : Nat} {ds : Dx} {ops : Array Oper} {Q : Exit → Act → World → Prop} {b : Bool} {rest : Tr} {l : List (Nat × Value)} {w : World}
/-- It looks, and is taken where it stands. -/
theorem l_act {d : Nat} {op : Op} {ty : TypeId} {pos : String} {af : Array Edge} {g : Option (Nat × Bool)} {v : Value} (hb : (M.any || !b) = true) (hg : gOk ops l g = true) (hd : Nat.blt d n = true) (hy : Y P (fun w' => w' = w) ⟨some d, op, ty, pos, af, g⟩ l v) (hc : M.chk w)
    (h : LJ M P n ds ops Q rest ((d, v) :: l) w) : LJ M P n ds ops Q (.one b ⟨some d, op, ty, pos, af, g⟩ rest) l w :=
  l_e hb hg hd (fun ρ hρ => hy.out w rfl ρ hρ) hc h
end

/-- The mark behind the bytes of a constant string. -/
theorem Ext.freeze (w : World) (b k : Nat) : Ext (fun i => i = b) w (w.freeze ⟨b, k, none⟩ 1) := by
  unfold World.freeze
  rw [if_neg (by decide)]
  exact ⟨rfl, rfl, rfl, by simp, fun i _ hn => by
    simp only [Array.getElem?_modify]
    rw [if_neg (fun e => hn e.symm)]⟩
theorem cells_freeze {w : World} {b T k : Nat} {vs : List Value} (h : HB w b T vs) : Cells (w.freeze ⟨b, k, none⟩ 1) ⟨b, 0, none⟩ vs := by
  intro i v hi
  have h1 : (⟨b, 0, none⟩ : Addr).add i = ⟨b, i, none⟩ := by unfold Addr.add; split <;> simp_all
  rw [h1]
  unfold HB at h
  unfold World.freeze
  rw [if_neg (by decide)]
  simp only [World.cell?, Array.getElem?_modify, if_true, h, Option.map_some]
  simpa using hi
section
variable {M : Mode} {P : Program} {n : Nat} {ds : Dx} {ops : Array Oper} {Q : Exit → Act → World → Prop} {b : Bool} {rest : Tr} {l : List (Nat × Value)} {w : World}
/-- []byte("..") of a constant. -/
theorem l_convb {d : Nat} {ty : TypeId} {pos : String} {af : Array Edge} {g : Option (Nat × Bool)} {x : Operand} {T E : TypeId} {sz by' k m c U : Nat} {vs : List Value} [hT : SlT P T E sz by'] [hE : InT P E .u8] (hb : (M.any || !b) = true) (hg : gOk ops l g = true) (hd : Nat.blt d n = true)
    (hx : ev l x = some (.slice (some ⟨k, 0, none⟩) m c)) (hB : HB w k U vs)
    (h : ∀ w', Ext (fun i => i = k) w w' → Cells w' ⟨k, 0, none⟩ vs → w'.heap.size = w.heap.size → M.chk w' ∧ LJ M P n ds ops Q rest ((d, .slice (some ⟨k, 0, none⟩) m c) :: l) w') :
    LJ M P n ds ops Q (.one b ⟨some d, .convert T T x, ty, pos, af, g⟩ rest) l w := by
  have hX := Ext.freeze w k vs.length
  obtain ⟨h5, h6⟩ := h _ hX (cells_freeze hB) (by unfold World.freeze; rw [if_neg (by decide)]; simp)
  refine l_e hb hg hd (fun ρ hρ => ?_) h5 h6
  have hsh : w.shape? k = some (U, vs.length) := by
    unfold World.shape?
    unfold HB at hB
    rw [hB]
    simp
  simp [execOp, hρ _ _ hx, convert, run_underlying hT.und, run_underlying hE.und, markStringish, hsh]
end

/-- No two are one. -/
def Dis (l : List (Option Nat)) : Prop := l.Pairwise (fun x y => ∀ i, x = some i → y = some i → False)
def bks (es : List KV) : List (Option Nat) := es.flatMap (fun e => [blk e.ka, blk e.va])
/-- A list of entries of one's own, their keys and values too. -/
structure OwE (w : World) (B T U : Nat) (a : Option Addr) (c : Nat) (es : List KV) : Prop where
  sl : Own w B T 2 a es.length c (es.flatMap KV.cells)
  el : ∀ e, e ∈ es → OwB w B U e.ka e.kc e.k ∧ OwB w B U e.va e.vc e.v
  dj : Dis (blk a :: bks es)
theorem OwE.nil (w : World) (B T U : Nat) : OwE w B T U none 0 [] := ⟨Own.nil .., by simp, by simp [Dis, bks]⟩
theorem OwB.bl {w : World} {B U c i : Nat} {a : Option Addr} {xs : Bs} (h : OwB w B U a c xs) (hi : blk a = some i) : B ≤ i ∧ i < w.heap.size := by
  cases a with
  | none => cases hi
  | some ad => simp only [blk, Option.map_some, Option.some.injEq] at hi; subst hi; exact Own.ge h
theorem OwE.bl {w : World} {B T U : Nat} {a : Option Addr} {c : Nat} {es : List KV} (h : OwE w B T U a c es) {i : Nat} (hi : some i ∈ bks es) : B ≤ i ∧ i < w.heap.size := by
  simp only [bks, List.mem_flatMap, List.mem_cons, List.not_mem_nil, or_false] at hi
  obtain ⟨e, he, h1 | h1⟩ := hi
  · exact OwB.bl (h.el e he).1 h1.symm
  · exact OwB.bl (h.el e he).2 h1.symm
theorem OwE.bla {w : World} {B T U : Nat} {a : Option Addr} {c : Nat} {es : List KV} (h : OwE w B T U a c es) {i : Nat} (hi : blk a = some i) : B ≤ i ∧ i < w.heap.size := by
  cases a with
  | none => cases hi
  | some ad => simp only [blk, Option.map_some, Option.some.injEq] at hi; subst hi; exact Own.ge h.sl
theorem OwE.ext {G : Nat → Prop} {w w' : World} {B T U : Nat} {a : Option Addr} {c : Nat} {es : List KV} (h : OwE w B T U a c es) (he : Ext G w w') (h1 : ∀ i, B ≤ i → i < w.heap.size → ¬ G i) : OwE w' B T U a c es :=
  ⟨h.sl.ext he (fun ad e => by subst e; exact h1 _ (Own.ge h.sl).1 (Own.ge h.sl).2),
   fun e hm => ⟨Own.ext (h.el e hm).1 he (fun ad hd => (fun hb => h1 _ hb.1 hb.2) (OwB.bl (h.el e hm).1 (by rw [hd]; rfl))), Own.ext (h.el e hm).2 he (fun ad hd => (fun hb => h1 _ hb.1 hb.2) (OwB.bl (h.el e hm).2 (by rw [hd]; rfl)))⟩, h.dj⟩
theorem OwE.ex {w w' : World} {B T U : Nat} {a : Option Addr} {c : Nat} {es : List KV} (h : OwE w B T U a c es) (he : Ex w w') : OwE w' B T U a c es := h.ext he (fun _ _ _ h => h)
theorem OwE.mono {w : World} {B B' T U : Nat} {a : Option Addr} {c : Nat} {es : List KV} (h : OwE w B T U a c es) (hB : B' ≤ B) : OwE w B' T U a c es :=
  ⟨h.sl.mono hB, fun e hm => ⟨Own.mono (h.el e hm).1 hB, Own.mono (h.el e hm).2 hB⟩, h.dj⟩
theorem OwE.en {w : World} {B T U : Nat} {a : Option Addr} {c : Nat} {es : List KV} (h : OwE w B T U a c es) : En w a c es := by
  refine ⟨h.sl.le.1, h.sl.le.2, ?_, ?_, fun e hm => ⟨OwB.by (h.el e hm).1, OwB.by (h.el e hm).2⟩⟩
  · rintro rfl
    obtain ⟨_, _, h3, _⟩ | ⟨g, rest, h1, _⟩ := h.sl.open
    · exact h3
    · cases h1
  · rintro ad rfl
    exact h.sl.cells
/-- One more. -/
theorem OwE.push {w w' : World} {B B1 T U : Nat} {a a' : Option Addr} {c c' : Nat} {es : List KV} {e : KV} (h : OwE w B T U a c es) (hk : OwB w B1 U e.ka e.kc e.k) (hv : OwB w B1 U e.va e.vc e.v) (hd : ∀ i, blk e.ka = some i → blk e.va = some i → False)
    (hB : B ≤ B1) (hlt : ∀ i, blk a = some i ∨ some i ∈ bks es → i < B1) (hs : Own w' B T 2 a' (es.length + 1) c' (es.flatMap KV.cells ++ e.cells)) (hg : Grow w a w' a') : OwE w' B T U a' c' (es ++ [e]) := by
  have hdj := h.dj
  simp only [Dis, List.pairwise_cons] at hdj
  have hx : ∀ i, blk e.ka = some i ∨ blk e.va = some i → B1 ≤ i ∧ i < w.heap.size := fun i hi => hi.elim (OwB.bl hk) (OwB.bl hv)
  have ha' : ∀ i, blk a' = some i → blk a = some i ∨ w.heap.size ≤ i := by
    intro i hi
    cases a' with
    | none => cases hi
    | some ad =>
      simp only [blk, Option.map_some, Option.some.injEq] at hi
      subst hi
      exact hg.fr ad rfl
  have hoe : ∀ (x : Option Addr) (cx : Nat) (bs : Bs) (Bx : Nat), OwB w Bx U x cx bs → (∀ i, blk x = some i → blk a = some i → False) → OwB w' Bx U x cx bs := by
    intro x cx bs Bx ho hn
    exact Own.ext ho hg.ext (fun ad hd h' => hn ad.block (by rw [hd]; rfl) h')
  refine ⟨by simpa using hs, ?_, ?_⟩
  · intro e' hm
    rcases List.mem_append.1 hm with hm | hm
    · have h1 : ∀ i, blk e'.ka = some i ∨ blk e'.va = some i → some i ∈ bks es := by
        intro i hi
        simp only [bks, List.mem_flatMap, List.mem_cons, List.not_mem_nil, or_false]
        exact ⟨e', hm, hi.imp Eq.symm Eq.symm⟩
      exact ⟨hoe _ _ _ _ (h.el e' hm).1 (fun i hi hj => hdj.1 _ (h1 i (.inl hi)) i hj rfl), hoe _ _ _ _ (h.el e' hm).2 (fun i hi hj => hdj.1 _ (h1 i (.inr hi)) i hj rfl)⟩
    · simp only [List.mem_singleton] at hm
      subst hm
      exact ⟨Own.mono (hoe _ _ _ _ hk (fun i hi hj => by have := hx i (.inl hi); have := hlt i (.inl hj); omega)) hB, Own.mono (hoe _ _ _ _ hv (fun i hi hj => by have := hx i (.inr hi); have := hlt i (.inl hj); omega)) hB⟩
  · have hb : bks (es ++ [e]) = bks es ++ [blk e.ka, blk e.va] := by simp [bks]
    rw [hb]
    simp only [Dis, List.pairwise_cons, List.pairwise_append]
    refine ⟨?_, hdj.2, ?_, ?_⟩
    · intro x hm i hi hj
      subst hj
      rcases List.mem_append.1 hm with hm | hm
      · rcases ha' i hi with h1 | h1
        · exact hdj.1 _ hm i h1 rfl
        · have := h.bl hm; omega
      · simp only [List.mem_cons, List.not_mem_nil, or_false] at hm
        have h2 := hx i (hm.imp Eq.symm Eq.symm)
        rcases ha' i hi with h1 | h1
        · have := hlt i (.inl h1); omega
        · omega
    · refine ⟨?_, ?_, List.Pairwise.nil⟩
      · intro x hm i hi hj
        simp only [List.mem_singleton] at hm
        subst hm
        exact hd i hi hj
      · intro x hm; cases hm
    · intro x hm y hn i hi hj
      subst hi
      simp only [List.mem_cons, List.not_mem_nil, or_false] at hn
      have h2 := hx i (hn.imp (fun z => by rw [← z]; exact hj) (fun z => by rw [← z]; exact hj))
      have := hlt i (.inr hm)
      omega
end Go.Sx
namespace Go.Sx
open Go
section
variable {P : Program} {ρ : Option Nat} {ops : Array Oper} {Q : Exit → Act → World → Prop} {S : World → Prop} {B : List Nat}
/-- None of these has come up. -/
def frB (B : List Nat) (listed : Array Bool) : Prop := ∀ b ∈ B, listed.getD b true = false
theorem getD_grow {listed : Array Bool} {i b : Nat} (h : (listed.setIfInBounds i true).getD b true = false) : listed.getD b true = false := by
  by_cases hb : i = b
  · subst hb
    simp only [Array.getD_eq_getD_getElem?, Array.getElem?_setIfInBounds_self] at h ⊢
    split at h
    · simp at h
    · rename_i hn
      rw [Array.getElem?_eq_none (by omega)]
      exact h
  · simpa only [Array.getD_eq_getD_getElem?, Array.getElem?_setIfInBounds_ne hb] using h
theorem getD_other {listed : Array Bool} {i b : Nat} (hb : i ≠ b) : (listed.setIfInBounds i true).getD b true = listed.getD b true := by
  simp only [Array.getD_eq_getD_getElem?, Array.getElem?_setIfInBounds_ne hb]
theorem frB_grow {listed : Array Bool} {i : Nat} (h : frB B (listed.setIfInBounds i true)) : frB B listed := fun b hb => getD_grow (h b hb)
theorem frB_other {listed : Array Bool} {i : Nat} (hi : i ∉ B) (h : frB B listed) : frB B (listed.setIfInBounds i true) := fun b hb => by
  rw [getD_other (fun e => by rw [e] at hi; exact hi hb)]
  exact h b hb
theorem frB_not {listed : Array Bool} {i : Nat} (hi : i ∈ B) : ¬ frB B (listed.setIfInBounds i true) := fun h => by
  have := h i hi
  simp only [Array.getD_eq_getD_getElem?, Array.getElem?_setIfInBounds_self] at this
  split at this
  · simp at this
  · simp at this
def wpAnyB (ρ : Option Nat) (P : Program) (ops : Array Oper) (Q : Exit → Act → World → Prop) (S : World → Prop) (B : List Nat) : Nat → Array Bool → Act → World → Prop
  | 0, listed, a, w => Region.ready .any ops listed = [] ∧ Q .normal a w
  | fuel + 1, listed, a, w =>
    (Region.ready .any ops listed = [] → Q .normal a w) ∧
    ∀ i ∈ Region.ready .any ops listed, wpOp ρ P ops Q i (fun a' w' => (frB B (listed.setIfInBounds i true) → S w') ∧ wpAnyB ρ P ops Q S B fuel (listed.setIfInBounds i true) a' w') a w
theorem wpAny_of_B : ∀ (fuel : Nat) (listed : Array Bool) (a : Act) (w : World), wpAnyB ρ P ops Q S B fuel listed a w → wpAnyIn (fR ρ) 0 P .any ops Q fuel listed a w
  | 0, _, _, _, h => h
  | fuel + 1, _, _, _, h => ⟨h.1, fun i hi => wpOp_mono (fun a' w' h' => wpAny_of_B fuel _ a' w' h'.2) (h.2 i hi)⟩
/-- Behind the first of these nothing is asked any more. -/
theorem wpAnyB_late {S0 : World → Prop} : ∀ (fuel : Nat) (listed : Array Bool) (a : Act) (w : World), ¬ frB B listed → wpAnyH ρ P .any ops Q S0 fuel listed a w → wpAnyB ρ P ops Q S B fuel listed a w
  | 0, _, _, _, _, h => h
  | fuel + 1, _, _, _, hn, h => ⟨h.1, fun i hi => wpOp_mono (fun a' w' h' => ⟨fun g => absurd (frB_grow g) hn, wpAnyB_late fuel _ a' w' (fun g => hn (frB_grow g)) h'.2⟩) (h.2 i hi)⟩
theorem wpAnyB_turn {S0 : World → Prop} {fuel : Nat} {listed : Array Bool} {a : Act} {w : World} (hr : ∀ i ∈ Region.ready .any ops listed, i ∈ B) (h : wpAnyH ρ P .any ops Q S0 (fuel + 1) listed a w) : wpAnyB ρ P ops Q S B (fuel + 1) listed a w :=
  ⟨h.1, fun i hi => wpOp_mono (fun a' w' h' => ⟨fun g => absurd g (frB_not (hr i hi)), wpAnyB_late fuel _ a' w' (frB_not (hr i hi)) h'.2⟩) (h.2 i hi)⟩
/-- What has come up has all come up that it waits for. -/
def clo (ops : Array Oper) (listed : Array Bool) : Prop := ∀ j ob, ops[j]? = some ob → listed.getD j false = true → ∀ e ∈ ob.after, Region.binds .any e = true → listed.getD e.on false = true
theorem getDf_grow {listed : Array Bool} {i k : Nat} (h : listed.getD k false = true) : (listed.setIfInBounds i true).getD k false = true := by
  by_cases hk : i = k
  · subst hk
    simp only [Array.getD_eq_getD_getElem?, Array.getElem?_setIfInBounds_self] at h ⊢
    split
    · rfl
    · rename_i hn
      rw [Array.getElem?_eq_none (by omega)] at h
      exact h
  · simpa only [Array.getD_eq_getD_getElem?, Array.getElem?_setIfInBounds_ne hk] using h
theorem clo_step {listed : Array Bool} {i : Nat} (h : clo ops listed) (hi : i ∈ Region.ready .any ops listed) : clo ops (listed.setIfInBounds i true) := by
  obtain ⟨_, oi, hoi, hall⟩ := mem_ready.1 hi
  intro j ob hob hj e he hb
  by_cases hji : i = j
  · subst hji
    rw [hoi] at hob
    cases hob
    exact getDf_grow (hall e he hb)
  · refine getDf_grow (h j ob hob ?_ e he hb)
    simpa only [Array.getD_eq_getD_getElem?, Array.getElem?_setIfInBounds_ne hji] using hj
def waits (ops : Array Oper) : Nat → Nat → Nat → Bool
  | 0, _, _ => false
  | f + 1, b, i => match ops[b]? with
    | some o => o.after.toList.any fun e => Region.binds .any e && (Nat.beq e.on i || waits ops f e.on i)
    | none => false
theorem waits_spec {listed : Array Bool} (hc : clo ops listed) {i : Nat} : ∀ (f b : Nat), (∀ ob, ops[b]? = some ob → ∀ e ∈ ob.after, Region.binds .any e = true → listed.getD e.on false = true) → waits ops f b i = true → listed.getD i false = true
  | 0, _, _, h => by simp [waits] at h
  | f + 1, b, hb, h => by
    rw [waits] at h
    split at h
    · rename_i o ho
      obtain ⟨e, he, h2⟩ := List.any_eq_true.1 h
      simp only [Bool.and_eq_true, Bool.or_eq_true] at h2
      have h3 := hb o ho e (Array.mem_toList_iff.1 he) h2.1
      rcases h2.2 with h4 | h4
      · rw [← Nat.eq_of_beq_eq_true h4]; exact h3
      · exact waits_spec hc f e.on (fun ob hob => hc _ ob hob h3) h4
    · cases h
/-- What only looks may be taken first, if those of B wait for it. -/
theorem wpAnyB_first {i : Nat} {oi : Oper} {v : Value} (hi : ops[i]? = some oi) (hsel : ∀ (j : Nat) (o : Oper) cs b, ops[j]? = some o → o.op ≠ .select cs b) (hdf : ∀ (j : Nat) (o : Oper), ops[j]? = some o → ∀ c, o.op ≠ .defer c)
    (hQ : ∀ c a w, Q (.panic c) (a.put oi.dst v) w → Q (.panic c) a w) (hiB : i ∉ B) (hB : ∀ b ∈ B, waits ops ops.size b i = true) :
    ∀ (fuel : Nat) (listed : Array Bool) (a : Act) (w : World),
      (∀ j oj, ops[j]? = some oj → j ≠ i → listed.getD j true = false → (∀ e ∈ oj.after, Region.binds .any e = true → e.on ≠ i) → oi.apart ops oj = true) →
      i ∈ Region.ready .any ops listed → YieldsIf P ops S oi v a → frB B listed → clo ops listed → S w →
      wpAnyB ρ P ops Q S B fuel (listed.setIfInBounds i true) (a.put oi.dst v) w → wpAnyB ρ P ops Q S B (fuel + 1) listed a w := by
  intro fuel
  induction fuel with
  | zero =>
    intro listed a w _ hr hy _ _ hS H
    refine ⟨fun h => (by rw [h] at hr; cases hr), fun j hj => ?_⟩
    by_cases hji : j = i
    · subst hji; exact yi_wpOp hi hy hS ⟨fun _ => hS, H⟩
    · have := ready_mono hj hji
      rw [H.1] at this
      cases this
  | succ fuel ih =>
    intro listed a w hfree hr hy hF hC hS H
    refine ⟨fun h => (by rw [h] at hr; cases hr), fun j hj => ?_⟩
    by_cases hji : j = i
    · subst hji; exact yi_wpOp hi hy hS ⟨fun _ => hS, H⟩
    · have h1 := H.2 j (ready_mono hj hji)
      obtain ⟨hjun, oj, hoj, hall⟩ := mem_ready.1 hj
      have hnot : ∀ e ∈ oj.after, Region.binds .any e = true → e.on ≠ i := fun e he hb heq => by
        have h1 := hall e he hb
        have h0 := (mem_ready.1 hr).1
        rw [heq] at h1
        rcases Nat.lt_or_ge i listed.size with h' | h'
        · simp [h'] at h0 h1; rw [h0] at h1; cases h1
        · simp [Array.getElem?_eq_none h'] at h1
      have hjB : j ∉ B := fun hb => by
        have h1 := waits_spec hC _ j (fun ob hob => by rw [hoj] at hob; cases hob; exact hall) (hB j hb)
        have h0 := (mem_ready.1 hr).1
        rcases Nat.lt_or_ge i listed.size with h' | h'
        · simp [h'] at h0 h1; rw [h0] at h1; cases h1
        · simp [Array.getElem?_eq_none h'] at h1
      have hF' : frB B (listed.setIfInBounds j true) := frB_other hjB hF
      have hF'' : frB B ((listed.setIfInBounds i true).setIfInBounds j true) := frB_other hjB (frB_other hiB hF)
      have h2 := wpOp_putIf (S := S) hoj (hfree j oj hoj hji hjun hnot) (fun cs b => hsel i oi cs b hi) (fun cs b => hsel j oj cs b hoj) (hdf j oj hoj) hQ hy h1
      have hfree' : ∀ k ok, ops[k]? = some ok → k ≠ i → (listed.setIfInBounds j true).getD k true = false →
          (∀ e ∈ ok.after, Region.binds .any e = true → e.on ≠ i) → oi.apart ops ok = true := fun k ok hk hki hun hno => hfree k ok hk hki (getD_grow hun) hno
      refine wpOp_mono (fun a' w' h3 => ⟨fun _ => h3.2.1 hF'', ih (listed.setIfInBounds j true) a' w' hfree' (ready_mono hr (Ne.symm hji)) h3.1 hF' (clo_step hC hj) (h3.2.1 hF'') ?_⟩) h2
      rw [Array.setIfInBounds_comm _ _ hji]
      exact h3.2.2
/-- The orders of the first part: those of B wait for all that is taken first; it ends where the same have come up. -/
def chkPre (ops : Array Oper) (B : List Nat) (L1 : Array Bool) : It → Bool → Array Bool → Bool
  | .nil, top, listed => top && (listed == L1)
  | .one true i r, top, listed => top && (ops[i]?).isSome && Region.free .any ops listed i && (Region.ready .any ops listed).contains i && !B.contains i && (B.all fun b => waits ops ops.size b i) && chkPre ops B L1 r true (listed.setIfInBounds i true)
  | .one false i r, top, listed => (ops[i]?).isSome && (!top || Region.ready .any ops listed == [i]) && !B.contains i && chkPre ops B L1 r true (listed.setIfInBounds i true)
  | .alt r s, top, listed => (!top || Region.ready .any ops listed == r.heads ++ s.heads) && chkPre ops B L1 r false listed && chkPre ops B L1 s false listed
theorem pre_heads (ops : Array Oper) (B : List Nat) (L1 : Array Bool) : ∀ (π : It) (listed : Array Bool), chkPre ops B L1 π false listed = true → π.heads ≠ []
  | .nil, _, h => by simp [chkPre] at h
  | .one _ _ _, _, _ => by simp [It.heads]
  | .alt r s, listed, h => by
    simp only [chkPre, Bool.and_eq_true] at h
    intro e
    exact pre_heads ops B L1 r listed h.1.2 (List.append_eq_nil_iff.1 e).1
theorem op_Q {o : Oper} {a : Act} {w : World} {K : Act → World → Prop} {Q1 : Exit → Act → World → Prop} (hp : ∀ c a w, Q1 (.panic c) a w → Q (.panic c) a w) (ho : LetsOut Q1 → LetsOut Q) (hh : o.wpIn (fR ρ) 0 P a w K Q1) : o.wpIn (fR ρ) 0 P a w K Q := by
  refine ⟨fun _ _ => trivial, ?_⟩
  have hh := hh.2
  generalize (o.semAt (fR ρ).round a.eval).run P w = r at *
  cases r with
  | ok n w' =>
    cases n <;> simp only [Oper.uponIn] at hh ⊢ <;> first | exact hh | skip
    case enter f args =>
      exact ⟨hh.1, hh.2.mono fun e w'' he => by cases e <;> first | exact hp _ _ _ he | exact ho he | exact he⟩
    case round l f tmps assign body =>
      exact ⟨hh.1, hh.2.mono fun e w'' he => by cases e <;> first | exact hp _ _ _ he | exact ho he | exact he⟩
  | halt x w' =>
    cases x <;> simp only [Oper.uponIn] at hh ⊢ <;> first | exact hp _ _ _ hh | exact hh
theorem pre_of_WL {Q1 : Exit → Act → World → Prop} {k : Nat} {L1 : Array Bool} (hs : Region.noSelect ops = true) (hnd : noDefer ops.toList = true) (hQ : ∀ (i : Nat) (o : Oper), ops[i]? = some o → ∀ (c : List PanicEntry) (a : Act) (v : Value) (w : World), Q (.panic c) (Act.put a o.dst v) w → Q (.panic c) a w)
    (hbar : ∀ a w, S w → Q1 .normal a w → wpAnyB ρ P ops Q S B k L1 a w) (hp : ∀ c a w, Q1 (.panic c) a w → Q (.panic c) a w) (ho : LetsOut Q1 → LetsOut Q) :
    ∀ (π : It) (listed : Array Bool) (a : Act) (w : World), π.level = true → S w → frB B listed → clo ops listed → WL ρ (held S) P ops Q1 (ordered ops π) a w →
      (chkPre ops B L1 π true listed = true → wpAnyB ρ P ops Q S B (π.depth + k) listed a w) ∧
      (chkPre ops B L1 π false listed = true → 0 < π.depth ∧ ∀ i ∈ π.heads, i ∈ Region.ready .any ops listed → wpOp ρ P ops Q i (fun a' w' => (frB B (listed.setIfInBounds i true) → S w') ∧ wpAnyB ρ P ops Q S B (π.depth - 1 + k) (listed.setIfInBounds i true) a' w') a w)
  | .nil, listed, a, w, _, hS, _, _, h => by
    refine ⟨fun hc => ?_, fun hc => by simp [chkPre] at hc⟩
    simp only [chkPre, Bool.true_and] at hc
    rw [show listed = L1 from eq_of_beq hc]
    show wpAnyB ρ P ops Q S B (0 + k) L1 a w
    rw [Nat.zero_add]
    exact hbar a w hS h
  | .one true i r, listed, a, w, hl, hS, hF, hC, h => by
    refine ⟨fun hc => ?_, fun hc => by simp [chkPre] at hc⟩
    simp only [chkPre, Bool.true_and, Bool.and_eq_true] at hc
    obtain ⟨⟨⟨⟨⟨h1, h2⟩, h3⟩, h5⟩, h6⟩, h4⟩ := hc
    obtain ⟨o, hoo⟩ := Option.isSome_iff_exists.1 h1
    have hiB : i ∉ B := by simpa using h5
    have hB : ∀ b ∈ B, waits ops ops.size b i = true := fun b hb => List.all_eq_true.1 h6 b hb
    have hR : i ∈ Region.ready .any ops listed := by simpa using h3
    simp only [ordered, hoo, WL] at h
    have ih := fun a w hS h => (pre_of_WL hs hnd hQ hbar hp ho r (listed.setIfInBounds i true) a w hl hS (frB_other hiB hF) (clo_step hC hR) h).1 h4
    have e : (It.one true i r).depth + k = (r.depth + k) + 1 := by simp only [It.depth]; omega
    rw [e]
    split at h
    · rename_i hw
      rcases h with ⟨v, hv, hr⟩ | ⟨hb, _⟩
      · exact wpAnyB_first hoo (Region.noSelect_spec hs) (noDefer_spec hnd) (fun c a w => hQ _ _ hoo c a v w) hiB hB _ _ _ _ (Region.free_spec hoo h2) hR (.inl ⟨hw, hv⟩) hF hC hS (ih _ _ hS hr)
      · simp [held] at hb
    · rename_i hw
      exact wpAnyB_first hoo (Region.noSelect_spec hs) (noDefer_spec hnd) (fun c a w => hQ _ _ hoo c a undef w) hiB hB _ _ _ _ (Region.free_spec hoo h2) hR (.inr ⟨by simpa using hw, rfl⟩) hF hC hS (ih _ _ hS h)
  | .one false i r, listed, a, w, hl, hS, hF, hC, h => by
    have key : (ops[i]?).isSome = true → i ∉ B → i ∈ Region.ready .any ops listed → chkPre ops B L1 r true (listed.setIfInBounds i true) = true →
        wpOp ρ P ops Q i (fun a' w' => (frB B (listed.setIfInBounds i true) → S w') ∧ wpAnyB ρ P ops Q S B (r.depth + k) (listed.setIfInBounds i true) a' w') a w := by
      intro h1 hiB hR h4
      obtain ⟨o, hoo⟩ := Option.isSome_iff_exists.1 h1
      simp only [ordered, hoo, WL] at h
      have ih := fun a w hS h => (pre_of_WL hs hnd hQ hbar hp ho r (listed.setIfInBounds i true) a w hl hS (frB_other hiB hF) (clo_step hC hR) h).1 h4
      unfold Sx.wpOp wpOpIn
      simp only [hoo]
      split at h
      · rename_i hw
        rw [if_pos hw]
        rcases h with ⟨v, hv, hr⟩ | ⟨_, hr⟩
        · exact op_value (hv w hS) ⟨fun _ => hS, ih _ _ hS hr⟩
        · exact op_Q hp ho (op_mono (fun _ _ h => ⟨fun _ => h.1, ih _ _ h.1 h.2⟩) hr)
      · rename_i hw
        rw [if_neg hw]
        exact ⟨fun _ _ => trivial, fun _ => hS, ih _ _ hS h⟩
    refine ⟨fun hc => ?_, fun hc => ?_⟩
    · simp only [chkPre, Bool.not_true, Bool.false_or, Bool.and_eq_true, beq_iff_eq] at hc
      obtain ⟨⟨⟨h1, h2⟩, h5⟩, h4⟩ := hc
      have e : (It.one false i r).depth + k = (r.depth + k) + 1 := by simp only [It.depth]; omega
      rw [e]
      refine ⟨fun h0 => ?_, fun j hj => ?_⟩
      · rw [h2] at h0; cases h0
      · have hj' := hj
        rw [h2, List.mem_singleton] at hj
        subst hj
        exact key h1 (by simpa using h5) hj' h4
    · simp only [chkPre, Bool.not_false, Bool.true_or, Bool.and_true, Bool.and_eq_true] at hc
      refine ⟨by simp [It.depth], fun j hj hR => ?_⟩
      simp only [It.heads, List.mem_singleton] at hj
      subst hj
      exact key hc.1.1 (by simpa using hc.1.2) hR hc.2
  | .alt r s, listed, a, w, hl, hS, hF, hC, h => by
    simp only [It.level, Bool.and_eq_true, beq_iff_eq] at hl
    obtain ⟨⟨hd, hr⟩, hs'⟩ := hl
    have hdep : (It.alt r s).depth = r.depth := by simp [It.depth, hd]
    have k1 := (pre_of_WL hs hnd hQ hbar hp ho r listed a w hr hS hF hC h.1).2
    have k2 := (pre_of_WL hs hnd hQ hbar hp ho s listed a w hs' hS hF hC h.2).2
    have both : chkPre ops B L1 r false listed = true → chkPre ops B L1 s false listed = true → 0 < (It.alt r s).depth ∧ ∀ i ∈ r.heads ++ s.heads, i ∈ Region.ready .any ops listed →
        wpOp ρ P ops Q i (fun a' w' => (frB B (listed.setIfInBounds i true) → S w') ∧ wpAnyB ρ P ops Q S B ((It.alt r s).depth - 1 + k) (listed.setIfInBounds i true) a' w') a w := by
      intro c1 c2
      rw [hdep]
      refine ⟨(k1 c1).1, fun i hi hR => ?_⟩
      rcases List.mem_append.1 hi with hi | hi
      · exact (k1 c1).2 i hi hR
      · rw [hd]; exact (k2 c2).2 i hi hR
    refine ⟨fun hc => ?_, fun hc => ?_⟩
    · simp only [chkPre, Bool.not_true, Bool.false_or, Bool.and_eq_true, beq_iff_eq] at hc
      obtain ⟨⟨h1, h2⟩, h3⟩ := hc
      obtain ⟨g1, g2⟩ := both h2 h3
      have e : (It.alt r s).depth + k = ((It.alt r s).depth - 1 + k) + 1 := by omega
      rw [e]
      refine ⟨fun h0 => ?_, fun j hj => g2 j (by rw [← h1]; exact hj) hj⟩
      exfalso
      rw [h0] at h1
      have h8 := (k1 h2).1
      cases r with
      | nil => simp [It.depth] at h8
      | one b i r' => simp [It.heads] at h1
      | alt r1 r2 =>
        have := (List.append_eq_nil_iff.1 h1.symm).1
        exact pre_heads ops B L1 _ listed h2 this
    · simp only [chkPre, Bool.not_false, Bool.true_or, Bool.true_and, Bool.and_eq_true] at hc
      exact both hc.1 hc.2
end
/-- Where the first part ends, the second begins. -/
def BarQ (ρ : Option Nat) (P : Program) (ops : Array Oper) (S0 : World → Prop) (π : It) (Q : Exit → Act → World → Prop) : Exit → Act → World → Prop
  | .normal, a, w => WL ρ (held S0) P ops Q (ordered ops π) a w
  | e, a, w => Q e a w
section
variable {P : Program} {n : Nat} {ds : Dx} {Q : Exit → Act → World → Prop} {l : List (Nat × Value)} {w : World}
def okU (ops : Array Oper) (π1 π2 : It) (B : List Nat) (L1 : Array Bool) : Bool :=
  Region.noSelect ops && (noDefer ops.toList && ((π1.depth + π2.depth == ops.size) && (π1.level && (π2.level && (chkPre ops B L1 π1 true (Array.replicate ops.size false) && (chkOrder ops π2 true L1 && (B.all (fun b => Nat.blt b ops.size) && ((Region.ready .any ops L1).all B.contains && Nat.blt 0 π2.depth))))))))
theorem c_drawU {id : Nat} {lo : List Oper} (S S0 : World → Prop) (π1 π2 : It) (B : List Nat) (L1 : Array Bool) (hm : P.follows .mixedOrders = true) (hc : okU lo.toArray π1 π2 B L1 = true) (hS : S w.drew) (h0 : ∀ w, S w → S0 w)
    (h : LJ (held S) P n ds lo.toArray (BarQ ds.r P lo.toArray S0 π2 (NoPan Q)) (ordered lo.toArray π1) l w.drew) : CJ P n ds (.region id lo.toArray true) Q l w := by
  refine .mk fun a ha => ?_
  simp only [okU, Bool.and_eq_true, beq_iff_eq] at hc
  obtain ⟨c1, cd, c2, c3, c4, c5, c6, c7, c8, c9⟩ := hc
  refine Code.wpIn_mono (Q := NoPan Q) (fun e _ _ h => by cases e <;> first | exact h | exact (h : False).elim) ?_
  have hF : frB B (Array.replicate lo.toArray.size false) := fun b hb => by
    have : b + 1 ≤ lo.toArray.size := Nat.le_of_ble_eq_true (List.all_eq_true.1 c7 b hb)
    have h2 : b < lo.toArray.size := this
    rw [Array.getD_eq_getD_getElem?, Array.getElem?_replicate, if_pos h2]
    rfl
  have key := (pre_of_WL (P := P) (Q := NoPan Q) (S := S) (B := B) (Q1 := BarQ ds.r P lo.toArray S0 π2 (NoPan Q)) (k := π2.depth) (L1 := L1) c1 cd (fun _ _ _ _ _ _ _ h => h) (fun a w hw h1 => by
    have h2 := (wpAnyH_of_WL (P := P) (Q := NoPan Q) (S := S0) c1 cd (fun _ _ _ _ _ _ _ h => h) π2 L1 a w c4 (h0 w hw) h1).1 c6
    obtain ⟨k, hk⟩ : ∃ k, π2.depth = k + 1 := ⟨π2.depth - 1, by have : 0 + 1 ≤ π2.depth := Nat.le_of_ble_eq_true c9; omega⟩
    rw [hk] at h2 ⊢
    exact wpAnyB_turn (fun i hi => by simpa using List.all_eq_true.1 c8 i hi) h2) (fun _ _ _ h => h) (fun ⟨a, w, h⟩ => ⟨a, w, h⟩) π1 _ a w.drew c3 hS hF (fun j ob _ hj => by
    exfalso
    rw [Array.getD_eq_getD_getElem?, Array.getElem?_replicate] at hj
    split at hj <;> cases hj) (h.out a ha)).1 c5
  rw [c2] at key
  exact wpIn_region_any hm (wpAny_of_B _ _ _ _ key)
theorem q_bar {ops : Array Oper} {S0 : World → Prop} {π : It} (h : LJ (held S0) P n ds ops Q (ordered ops π) l w) : QJ n ds (BarQ ds.r P ops S0 π Q) .normal l w := .mk fun a ha => h.out a ha
end
end Go.Sx

