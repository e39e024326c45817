/- A small calculus of own make for walks: frames as short lists of known slots, one judgement for regions in the text's order and for regions that draw their order. -/
import Derived.WalkKit
import Derived.OrdersHeld
import Derived.Deep.LoopGhost
namespace Go.Sx
open Go

/-- What a list of known slots says of slot t. -/
def look : List (Nat × Value) → Nat → Option Value
  | [], _ => none
  | (i, v) :: l, t => bif Nat.beq i t then some v else look l t

/-- The frame has n slots, these deferred calls, and at least what the list says. -/
structure FrOk (n : Nat) (ds : List Deferred) (l : List (Nat × Value)) (a : Act) : Prop where
  size : a.tmps.size = n
  defers : a.defers = ds
  has : ∀ t v, look l t = some v → a.tmps[t]? = some v

/-- The value of an operand, as far as the list tells it. -/
def ev (l : List (Nat × Value)) : Operand → Option Value
  | .tmp t => look l t
  | .const v => some v
  | .global g => some (.pointer (some ⟨g, 0, none⟩))
  | .func f => some (.func (.func f) #[] #[])

def Agr (l : List (Nat × Value)) (ρ : Operand → Value) : Prop := ∀ x v, ev l x = some v → ρ x = v

theorem FrOk.agr {n : Nat} {ds : List Deferred} {l : List (Nat × Value)} {a : Act} (h : FrOk n ds l a) : Agr l a.eval := by
  intro x v hx
  cases x with
  | tmp t =>
    have := h.has t v hx
    simp [Act.eval, Array.getD_eq_getD_getElem?, this]
  | const u => exact Option.some.inj hx
  | global g => exact Option.some.inj hx
  | func f => exact Option.some.inj hx

theorem FrOk.put {n : Nat} {ds : List Deferred} {l : List (Nat × Value)} {a : Act} (h : FrOk n ds l a) {d : Nat} (v : Value) (hd : Nat.blt d n = true) :
    FrOk n ds ((d, v) :: l) (a.put (some d) v) := by
  have hd' : d < a.tmps.size := by rw [h.size]; simpa using hd
  refine ⟨by simp [Act.put, h.size], by simp [Act.put, h.defers], ?_⟩
  intro t u ht
  simp only [look, Act.put] at *
  by_cases e : d = t
  · subst e
    simp at ht
    subst ht
    simp [hd']
  · have hb : Nat.beq d t = false := by rw [← Bool.not_eq_true, Nat.beq_eq]; exact e
    rw [hb] at ht
    simp only [cond_false] at ht
    rw [Array.getElem?_setIfInBounds_ne e]
    exact h.has t u ht

theorem FrOk.put_none {n : Nat} {ds : List Deferred} {l : List (Nat × Value)} {a : Act} (h : FrOk n ds l a) (v : Value) :
    FrOk n ds l (a.put none v) := h

/-- The first list says no more than the second. -/
def Sub (l : List (Nat × Value)) (l' : List (Nat × Value)) : Prop :=
  match l with
  | [] => True
  | (t, v) :: r => look l' t = some v ∧ Sub r l'

theorem Sub.look {l' : List (Nat × Value)} : ∀ {l : List (Nat × Value)}, Sub l l' → ∀ t v, Sx.look l t = some v → Sx.look l' t = some v
  | [], _, t, v, h => by simp [Sx.look] at h
  | (i, u) :: r, hs, t, v, h => by
    obtain ⟨h1, h2⟩ := hs
    simp only [Sx.look] at h
    by_cases e : i = t
    · subst e; simp at h; subst h; exact h1
    · have hb : Nat.beq i t = false := by rw [← Bool.not_eq_true, Nat.beq_eq]; exact e
      rw [hb] at h
      exact Sub.look h2 t v h

theorem FrOk.sub {n : Nat} {ds : List Deferred} {l l' : List (Nat × Value)} {a : Act} (h : FrOk n ds l a) (hs : Sub l' l) : FrOk n ds l' a :=
  ⟨h.size, h.defers, fun t v ht => h.has t v (hs.look t v ht)⟩

/-! ### The walk of a region's operations -/

/-- How a region is walked: which worlds an operation that only looks must serve; what must be shown behind one that acts; may every operation act? -/
structure Mode where
  cls : World → World → Prop
  chk : World → Prop
  any : Bool

def seq : Mode := ⟨fun w w' => w' = w, fun _ => True, true⟩
def held (S : World → Prop) : Mode := ⟨fun _ w' => S w', S, false⟩

/-- Operations to come: one behind the other; or whichever of several ways comes up. -/
inductive Tr where
  | nil
  | one (b : Bool) (o : Oper) (r : Tr)
  | alt (r s : Tr)
@[reducible] def Tr.ofList : List Oper → Tr
  | [] => .nil
  | o :: r => .one true o (Tr.ofList r)
def WL (M : Mode) (P : Program) (ops : Array Oper) (Q : Exit → Act → World → Prop) : Tr → Act → World → Prop
  | .nil, a, w => Q .normal a w
  | .alt r s, a, w => WL M P ops Q r a w ∧ WL M P ops Q s a w
  | .one b o rest, a, w =>
    if Region.wanted o (yielded ops a.tmps) = true then
      (∃ v, (∀ w', M.cls w w' → (execOp a.eval o).run P w' = .ok (.value v) w') ∧ WL M P ops Q rest (a.put o.dst v) w) ∨
      ((M.any = true ∨ b = false) ∧ o.wp P a w (fun a' w' => M.chk w' ∧ WL M P ops Q rest a' w') Q)
    else WL M P ops Q rest (a.put o.dst undef) w

theorem Oper.wp_mono' {P : Program} {o : Oper} {a : Act} {w : World} {K K' : Act → World → Prop} {Q : Exit → Act → World → Prop}
    (h : ∀ a w, K a w → K' a w) (hh : o.wp P a w K Q) : o.wp P a w K' Q := by
  unfold Oper.wp at *
  generalize (execOp a.eval o).run P w = r at *
  cases r with
  | ok x w' =>
    cases x <;> simp only [Oper.upon] at hh ⊢ <;> first | exact h _ _ hh | exact hh.elim | skip
    case enter f args =>
      exact hh.mono fun e w'' he => by cases e <;> first | exact h _ _ he | exact he
    case row r args =>
      exact hh.mono fun e w'' he => h _ _ he
  | halt x w' =>
    cases x <;> simp only [Oper.upon] at hh ⊢ <;> exact hh

theorem wpList_of_WL {P : Program} {ops : Array Oper} {Q : Exit → Act → World → Prop} :
    ∀ (l : List Oper) (a : Act) (w : World), WL seq P ops Q (Tr.ofList l) a w → wpList P ops Q l a w
  | [], a, w, h => h
  | o :: rest, a, w, h => by
    simp only [WL] at h
    unfold wpList
    split
    · rename_i hw
      rw [if_pos hw] at h
      refine .inl ?_
      rcases h with ⟨v, hv, hr⟩ | ⟨_, hr⟩
      · unfold Oper.wp
        rw [hv w rfl]
        exact wpList_of_WL rest _ _ hr
      · exact Oper.wp_mono' (fun _ _ h => wpList_of_WL rest _ _ h.2) hr
    · rename_i hw
      rw [if_neg hw] at h
      exact wpList_of_WL rest _ _ h

/-- Orders, by the operations' numbers. -/
inductive It where
  | nil
  | one (b : Bool) (i : Nat) (r : It)
  | alt (r s : It)
def It.heads : It → List Nat
  | .nil => []
  | .one _ i _ => [i]
  | .alt r s => r.heads ++ s.heads
/-- Orders in which what only looks is taken as soon as it may, and each thing that acts and may come up has its way. The Bool: may a single act stand for all that is ready? -/
def chkOrder (ops : Array Oper) : It → Bool → Array Bool → Bool
  | .nil, top, listed => top && (Region.ready .any ops listed).isEmpty
  | .one true i r, top, listed => top && (ops[i]?).isSome && Region.free .any ops listed i && (Region.ready .any ops listed).contains i && chkOrder ops r true (listed.setIfInBounds i true)
  | .one false i r, top, listed => (ops[i]?).isSome && (!top || Region.ready .any ops listed == [i]) && chkOrder ops r true (listed.setIfInBounds i true)
  | .alt r s, top, listed => (!top || Region.ready .any ops listed == r.heads ++ s.heads) && chkOrder ops r false listed && chkOrder ops s false listed
def It.depth : It → Nat
  | .nil => 0
  | .one _ _ r => r.depth + 1
  | .alt r s => if r.depth = s.depth then r.depth else 0
def It.level : It → Bool
  | .nil => true
  | .one _ _ r => r.level
  | .alt r s => (r.depth == s.depth) && r.level && s.level
/-- The region's operations in these orders. -/
@[reducible] def ordered (ops : Array Oper) : It → Tr
  | .nil => .nil
  | .one b i r => match ops[i]? with
    | some o => .one b o (ordered ops r)
    | none => .nil
  | .alt r s => .alt (ordered ops r) (ordered ops s)

theorem chk_heads (ops : Array Oper) : ∀ (π : It) (listed : Array Bool), chkOrder ops π false listed = true → π.heads ≠ []
  | .nil, _, h => by simp [chkOrder] at h
  | .one _ _ _, _, _ => by simp [It.heads]
  | .alt r s, listed, h => by
    simp only [chkOrder, Bool.and_eq_true] at h
    intro e
    exact chk_heads ops r listed h.1.2 (List.append_eq_nil_iff.1 e).1
theorem chk_level (ops : Array Oper) : ∀ (π : It) (listed : Array Bool), chkOrder ops π false listed = true → π.level = true → 0 < π.depth
  | .nil, _, h, _ => by simp [chkOrder] at h
  | .one _ _ _, _, _, _ => by simp [It.depth]
  | .alt r s, listed, h, hl => by
    simp only [chkOrder, Bool.and_eq_true] at h
    simp only [It.level, Bool.and_eq_true, beq_iff_eq] at hl
    have := chk_level ops r listed h.1.2 hl.1.2
    simp only [It.depth, hl.1.1, if_true]
    omega

section
variable {P : Program} {ops : Array Oper} {Q : Exit → Act → World → Prop} {S : World → Prop}
theorem WL_one {b : Bool} {o : Oper} {r : Tr} {a : Act} {w : World} (h : WL (held S) P ops Q (.one b o r) a w) (hS : S w) {K : Act → World → Prop}
    (hK : ∀ a w, S w → WL (held S) P ops Q r a w → K a w) {i : Nat} (ho : ops[i]? = some o) : wpOp P ops Q i K a w := by
  unfold wpOp
  simp only [ho]
  simp only [WL] at h
  split at h
  · rename_i hw
    rw [if_pos hw]
    refine .inl ?_
    rcases h with ⟨v, hv, hr⟩ | ⟨_, hr⟩
    · unfold Oper.wp
      rw [hv w hS]
      exact hK _ _ hS hr
    · exact Oper.wp_mono' (fun _ _ h => hK _ _ h.1 h.2) hr
  · rename_i hw
    rw [if_neg hw]
    exact hK _ _ hS h

theorem wpAnyH_of_WL (hs : Region.noSelect ops = true) (hQ : ∀ (i : Nat) (o : Oper), ops[i]? = some o → ∀ (c : List PanicEntry) (a : Act) (v : Value) (w : World), Q (.panic c) (Act.put a o.dst v) w → Q (.panic c) a w) :
    ∀ (π : It) (listed : Array Bool) (a : Act) (w : World), π.level = true → S w → WL (held S) P ops Q (ordered ops π) a w →
      (chkOrder ops π true listed = true → wpAnyH P .any ops Q S π.depth listed a w) ∧
      (chkOrder ops π false listed = true → ∀ i ∈ π.heads, wpOp P ops Q i (fun a' w' => S w' ∧ wpAnyH P .any ops Q S (π.depth - 1) (listed.setIfInBounds i true) a' w') a w)
  | .nil, listed, a, w, _, _, h => by
    refine ⟨fun hc => ?_, fun _ i hi => by simp [It.heads] at hi⟩
    simp only [chkOrder, Bool.true_and, List.isEmpty_iff] at hc
    exact ⟨hc, h⟩
  | .one true i r, listed, a, w, hl, hS, h => by
    refine ⟨fun hc => ?_, fun hc => by simp [chkOrder] at hc⟩
    simp only [chkOrder, Bool.true_and, Bool.and_eq_true] at hc
    obtain ⟨⟨⟨h1, h2⟩, h3⟩, h4⟩ := hc
    obtain ⟨o, ho⟩ := Option.isSome_iff_exists.1 h1
    simp only [ordered, ho, WL] at h
    have ih := fun a w hS h => (wpAnyH_of_WL hs hQ r (listed.setIfInBounds i true) a w hl hS h).1 h4
    show wpAnyH P .any ops Q S (r.depth + 1) listed a w
    split at h
    · rename_i hw
      rcases h with ⟨v, hv, hr⟩ | ⟨hb, _⟩
      · exact wpAnyH_take ho hs h2 h3 (fun c a w => hQ _ _ ho c a v w) (.inl ⟨hw, hv⟩) hS (ih _ _ hS hr)
      · simp [held] at hb
    · rename_i hw
      exact wpAnyH_take ho hs h2 h3 (fun c a w => hQ _ _ ho c a undef w) (.inr ⟨by simpa using hw, rfl⟩) hS (ih _ _ hS h)
  | .one false i r, listed, a, w, hl, hS, h => by
    have key : (ops[i]?).isSome = true → chkOrder ops r true (listed.setIfInBounds i true) = true →
        wpOp P ops Q i (fun a' w' => S w' ∧ wpAnyH P .any ops Q S r.depth (listed.setIfInBounds i true) a' w') a w := by
      intro h1 h4
      obtain ⟨o, ho⟩ := Option.isSome_iff_exists.1 h1
      simp only [ordered, ho] at h
      exact WL_one h hS (fun a w hS h => ⟨hS, (wpAnyH_of_WL hs hQ r _ a w hl hS h).1 h4⟩) ho
    refine ⟨fun hc => ?_, fun hc => ?_⟩
    · simp only [chkOrder, Bool.not_true, Bool.false_or, Bool.and_eq_true, beq_iff_eq] at hc
      obtain ⟨⟨h1, h2⟩, h4⟩ := hc
      refine wpAnyH_all h2 (by simp) ?_
      intro j hj
      simp only [List.mem_singleton] at hj
      subst hj
      exact key h1 h4
    · simp only [chkOrder, Bool.not_false, Bool.true_or, Bool.and_true, Bool.and_eq_true] at hc
      intro j hj
      simp only [It.heads, List.mem_singleton] at hj
      subst hj
      exact key hc.1 hc.2
  | .alt r s, listed, a, w, hl, hS, h => by
    simp only [It.level, Bool.and_eq_true, beq_iff_eq] at hl
    obtain ⟨⟨hd, hr⟩, hs'⟩ := hl
    have hdep : (It.alt r s).depth = r.depth := by simp [It.depth, hd]
    have k1 := (wpAnyH_of_WL hs hQ r listed a w hr hS h.1).2
    have k2 := (wpAnyH_of_WL hs hQ s listed a w hs' hS h.2).2
    have both : chkOrder ops r false listed = true → chkOrder ops s false listed = true → ∀ i ∈ r.heads ++ s.heads,
        wpOp P ops Q i (fun a' w' => S w' ∧ wpAnyH P .any ops Q S ((It.alt r s).depth - 1) (listed.setIfInBounds i true) a' w') a w := by
      intro c1 c2 i hi
      rw [hdep]
      rcases List.mem_append.1 hi with hi | hi
      · exact k1 c1 i hi
      · rw [hd]; exact k2 c2 i hi
    refine ⟨fun hc => ?_, fun hc => ?_⟩
    · simp only [chkOrder, Bool.not_true, Bool.false_or, Bool.and_eq_true, beq_iff_eq] at hc
      obtain ⟨⟨h1, h2⟩, h3⟩ := hc
      have hne : r.heads ++ s.heads ≠ [] := fun e => chk_heads ops r listed h2 (List.append_eq_nil_iff.1 e).1
      cases hk : (It.alt r s).depth with
      | zero =>
        exfalso
        have := chk_level ops r listed h2 hr
        omega
      | succ k =>
        rw [hk] at both
        exact wpAnyH_all h1 hne (both h2 h3)
    · simp only [chkOrder, Bool.not_false, Bool.true_or, Bool.true_and, Bool.and_eq_true] at hc
      exact both hc.1 hc.2
end

/-! ### Judgements over lists of known slots -/

structure CJ (P : Program) (n : Nat) (ds : List Deferred) (c : Code) (Q : Exit → Act → World → Prop) (l : List (Nat × Value)) (w : World) : Prop where
  out : ∀ a, FrOk n ds l a → c.wp P Q a w
structure QJ (n : Nat) (ds : List Deferred) (Q : Exit → Act → World → Prop) (e : Exit) (l : List (Nat × Value)) (w : World) : Prop where
  out : ∀ a, FrOk n ds l a → Q e a w
structure LJ (M : Mode) (P : Program) (n : Nat) (ds : List Deferred) (ops : Array Oper) (Q : Exit → Act → World → Prop) (rest : Tr) (l : List (Nat × Value)) (w : World) : Prop where
  out : ∀ a, FrOk n ds l a → WL M P ops Q rest a w

section
variable {P : Program} {n : Nat} {ds : List Deferred} {Q : Exit → Act → World → Prop} {l l' : List (Nat × Value)} {w : World}

theorem CJ.sub {c : Code} (h : CJ P n ds c Q l' w) (hs : Sub l' l) : CJ P n ds c Q l w := .mk fun a ha => h.out a (ha.sub hs)
theorem QJ.sub {e : Exit} (h : QJ n ds Q e l' w) (hs : Sub l' l) : QJ n ds Q e l w := .mk fun a ha => h.out a (ha.sub hs)

/-! #### Code -/
theorem c_seq {x y : Code} (h : CJ P n ds x (Exit.then (fun a w => y.wp P Q a w) Q) l w) : CJ P n ds (.seq x y) Q l w :=
  .mk fun a ha => wp_seq (h.out a ha)
theorem c_cond {c : Operand} {x y : Code} {t : Bool} (hc : ev l c = some (.bool t)) (ht : t = true → CJ P n ds x Q l w)
    (hf : t = false → CJ P n ds y Q l w) : CJ P n ds (.cond c x y) Q l w :=
  .mk fun a ha => wp_cond_split (ha.agr _ _ hc) (fun e => (ht e).out a ha) (fun e => (hf e).out a ha)
theorem c_condT {c : Operand} {x y : Code} (hc : ev l c = some (.bool true)) (ht : CJ P n ds x Q l w) : CJ P n ds (.cond c x y) Q l w :=
  .mk fun a ha => wp_cond_true (ha.agr _ _ hc) (ht.out a ha)
theorem c_condF {c : Operand} {x y : Code} (hc : ev l c = some (.bool false)) (hf : CJ P n ds y Q l w) : CJ P n ds (.cond c x y) Q l w :=
  .mk fun a ha => wp_cond_false (ha.agr _ _ hc) (hf.out a ha)
theorem c_if {c : Operand} {x y : Code} {p : Prop} [Decidable p] (hc : ev l c = some (.bool (decide p))) (ht : p → CJ P n ds x Q l w)
    (hf : ¬ p → CJ P n ds y Q l w) : CJ P n ds (.cond c x y) Q l w :=
  c_cond hc (fun h => ht (of_decide_eq_true h)) (fun h => hf (of_decide_eq_false h))
theorem c_ifn {c : Operand} {x y : Code} {p : Prop} [Decidable p] (hc : ev l c = some (.bool (!decide p))) (ht : ¬ p → CJ P n ds x Q l w)
    (hf : p → CJ P n ds y Q l w) : CJ P n ds (.cond c x y) Q l w :=
  c_cond hc (fun h => ht (of_decide_eq_false (by simpa using h))) (fun h => hf (of_decide_eq_true (by simpa using h)))
theorem c_block {id : Nat} {c : Code} (h : CJ P n ds c (Exit.inBlock id Q) l w) : CJ P n ds (.block id c) Q l w := .mk fun a ha => wp_block (h.out a ha)
theorem c_skip (h : QJ n ds Q .normal l w) : CJ P n ds .skip Q l w := .mk fun a ha => wp_skip (h.out a ha)
theorem c_exit {id : Nat} (h : QJ n ds Q (.exit id) l w) : CJ P n ds (.exit id) Q l w := .mk fun a ha => wp_exit (h.out a ha)
theorem c_ret (h : QJ n ds Q .ret l w) : CJ P n ds .ret Q l w := .mk fun a ha => wp_ret (h.out a ha)
theorem c_reg {id : Nat} {lo : List Oper} (h : LJ seq P n ds lo.toArray Q (Tr.ofList lo) l w) : CJ P n ds (.region id lo.toArray false) Q l w :=
  .mk fun a ha => wp_region_lit (wpList_of_WL lo a w (h.out a ha))
/-- A region that draws its order and does not panic. -/
def NoPan (Q : Exit → Act → World → Prop) : Exit → Act → World → Prop
  | .panic _, _, _ => False
  | e, a, w => Q e a w
theorem c_draw {id : Nat} {lo : List Oper} (S : World → Prop) (π : It) (hm : P.follows .mixedOrders = true)
    (hc : (Region.noSelect lo.toArray && (π.depth == lo.toArray.size) && π.level && chkOrder lo.toArray π true (Array.replicate lo.toArray.size false)) = true) (hS : S w.drew)
    (h : LJ (held S) P n ds lo.toArray (NoPan Q) (ordered lo.toArray π) l w.drew) : CJ P n ds (.region id lo.toArray true) Q l w := by
  refine .mk fun a ha => ?_
  simp only [Bool.and_eq_true, beq_iff_eq] at hc
  refine Code.wp_mono (Q := NoPan Q) (fun e _ _ h => by cases e <;> first | exact h | exact (h : False).elim) ?_
  refine wp_region_held (S := S) hm ?_
  have := (wpAnyH_of_WL (P := P) (Q := NoPan Q) hc.1.1.1 (fun _ _ _ _ _ _ _ h => h) π _ a w.drew hc.1.2 hS (h.out a ha)).1 hc.2
  rw [hc.1.1.2] at this
  exact this
/-- The same, where it may panic; behind a panic no more is known of the frame than l0, into which the region does not write. -/
def PanTo (n : Nat) (ds : List Deferred) (l0 : List (Nat × Value)) (E : List PanicEntry → World → Prop) (Q : Exit → Act → World → Prop) : Exit → Act → World → Prop
  | .panic c, a, w => FrOk n ds l0 a ∧ E c w
  | e, a, w => Q e a w
def apart (l0 : List (Nat × Value)) (o : Oper) : Bool := match o.dst with
  | none => true
  | some d => (look l0 d).isNone
theorem FrOk.unput {n : Nat} {ds : List Deferred} {l : List (Nat × Value)} {a : Act} {o : Oper} {v : Value} (hd : apart l o = true) (h : FrOk n ds l (a.put o.dst v)) : FrOk n ds l a := by
  cases ho : o.dst with
  | none => rw [ho] at h; exact h
  | some d =>
    rw [ho] at h
    simp only [apart, ho, Option.isNone_iff_eq_none] at hd
    refine ⟨by have := h.size; simpa [Act.put] using this, by have := h.defers; simpa [Act.put] using this, fun t u ht => ?_⟩
    have := h.has t u ht
    have hne : d ≠ t := by rintro rfl; rw [hd] at ht; cases ht
    simpa [Act.put, Array.getElem?_setIfInBounds_ne hne] using this
theorem c_drawP {id : Nat} {lo : List Oper} (S : World → Prop) (π : It) (hm : P.follows .mixedOrders = true) (l0 : List (Nat × Value)) (E : List PanicEntry → World → Prop)
    (hd : lo.all (apart l0) = true) (hp : ∀ c w', E c w' → QJ n ds Q (.panic c) l0 w')
    (hc : (Region.noSelect lo.toArray && (π.depth == lo.toArray.size) && π.level && chkOrder lo.toArray π true (Array.replicate lo.toArray.size false)) = true) (hS : S w.drew)
    (h : LJ (held S) P n ds lo.toArray (PanTo n ds l0 E Q) (ordered lo.toArray π) l w.drew) : CJ P n ds (.region id lo.toArray true) Q l w := by
  refine .mk fun a ha => ?_
  simp only [Bool.and_eq_true, beq_iff_eq] at hc
  refine Code.wp_mono (Q := PanTo n ds l0 E Q) (fun e _ _ h => by cases e <;> first | exact h | exact (hp _ _ h.2).out _ h.1) ?_
  refine wp_region_held (S := S) hm ?_
  have := (wpAnyH_of_WL (P := P) (Q := PanTo n ds l0 E Q) hc.1.1.1 (fun i o ho c a v w h => ⟨FrOk.unput (by
    rw [List.all_eq_true] at hd
    exact hd o (List.mem_of_getElem? (by simpa using ho))) h.1, h.2⟩) π _ a w.drew hc.1.2 hS (h.out a ha)).1 hc.2
  rw [hc.1.1.2] at this
  exact this
theorem q_panto_normal {l0 : List (Nat × Value)} {E : List PanicEntry → World → Prop} (h : QJ n ds Q .normal l w) : QJ n ds (PanTo n ds l0 E Q) .normal l w := .mk h.out
theorem q_panto_panic {l0 : List (Nat × Value)} {E : List PanicEntry → World → Prop} {c : List PanicEntry} (hs : Sub l0 l) (h : E c w) : QJ n ds (PanTo n ds l0 E Q) (.panic c) l w := .mk fun _ ha => ⟨ha.sub hs, h⟩

/-- May the operation be taken as one that only looks? (For the maker of orders alone: nothing rests on it.) -/
def looks (isSl : TypeId → Bool) (o : Oper) : Bool :=
  match o.op with
  | .move _ | .assign _ | .pick .. | .binOp .. | .unOp .. | .fieldAddr .. | .field .. | .indexAddr .. | .index .. | .load .. | .slice .. | .nilCheck _ | .extract .. | .build .. | .makeInterface .. | .makeFunc .. => true
  | .convert _ dst _ => !isSl dst
  | .call { callee := .builtin .len, .. } | .call { callee := .builtin .cap, .. } | .call { callee := .builtin .min, .. } | .call { callee := .builtin .max, .. } => true
  | _ => false
/-- The orders as chkOrder wants them. -/
def mkOrder (isSl : TypeId → Bool) (ops : Array Oper) : Nat → Array Bool → It
  | 0, _ => .nil
  | k + 1, listed =>
    let rs := Region.ready .any ops listed
    match rs.find? (fun i => ((ops[i]?).map (looks isSl)).getD false && Region.free .any ops listed i) with
    | some i => .one true i (mkOrder isSl ops k (listed.setIfInBounds i true))
    | none => match (rs.map fun i => It.one false i (mkOrder isSl ops k (listed.setIfInBounds i true))).reverse with
      | [] => .nil
      | t :: r => r.foldl (fun acc t => .alt t acc) t
def codeOrder : It → List Nat
  | .nil => [1]
  | .one b i r => (3 + 2 * i + (if b then 1 else 0)) :: codeOrder r
  | .alt r s => 2 :: (codeOrder r ++ codeOrder s)
def codeNat (l : List Nat) : Nat := l.foldl (fun acc x => acc * 1024 + x) 0

/-! #### Ways out -/
theorem q_then {K : Act → World → Prop} (h : ∀ a, FrOk n ds l a → K a w) : QJ n ds (Exit.then K Q) .normal l w := .mk h
theorem q_next {y : Code} {Q' : Exit → Act → World → Prop} (h : CJ P n ds y Q l w) : QJ n ds (Exit.then (fun a w => y.wp P Q a w) Q') .normal l w := .mk h.out
theorem q_then_exit {K : Act → World → Prop} {id : Nat} (h : QJ n ds Q (.exit id) l w) : QJ n ds (Exit.then K Q) (.exit id) l w := .mk h.out
theorem q_then_ret {K : Act → World → Prop} (h : QJ n ds Q .ret l w) : QJ n ds (Exit.then K Q) .ret l w := .mk h.out
theorem q_then_panic {K : Act → World → Prop} {c : List PanicEntry} (h : QJ n ds Q (.panic c) l w) : QJ n ds (Exit.then K Q) (.panic c) l w := .mk h.out
theorem q_blk_normal {id : Nat} (h : QJ n ds Q .normal l w) : QJ n ds (Exit.inBlock id Q) .normal l w := .mk h.out
theorem q_blk_ret {id : Nat} (h : QJ n ds Q .ret l w) : QJ n ds (Exit.inBlock id Q) .ret l w := .mk h.out
theorem q_blk_panic {id : Nat} {c : List PanicEntry} (h : QJ n ds Q (.panic c) l w) : QJ n ds (Exit.inBlock id Q) (.panic c) l w := .mk h.out
theorem q_blk_hit {id : Nat} (h : QJ n ds Q .normal l w) : QJ n ds (Exit.inBlock id Q) (.exit id) l w := .mk fun a ha => by
  show if id = id then _ else _
  rw [if_pos rfl]; exact h.out a ha
theorem q_blk_miss {id id' : Nat} (hne : Nat.beq id' id = false) (h : QJ n ds Q (.exit id') l w) : QJ n ds (Exit.inBlock id Q) (.exit id') l w := .mk fun a ha => by
  show if id' = id then _ else _
  rw [if_neg (by intro e; subst e; simp at hne)]; exact h.out a ha
theorem q_nopan {e : Exit} (he : ∀ c, e ≠ .panic c) (h : QJ n ds Q e l w) : QJ n ds (NoPan Q) e l w := .mk fun a ha => by
  cases e <;> first | exact h.out a ha | exact absurd rfl (he _)
theorem q_nopan_normal (h : QJ n ds Q .normal l w) : QJ n ds (NoPan Q) .normal l w := .mk h.out

/-! #### Loops, cuts -/
/-- What stands behind a round: the relation anew, the measure lowered. -/
def Again {ι : Type} (n : Nat) (ds : List Deferred) (I : ι → List (Nat × Value)) (Inv : ι → World → Prop) (μ : ι → Nat) (i : ι) : Act → World → Prop :=
  fun a w => ∃ j, FrOk n ds (I j) a ∧ Inv j w ∧ μ j < μ i
theorem c_loop {ι : Type} (I : ι → List (Nat × Value)) (Inv : ι → World → Prop) (μ : ι → Nat) {c : Code} (i0 : ι) (h0 : Sub (I i0) l) (h1 : Inv i0 w)
    (round : ∀ i w, Inv i w → CJ P n ds c (Exit.then (Again n ds I Inv μ i) Q) (I i) w) : CJ P n ds (.loop c) Q l w := by
  refine .mk fun a ha => ?_
  refine wp_loop_ghost (fun k a w => ∃ i, μ i = k ∧ FrOk n ds (I i) a ∧ Inv i w) (μ i0) ⟨i0, rfl, ha.sub h0, h1⟩ ?_
  rintro k a w ⟨i, rfl, hf, hi⟩
  refine wp_mono ((round i w hi).out a hf) ?_
  intro e a w h
  cases e <;> first | exact h | skip
  obtain ⟨j, h1, h2, h3⟩ := h
  exact ⟨μ j, h3, j, rfl, h1, h2⟩
theorem q_again {ι : Type} {I : ι → List (Nat × Value)} {Inv : ι → World → Prop} {μ : ι → Nat} {i : ι} (j : ι) (hs : Sub (I j) l) (hi : Inv j w) (hm : μ j < μ i) :
    QJ n ds (Exit.then (Again n ds I Inv μ i) Q) .normal l w := .mk fun _ ha => ⟨j, ha.sub hs, hi, hm⟩
/-- A cut: what the piece c leaves, said by a list and a relation; then the rest. -/
def Mid {ι : Type} (n : Nat) (ds : List Deferred) (I : ι → List (Nat × Value)) (Inv : ι → World → Prop) : Act → World → Prop :=
  fun a w => ∃ j, FrOk n ds (I j) a ∧ Inv j w
theorem c_cut {ι : Type} (I : ι → List (Nat × Value)) (Inv : ι → World → Prop) {c : Code} {K : Act → World → Prop}
    (h1 : CJ P n ds c (Exit.then (Mid n ds I Inv) Q) l w) (h2 : ∀ i w, Inv i w → ∀ a, FrOk n ds (I i) a → K a w) : CJ P n ds c (Exit.then K Q) l w := by
  refine .mk fun a ha => ?_
  refine wp_mono (h1.out a ha) ?_
  intro e a w h
  cases e <;> first | exact h | skip
  obtain ⟨j, h3, h4⟩ := h
  exact h2 j w h4 a h3
theorem q_mid {ι : Type} {I : ι → List (Nat × Value)} {Inv : ι → World → Prop} (j : ι) (hs : Sub (I j) l) (hi : Inv j w) :
    QJ n ds (Exit.then (Mid n ds I Inv) Q) .normal l w := .mk fun _ ha => ⟨j, ha.sub hs, hi⟩
end
end Go.Sx
