/- Part of a proof: several parts of a walk, one behind the other. -/
import Derived.Test.YtimakbpghggdfaaGreatCMR
import Derived.Test.YtimakbpghggdfaaGreatCQB
import Derived.Test.YtimakbpghggdfaaGreatCO2j
namespace Go.Sx
open Go Go.Proofs
set_option maxRecDepth 10000
variable {w0 : World} {H : List Ck}
instance : ElT Tryz.prog 22 SE := ⟨trivial⟩
/-- Lists of entries that can be read. -/
structure RLs (w0 : World) (H : List Ck) (a : Option Addr) (c : Nat) (ls : List SE) : Prop where
  sl : RSl w0 H a c ls
  el : ∀ s ∈ ls, RSl w0 H s.a s.c s.xs ∧ ∀ e ∈ s.xs, REe w0 H e
theorem RLs.tl {a : Option Addr} {c : Nat} {ls : List SE} {d : Ck} (h : RLs w0 H a c ls) : RLs w0 (d :: H) a c ls := ⟨h.sl.tl, fun s hs => ⟨(h.el s hs).1.tl, fun e he => ((h.el s hs).2 e he).tl⟩⟩
theorem RLs.ent {a : Option Addr} {c : Nat} {ls : List SE} {H' : List Ck} (h : RLs w0 H' a c ls) (g : Ent H H') : RLs w0 H a c ls := ⟨h.sl.ent g, fun s hs => ⟨(h.el s hs).1.ent g, fun e he => ((h.el s hs).2 e he).ent g⟩⟩
def fstE : List SE → Bs → Option Bs
  | [], _ => none
  | s :: ls, k => match getE s.xs k with
    | some v => some v
    | none => fstE ls k
end Go.Sx
namespace Go.Sx
open Go
abbrev Pp := Bs × Bs
/-! ### With their addresses -/
end Go.Sx
namespace Go.Sx
open Go
def RiL (l : List Pp) : Prop := l.Pairwise fun a b => cmp a.1 b.1 < 0
/-- What a list says of a key: the last one that has it. -/
def getL (l : List Pp) (k : Bs) : Option Bs := ((l.filter fun p => decide (p.1 = k)).getLast?).map Prod.snd
theorem getL_cons (p : Pp) (l : List Pp) (k : Bs) : getL (p :: l) k = match getL l k with
    | some v => some v
    | none => if p.1 = k then some p.2 else none := by
  unfold getL
  rw [List.filter_cons]
  by_cases h : p.1 = k
  · simp only [h, decide_true, if_true]
    cases hl : (l.filter fun p => decide (p.1 = k)).getLast? with
    | none =>
      rw [List.getLast?_eq_none_iff] at hl
      simp [hl]
    | some q => simp [List.getLast?_cons, hl]
  · simp only [h, decide_false, if_false]
    cases hl : (l.filter fun p => decide (p.1 = k)).getLast? with
    | none => simp [hl]
    | some q => simp [hl]
theorem getL_none {k : Bs} : ∀ {l : List Pp}, (∀ p ∈ l, p.1 ≠ k) → getL l k = none
  | [], _ => rfl
  | p :: l, h => by
    rw [getL_cons, getL_none fun q hq => h q (List.mem_cons_of_mem _ hq), if_neg (h p (by simp))]
theorem getL_mem {k v : Bs} : ∀ {l : List Pp}, getL l k = some v → (k, v) ∈ l
  | [], h => by cases h
  | p :: l, h => by
    rw [getL_cons] at h
    cases hl : getL l k with
    | some w =>
      rw [hl] at h
      cases h
      exact List.mem_cons_of_mem _ (getL_mem hl)
    | none =>
      rw [hl] at h
      simp only at h
      by_cases e : p.1 = k
      · rw [if_pos e] at h
        cases h
        subst e
        simp
      · rw [if_neg e] at h
        cases h
theorem getL_at {l : List Pp} (h : RiL l) {p : Pp} (hp : p ∈ l) : getL l p.1 = some p.2 := by
  induction l with
  | nil => cases hp
  | cons q l ih =>
    obtain ⟨h1, h2⟩ := List.pairwise_cons.1 h
    rw [getL_cons]
    rcases List.mem_cons.1 hp with rfl | hp
    · rw [getL_none fun r hr e => by have := h1 r hr; rw [e, cmp_self] at this; omega, if_pos rfl]
    · rw [ih h2 hp]
/-- Rising lists that say the same are one. -/
theorem RiL.uniq : ∀ {l m : List Pp}, RiL l → RiL m → (∀ k, getL l k = getL m k) → l = m
  | [], [], _, _, _ => rfl
  | [], q :: m, _, hm, h => by
    have := getL_at hm (p := q) (by simp)
    rw [← h] at this
    cases this
  | p :: l, [], hl, _, h => by
    have := getL_at hl (p := p) (by simp)
    rw [h] at this
    cases this
  | p :: l, q :: m, hl, hm, h => by
    obtain ⟨h1, h2⟩ := List.pairwise_cons.1 hl
    obtain ⟨g1, g2⟩ := List.pairwise_cons.1 hm
    have a1 := getL_at hl (p := p) (by simp)
    have a2 := getL_at hm (p := q) (by simp)
    have b1 := getL_mem (by rw [← h]; exact a1)
    have b2 := getL_mem (by rw [h]; exact a2)
    have hpq : p = q := by
      rcases List.mem_cons.1 b1 with e | e
      · exact e
      · rcases List.mem_cons.1 b2 with e' | e'
        · exact e'.symm
        · have x1 := g1 _ e
          have x2 := h1 _ e'
          have := cmp_anti p.1 q.1
          simp only at x1 x2
          omega
    subst hpq
    congr 1
    refine RiL.uniq h2 g2 fun k => ?_
    have hk := h k
    rw [getL_cons, getL_cons] at hk
    by_cases e : p.1 = k
    · subst e
      rw [getL_none fun r hr e => by have := h1 r hr; rw [e, cmp_self] at this; omega, getL_none fun r hr e => by have := g1 r hr; rw [e, cmp_self] at this; omega]
    · simp only [if_neg e] at hk
      cases x : getL l k <;> cases y : getL m k <;> simp_all
/-- What the first of some lists says that says something. -/
def fstL : List (List Pp) → Bs → Option Bs
  | [], _ => none
  | l :: ls, k => match getL l k with
    | some v => some v
    | none => fstL ls k
end Go.Sx

