/- Part of a proof: several parts of a walk, one behind the other. -/
import Derived.Test.YtimakbpghggdfaaCO1
import Derived.Test.YtimakbpghggdfaaCH1
namespace Go.Sx
open Go Go.Proofs
set_option maxRecDepth 10000

def sizedB (size : Int) : Bool := decide (size = 512) || decide (size = 1024) || decide (size = 2048) || decide (size = 4096)
theorem sizedB_bd {size : Int} (h : sizedB size = true) : 512 ≤ size ∧ size ≤ 4096 := by
  simp only [sizedB, Bool.or_eq_true, decide_eq_true_eq] at h
  omega
/-- Children: their pages, the keys between; where they lie. -/
structure Kd where
  pa : Option Addr
  pc : Nat
  ps : List Int
  ka : Option Addr
  kc : Nat
  ks : List SB
def Kd.cells (k : Kd) : List Value := [.slice k.pa k.ps.length k.pc, .slice k.ka k.ks.length k.kc]
abbrev Kd.keys (k : Kd) : List Bs := k.ks.map SB.xs
abbrev Kd.d (k : Kd) : List Int × List Bs := (k.ps, k.keys)
theorem Kd.kget {k : Kd} {i : Nat} {p : SB} (h : k.ks[i]? = some p) : k.keys[i]? = some p.xs := by simp [h]
instance : Cel Kd := ⟨2, Kd.cells, fun _ => rfl, fun _ => rfl, Nat.two_pos⟩
abbrev kd0 : Kd := ⟨none, 0, [], none, 0, []⟩
section
variable {w0 : World} {H : List Ck}
/-- They can be read. -/
structure RKd (w0 : World) (H : List Ck) (k : Kd) : Prop where
  ps : RSl w0 H k.pa k.pc k.ps
  ks : RSl w0 H k.ka k.kc k.ks
  el : ∀ p ∈ k.ks, RBy w0 H p.a p.c p.xs
theorem RKd.tl {k : Kd} {d : Ck} (h : RKd w0 H k) : RKd w0 (d :: H) k := ⟨h.ps.tl, h.ks.tl, fun p hp => (h.el p hp).tl⟩
theorem RKd.ent {k : Kd} {H' : List Ck} (h : RKd w0 H' k) (e : Ent H H') : RKd w0 H k := ⟨h.ps.ent e, h.ks.ent e, fun p hp => (h.el p hp).ent e⟩
theorem RKd.nil : RKd w0 H kd0 := ⟨RSl.nil, RSl.nil, fun _ h => by cases h⟩
/-- Children of one's own. -/
@[reducible] def oK (k : Kd) : Ck := .star [ol 3 k.pa k.pc k.ps, ol 24 k.ka k.kc k.ks, fam 5 k.ks]
theorem RKd.oK {k : Kd} : RKd w0 (oK k :: H) k :=
  ⟨RSl.ent RSl.hd (Ent.mem' (c := ol 3 k.pa k.pc k.ps) (by simp)), RSl.ent RSl.hd (Ent.mem' (c := ol 24 k.ka k.kc k.ks) (by simp)), fun _ hp => RBy.ent RBy.hd ((Ent.mem' (c := fam 5 k.ks) (by simp)).trans (fam_mem hp))⟩
theorem rkd {k : Kd} (h : RKd w0 H k := by (repeat (first | assumption | exact RKd.oK | exact RKd.nil | apply RKd.tl)); first | done | fail) : RKd w0 H k := h
theorem Kn.kp {k : Kd} (h : RKd w0 H k) : Kn w0 H (k.ps.length ≤ k.pc ∧ k.pc ≤ maxLen) := Kn.sl h.ps
theorem Kn.kk {k : Kd} (h : RKd w0 H k) : Kn w0 H (k.ks.length ≤ k.kc ∧ k.kc ≤ maxLen) := Kn.sl h.ks
end
/-! ### Plain -/
def keysB (ks : List Bs) : Nat := (ks.map fun x => 2 + x.length).sum
theorem keysB_snoc (ks : List Bs) (x : Bs) : keysB (ks ++ [x]) = keysB ks + (2 + x.length) := by simp [keysB]
theorem keysB_app (ks ls : List Bs) : keysB (ks ++ ls) = keysB ks + keysB ls := by simp [keysB]
theorem keysB_take (ks : List Bs) (i : Nat) : keysB (ks.take i) ≤ keysB ks := by
  conv => rhs; rw [← List.take_append_drop i ks, keysB_app]
  omega
theorem keysB_get {ks : List Bs} {i : Nat} {x : Bs} (h : ks[i]? = some x) : keysB (ks.take (i + 1)) = keysB (ks.take i) + (2 + x.length) := by
  rw [← keysB_snoc]; congr 1
  obtain ⟨hi, rfl⟩ := List.getElem?_eq_some_iff.1 h
  exact (List.take_append_getElem hi).symm
def bytesK (d : List Int × List Bs) : Nat := 2 + 4 * d.1.length + keysB d.2
/-- The first key that is above. -/
def chl (ks : List Bs) (key : Bs) : Nat := ks.findIdx fun x => decide (0 < cmp x key)
end Go.Sx
namespace Go.Sx
open Go Go.Proofs
set_option maxRecDepth 10000
variable {w0 : World} {H : List Ck}
theorem chl_ge {ks : List Bs} {key : Bs} {i : Nat} (h : ∀ j x, j < i → ks[j]? = some x → ¬ 0 < cmp x key) (hi : i ≤ ks.length) : i ≤ chl ks key := by
  unfold chl
  rcases Nat.lt_or_ge (ks.findIdx fun x => decide (0 < cmp x key)) i with h1 | h1
  · exfalso
    have h2 : (ks.findIdx fun x => decide (0 < cmp x key)) < ks.length := by omega
    have := List.findIdx_getElem (w := h2)
    exact h _ _ h1 (List.getElem?_eq_getElem h2) (of_decide_eq_true this)
  · exact h1
theorem chl_eq {ks : List Bs} {key : Bs} {i : Nat} {x : Bs} (h : ∀ j x, j < i → ks[j]? = some x → ¬ 0 < cmp x key) (hx : ks[i]? = some x) (hc : 0 < cmp x key) : chl ks key = i := by
  have h1 := chl_ge h (Nat.le_of_lt (get_lt' hx))
  refine Nat.le_antisymm ?_ h1
  unfold chl
  have hi := get_lt' hx
  have : ks[i] = x := by rw [List.getElem?_eq_getElem hi] at hx; exact Option.some.inj hx
  refine Nat.le_of_not_lt fun hlt => ?_
  have h2 := List.not_of_lt_findIdx hlt
  simp only [this, decide_eq_false_iff_not] at h2
  exact h2 hc
end Go.Sx
