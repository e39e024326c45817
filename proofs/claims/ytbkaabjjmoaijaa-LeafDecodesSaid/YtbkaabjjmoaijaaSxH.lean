/- Part eight: lists of entries of one's own; looks that act. -/
import Derived.Test.YtbkaabjjmoaijaaSxG
namespace Go.Sx
open Go

section
variable {M : Mode} {P : Program} {n : Nat} {ds : List Deferred} {ops : Array Oper} {Q : Exit → Act → World → Prop} {b : Bool} {rest : Tr} {l : List (Nat × Value)} {w : World}
/-- It looks, and is taken where it stands. -/
theorem l_act {d : Nat} {op : Op} {ty : TypeId} {pos : String} {af : Array Edge} {g : Option (Nat × Bool)} {v : Value} (hb : (M.any || !b) = true) (hg : gOk ops l g = true) (hd : Nat.blt d n = true) (hy : Y P (fun w' => w' = w) ⟨some d, op, ty, pos, af, g⟩ l v) (hc : M.chk w)
    (h : LJ M P n ds ops Q rest ((d, v) :: l) w) : LJ M P n ds ops Q (.one b ⟨some d, op, ty, pos, af, g⟩ rest) l w :=
  l_e hb hg hd (fun ρ hρ => hy.out w rfl ρ hρ) hc h
end

/-- The mark behind the bytes of a constant string. -/
theorem Ext.freeze (w : World) (b k : Nat) : Ext (fun i => i = b) w (w.freeze ⟨b, k, none⟩ 1) := by
  unfold World.freeze
  rw [if_neg (by decide)]
  exact ⟨rfl, rfl, rfl, by simp, fun i _ hn => by
    simp only [Array.getElem?_modify]
    rw [if_neg (fun e => hn e.symm)]⟩
theorem cells_freeze {w : World} {b T k : Nat} {vs : List Value} (h : HB w b T vs) : Cells (w.freeze ⟨b, k, none⟩ 1) ⟨b, 0, none⟩ vs := by
  intro i v hi
  have h1 : (⟨b, 0, none⟩ : Addr).add i = ⟨b, i, none⟩ := by unfold Addr.add; split <;> simp_all
  rw [h1]
  unfold HB at h
  unfold World.freeze
  rw [if_neg (by decide)]
  simp only [World.cell?, Array.getElem?_modify, if_true, h, Option.map_some]
  simpa using hi
section
variable {M : Mode} {P : Program} {n : Nat} {ds : List Deferred} {ops : Array Oper} {Q : Exit → Act → World → Prop} {b : Bool} {rest : Tr} {l : List (Nat × Value)} {w : World}
/-- []byte("..") of a constant. -/
theorem l_convb {d : Nat} {ty : TypeId} {pos : String} {af : Array Edge} {g : Option (Nat × Bool)} {x : Operand} {T E : TypeId} {sz by' k m c U : Nat} {vs : List Value} [hT : SlT P T E sz by'] [hE : InT P E .u8] (hb : (M.any || !b) = true) (hg : gOk ops l g = true) (hd : Nat.blt d n = true)
    (hx : ev l x = some (.slice (some ⟨k, 0, none⟩) m c)) (hB : HB w k U vs)
    (h : ∀ w', Ext (fun i => i = k) w w' → Cells w' ⟨k, 0, none⟩ vs → w'.heap.size = w.heap.size → M.chk w' ∧ LJ M P n ds ops Q rest ((d, .slice (some ⟨k, 0, none⟩) m c) :: l) w') :
    LJ M P n ds ops Q (.one b ⟨some d, .convert T T x, ty, pos, af, g⟩ rest) l w := by
  have hX := Ext.freeze w k vs.length
  obtain ⟨h5, h6⟩ := h _ hX (cells_freeze hB) (by unfold World.freeze; rw [if_neg (by decide)]; simp)
  refine l_e hb hg hd (fun ρ hρ => ?_) h5 h6
  have hsh : w.shape? k = some (U, vs.length) := by
    unfold World.shape?
    unfold HB at hB
    rw [hB]
    simp
  simp [execOp, hρ _ _ hx, convert, run_underlying hT.und, run_underlying hE.und, markStringish, hsh]
end

/-- No two are one. -/
def Dis (l : List (Option Nat)) : Prop := l.Pairwise (fun x y => ∀ i, x = some i → y = some i → False)
def bks (es : List KV) : List (Option Nat) := es.flatMap (fun e => [blk e.ka, blk e.va])
/-- A list of entries of one's own, their keys and values too. -/
structure OwE (w : World) (B T U : Nat) (a : Option Addr) (c : Nat) (es : List KV) : Prop where
  sl : Own w B T 2 a es.length c (es.flatMap KV.cells)
  el : ∀ e, e ∈ es → OwB w B U e.ka e.kc e.k ∧ OwB w B U e.va e.vc e.v
  dj : Dis (blk a :: bks es)
theorem OwE.nil (w : World) (B T U : Nat) : OwE w B T U none 0 [] := ⟨Own.nil .., by simp, by simp [Dis, bks]⟩
theorem OwB.bl {w : World} {B U c i : Nat} {a : Option Addr} {xs : Bs} (h : OwB w B U a c xs) (hi : blk a = some i) : B ≤ i ∧ i < w.heap.size := by
  cases a with
  | none => cases hi
  | some ad => simp only [blk, Option.map_some, Option.some.injEq] at hi; subst hi; exact Own.ge h
theorem OwE.bl {w : World} {B T U : Nat} {a : Option Addr} {c : Nat} {es : List KV} (h : OwE w B T U a c es) {i : Nat} (hi : some i ∈ bks es) : B ≤ i ∧ i < w.heap.size := by
  simp only [bks, List.mem_flatMap, List.mem_cons, List.not_mem_nil, or_false] at hi
  obtain ⟨e, he, h1 | h1⟩ := hi
  · exact OwB.bl (h.el e he).1 h1.symm
  · exact OwB.bl (h.el e he).2 h1.symm
theorem OwE.bla {w : World} {B T U : Nat} {a : Option Addr} {c : Nat} {es : List KV} (h : OwE w B T U a c es) {i : Nat} (hi : blk a = some i) : B ≤ i ∧ i < w.heap.size := by
  cases a with
  | none => cases hi
  | some ad => simp only [blk, Option.map_some, Option.some.injEq] at hi; subst hi; exact Own.ge h.sl
theorem OwE.ext {G : Nat → Prop} {w w' : World} {B T U : Nat} {a : Option Addr} {c : Nat} {es : List KV} (h : OwE w B T U a c es) (he : Ext G w w') (h1 : ∀ i, B ≤ i → i < w.heap.size → ¬ G i) : OwE w' B T U a c es :=
  ⟨h.sl.ext he (fun ad e => by subst e; exact h1 _ (Own.ge h.sl).1 (Own.ge h.sl).2),
   fun e hm => ⟨Own.ext (h.el e hm).1 he (fun ad hd => (fun hb => h1 _ hb.1 hb.2) (OwB.bl (h.el e hm).1 (by rw [hd]; rfl))), Own.ext (h.el e hm).2 he (fun ad hd => (fun hb => h1 _ hb.1 hb.2) (OwB.bl (h.el e hm).2 (by rw [hd]; rfl)))⟩, h.dj⟩
theorem OwE.ex {w w' : World} {B T U : Nat} {a : Option Addr} {c : Nat} {es : List KV} (h : OwE w B T U a c es) (he : Ex w w') : OwE w' B T U a c es := h.ext he (fun _ _ _ h => h)
theorem OwE.mono {w : World} {B B' T U : Nat} {a : Option Addr} {c : Nat} {es : List KV} (h : OwE w B T U a c es) (hB : B' ≤ B) : OwE w B' T U a c es :=
  ⟨h.sl.mono hB, fun e hm => ⟨Own.mono (h.el e hm).1 hB, Own.mono (h.el e hm).2 hB⟩, h.dj⟩
theorem OwE.en {w : World} {B T U : Nat} {a : Option Addr} {c : Nat} {es : List KV} (h : OwE w B T U a c es) : En w a c es := by
  refine ⟨h.sl.le.1, h.sl.le.2, ?_, ?_, fun e hm => ⟨OwB.by (h.el e hm).1, OwB.by (h.el e hm).2⟩⟩
  · rintro rfl
    obtain ⟨_, _, h3, _⟩ | ⟨g, rest, h1, _⟩ := h.sl.open
    · exact h3
    · cases h1
  · rintro ad rfl
    exact h.sl.cells
/-- One more. -/
theorem OwE.push {w w' : World} {B B1 T U : Nat} {a a' : Option Addr} {c c' : Nat} {es : List KV} {e : KV} (h : OwE w B T U a c es) (hk : OwB w B1 U e.ka e.kc e.k) (hv : OwB w B1 U e.va e.vc e.v) (hd : ∀ i, blk e.ka = some i → blk e.va = some i → False)
    (hB : B ≤ B1) (hlt : ∀ i, blk a = some i ∨ some i ∈ bks es → i < B1) (hs : Own w' B T 2 a' (es.length + 1) c' (es.flatMap KV.cells ++ e.cells)) (hg : Grow w a w' a') : OwE w' B T U a' c' (es ++ [e]) := by
  have hdj := h.dj
  simp only [Dis, List.pairwise_cons] at hdj
  have hx : ∀ i, blk e.ka = some i ∨ blk e.va = some i → B1 ≤ i ∧ i < w.heap.size := fun i hi => hi.elim (OwB.bl hk) (OwB.bl hv)
  have ha' : ∀ i, blk a' = some i → blk a = some i ∨ w.heap.size ≤ i := by
    intro i hi
    cases a' with
    | none => cases hi
    | some ad =>
      simp only [blk, Option.map_some, Option.some.injEq] at hi
      subst hi
      exact hg.fr ad rfl
  have hoe : ∀ (x : Option Addr) (cx : Nat) (bs : Bs) (Bx : Nat), OwB w Bx U x cx bs → (∀ i, blk x = some i → blk a = some i → False) → OwB w' Bx U x cx bs := by
    intro x cx bs Bx ho hn
    exact Own.ext ho hg.ext (fun ad hd h' => hn ad.block (by rw [hd]; rfl) h')
  refine ⟨by simpa using hs, ?_, ?_⟩
  · intro e' hm
    rcases List.mem_append.1 hm with hm | hm
    · have h1 : ∀ i, blk e'.ka = some i ∨ blk e'.va = some i → some i ∈ bks es := by
        intro i hi
        simp only [bks, List.mem_flatMap, List.mem_cons, List.not_mem_nil, or_false]
        exact ⟨e', hm, hi.imp Eq.symm Eq.symm⟩
      exact ⟨hoe _ _ _ _ (h.el e' hm).1 (fun i hi hj => hdj.1 _ (h1 i (.inl hi)) i hj rfl), hoe _ _ _ _ (h.el e' hm).2 (fun i hi hj => hdj.1 _ (h1 i (.inr hi)) i hj rfl)⟩
    · simp only [List.mem_singleton] at hm
      subst hm
      exact ⟨Own.mono (hoe _ _ _ _ hk (fun i hi hj => by have := hx i (.inl hi); have := hlt i (.inl hj); omega)) hB, Own.mono (hoe _ _ _ _ hv (fun i hi hj => by have := hx i (.inr hi); have := hlt i (.inl hj); omega)) hB⟩
  · have hb : bks (es ++ [e]) = bks es ++ [blk e.ka, blk e.va] := by simp [bks]
    rw [hb]
    simp only [Dis, List.pairwise_cons, List.pairwise_append]
    refine ⟨?_, hdj.2, ?_, ?_⟩
    · intro x hm i hi hj
      subst hj
      rcases List.mem_append.1 hm with hm | hm
      · rcases ha' i hi with h1 | h1
        · exact hdj.1 _ hm i h1 rfl
        · have := h.bl hm; omega
      · simp only [List.mem_cons, List.not_mem_nil, or_false] at hm
        have h2 := hx i (hm.imp Eq.symm Eq.symm)
        rcases ha' i hi with h1 | h1
        · have := hlt i (.inl h1); omega
        · omega
    · refine ⟨?_, ?_, List.Pairwise.nil⟩
      · intro x hm i hi hj
        simp only [List.mem_singleton] at hm
        subst hm
        exact hd i hi hj
      · intro x hm; cases hm
    · intro x hm y hn i hi hj
      subst hi
      simp only [List.mem_cons, List.not_mem_nil, or_false] at hn
      have h2 := hx i (hn.imp (fun z => by rw [← z]; exact hj) (fun z => by rw [← z]; exact hj))
      have := hlt i (.inr hm)
      omega
end Go.Sx
