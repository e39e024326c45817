/- Plain: what steps on a device do. -/
import Derived.Test.YtjbjblhfccddkaaCTK
namespace Go.Sx
open Go
/-! ### The blocks that are pending -/
theorem up_ext : ∀ {l l' : List Int}, l.Pairwise (· < ·) → l'.Pairwise (· < ·) → (∀ m, m ∈ l ↔ m ∈ l') → l = l'
  | [], [], _, _, _ => rfl
  | [], b :: l', _, _, h => by have := (h b).2 (by simp); simp at this
  | a :: l, [], _, _, h => by have := (h a).1 (by simp); simp at this
  | a :: l, b :: l', h1, h2, h => by
    rw [List.pairwise_cons] at h1 h2
    have hab : a = b := by
      have i1 := (h a).1 (by simp)
      have i2 := (h b).2 (by simp)
      rcases List.mem_cons.1 i1 with rfl | i1
      · rfl
      rcases List.mem_cons.1 i2 with rfl | i2
      · rfl
      have := h1.1 b i2
      have := h2.1 a i1
      omega
    subst hab
    congr 1
    refine up_ext h1.2 h2.2 fun m => ?_
    constructor
    · intro hm
      rcases List.mem_cons.1 ((h m).1 (List.mem_cons_of_mem _ hm)) with rfl | h3
      · have := h1.1 m hm; omega
      · exact h3
    · intro hm
      rcases List.mem_cons.1 ((h m).2 (List.mem_cons_of_mem _ hm)) with rfl | h3
      · have := h2.1 m hm; omega
      · exact h3
theorem Ad.Pend.uniq {A : Ad} {l l' : List Int} (h : A.Pend l) (h' : A.Pend l') : l = l' :=
  up_ext h.up h'.up fun m => (h.iff m).trans (h'.iff m).symm
open Classical in
noncomputable def Ad.pl (A : Ad) : List Int := if h : ∃ l, A.Pend l then h.choose else []
theorem Ad.Pend.eq {A : Ad} {l : List Int} (h : A.Pend l) : l = A.pl := by
  have hx : ∃ l, A.Pend l := ⟨l, h⟩
  unfold Ad.pl
  rw [dif_pos hx]
  exact h.uniq hx.choose_spec
theorem Ad.Pend.nil {A : Ad} (h : ∀ m, (A.at_ m).ws = []) : A.Pend [] := ⟨List.Pairwise.nil, fun m => by simp [h m]⟩
theorem Ad.Pend.congr {A B : Ad} {l : List Int} (h : A.Pend l) (e : ∀ m, ((A.at_ m).ws = []) ↔ ((B.at_ m).ws = [])) : B.Pend l := ⟨h.up, fun m => (h.iff m).trans (not_congr (e m))⟩
theorem Ad.pl_congr {A B : Ad} {l : List Int} (h : A.Pend l) (e : ∀ m, ((A.at_ m).ws = []) ↔ ((B.at_ m).ws = [])) : A.pl = B.pl := by rw [← h.eq, ← (h.congr e).eq]
/-! ### One step -/
structure DO where
  k : Int
  a : Int
  b : Int
  by_ : UInt8
  t : Bs
  fs : List Int
  done : Bool
def fit (size : Nat) (b : UInt8) (t : Bs) : Bs := t.take size ++ List.replicate (size - t.length) b
theorem fit_len (size : Nat) (b : UInt8) (t : Bs) : (fit size b t).length = size := by simp [fit]; omega
noncomputable def Ad.did (A : Ad) (o : DO) : Ad :=
  if o.k = 3 then A.write o.a (fit A.size o.by_ o.t) else if o.k = 4 then A.barrier else if o.k = 5 then A.arm o.a o.b o.done else if o.k = 7 then A.restart A.pl o.fs else if o.k = 8 then A.flip o.a o.b o.by_ else A
def Ad.der (A : Ad) (o : DO) : Int :=
  if o.k = 3 then A.wer o.a A.size else if o.k = 4 then A.ber else if o.k = 5 then A.aer o.a o.b else if o.k = 8 then A.fer o.a o.b else 0
noncomputable def Ad.dids (A : Ad) (l : List DO) : Ad := l.foldl Ad.did A
/-! ### Sizes stay -/
theorem Ad.chg_sz (A : Ad) : A.chg.size = A.size ∧ A.chg.n = A.n ∧ A.chg.at_ = A.at_ := by
  unfold Ad.chg
  split
  · exact ⟨rfl, rfl, rfl⟩
  split
  · exact ⟨rfl, rfl, rfl⟩
  split <;> exact ⟨rfl, rfl, rfl⟩
theorem Ad.write_sz (A : Ad) (n : Int) (x : Bs) : (A.write n x).size = A.size ∧ (A.write n x).n = A.n := by
  have h := A.chg_sz
  unfold Ad.write
  split
  · exact ⟨rfl, rfl⟩
  split
  · exact ⟨h.1, h.2.1⟩
  · exact ⟨h.1, h.2.1⟩
theorem Ad.barrier_sz (A : Ad) : A.barrier.size = A.size ∧ A.barrier.n = A.n := by
  have h := A.chg_sz
  unfold Ad.barrier
  split
  · exact ⟨rfl, rfl⟩
  split
  · exact ⟨h.1, h.2.1⟩
  · exact ⟨h.1, h.2.1⟩
theorem Ad.arm_sz (A : Ad) (n how : Int) (d : Bool) : (A.arm n how d).size = A.size ∧ (A.arm n how d).n = A.n := by
  unfold Ad.arm
  split <;> exact ⟨rfl, rfl⟩
theorem Ad.flip_sz (A : Ad) (n i : Int) (x : UInt8) : (A.flip n i x).size = A.size ∧ (A.flip n i x).n = A.n := by
  unfold Ad.flip
  split <;> exact ⟨rfl, rfl⟩
theorem Ad.did_sz (A : Ad) (o : DO) : (A.did o).size = A.size ∧ (A.did o).n = A.n := by
  unfold Ad.did
  split
  · exact A.write_sz _ _
  split
  · exact A.barrier_sz
  split
  · exact A.arm_sz _ _ _
  split
  · exact ⟨rfl, rfl⟩
  split
  · exact A.flip_sz _ _ _
  · exact ⟨rfl, rfl⟩
end Go.Sx
