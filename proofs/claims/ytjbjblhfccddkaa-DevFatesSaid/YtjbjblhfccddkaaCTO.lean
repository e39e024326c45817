/- Plain: a device that is armed goes as one that is not, up to the change that was said; a byte turned twice. -/
import Derived.Test.YtjbjblhfccddkaaCTN
namespace Go.Sx
open Go
def Ad.wit (A : Ad) (k how : Int) (done : Bool) : Ad := { A with armed := k, how := how, done := done }
theorem Ad.wit_err (A : Ad) (k how : Int) (done : Bool) (n : Int) : (A.wit k how done).err n = A.err n := rfl
theorem Ad.wit_rerr (A : Ad) (k how : Int) (done : Bool) (n : Int) : (A.wit k how done).rerr n = A.rerr n := rfl
/-- A change that does not count down to nought. -/
theorem Ad.wit_flip (A : Ad) (k how : Int) (done : Bool) (n i : Int) (x : UInt8) : (A.wit k how done).fer n i = A.fer n i ∧ (A.wit k how done).flip n i x = (A.flip n i x).wit k how done := by
  refine ⟨rfl, ?_⟩
  unfold Ad.flip
  rw [show (A.wit k how done).fer n i = A.fer n i from rfl]
  split <;> rfl
theorem Ad.write_no {A : Ad} {n : Int} {x : Bs} (_hx : x.length = A.size) (h : A.err n ≠ 0) : A.write n x = A ∧ A.wer n A.size = A.err n := ⟨if_pos (.inl h), if_pos h⟩
theorem Ad.write_yes {A : Ad} {n : Int} {x : Bs} (hx : x.length = A.size) (h : A.err n = 0) : A.write n x = (if A.cis = true then A.chg.set n { A.at_ n with ws := (A.at_ n).ws ++ [x] } else A.chg) ∧ A.wer n A.size = A.cer := by
  refine ⟨if_neg (by rw [h, hx]; simp), ?_⟩
  unfold Ad.wer
  rw [if_neg (by rw [h]; simp), if_neg (by simp)]
/-- Does it count as a change? -/
def DO.chg (o : DO) : Prop := o.k = 3 ∨ o.k = 4
theorem Ad.arm_no {A : Ad} {k how : Int} {done : Bool} {o : DO} (h0 : A.off = false) (h1 : A.armed = 0) (ho : o.chg ∨ o.k = 8) (h : A.der o ≠ 0 ∨ o.k = 8) :
    (A.wit k how done).der o = A.der o ∧ (A.wit k how done).did o = (A.did o).wit k how done := by
  rcases ho with (ho | ho) | ho
  · have h2 : A.der o ≠ 0 := h.resolve_right (by omega)
    simp only [Ad.der, Ad.did, ho, if_true] at h2 ⊢
    have hx := fit_len A.size o.by_ o.t
    by_cases h3 : A.err o.a = 0
    · exact absurd ((Ad.write_yes hx h3).2.trans (if_pos h1)) h2
    · obtain ⟨e1, e2⟩ := Ad.write_no (x := fit A.size o.by_ o.t) hx h3
      obtain ⟨e3, e4⟩ := Ad.write_no (A := A.wit k how done) (n := o.a) (x := fit A.size o.by_ o.t) hx h3
      refine ⟨e4.trans e2.symm, ?_⟩
      rw [e1]
      exact e3
  · have h2 : A.der o ≠ 0 := h.resolve_right (by omega)
    simp only [Ad.der, ho] at h2
    exact absurd (Ad.barrier_on h0 h1).2 h2
  · simp only [Ad.der, Ad.did, ho]
    exact A.wit_flip k how done o.a o.b o.by_
theorem Ad.arm_more {A : Ad} {k how : Int} {done : Bool} {o : DO} (h0 : A.off = false) (h1 : A.armed = 0) (ho : o.chg) (h : A.der o = 0) (hk : k - 1 > 0) :
    (A.wit k how done).der o = 0 ∧ (A.wit k how done).did o = (A.did o).wit (k - 1) how done := by
  have c1 : A.cis = true := if_pos h1
  have c2 : A.chg = A := if_pos h1
  have k0 : ¬ (A.wit k how done).armed = 0 := by show ¬ k = 0; omega
  have d1 : (A.wit k how done).cis = true := (if_neg k0).trans (if_pos hk)
  have d2 : (A.wit k how done).cer = 0 := (if_neg k0).trans (if_pos hk)
  have d3 : (A.wit k how done).chg = A.wit (k - 1) how done := (if_neg k0).trans (if_pos hk)
  rcases ho with ho | ho
  · simp only [Ad.der, Ad.did, ho, if_true] at h ⊢
    have hx := fit_len A.size o.by_ o.t
    have h3 : A.err o.a = 0 := by
      apply Classical.byContradiction
      intro h3
      exact h3 ((Ad.write_no hx h3).2.symm.trans h)
    obtain ⟨e1, e2⟩ := Ad.write_yes (x := fit A.size o.by_ o.t) hx h3
    obtain ⟨e3, e4⟩ := Ad.write_yes (A := A.wit k how done) (n := o.a) (x := fit A.size o.by_ o.t) hx h3
    refine ⟨e4.trans d2, ?_⟩
    rw [e1, if_pos c1, c2]
    show (A.wit k how done).write o.a (fit A.size o.by_ o.t) = _
    rw [e3, if_pos d1, d3]
    rfl
  · simp only [Ad.der, Ad.did, ho] at h ⊢
    refine ⟨?_, ?_⟩
    · show (A.wit k how done).ber = 0
      unfold Ad.ber
      rw [if_neg (show ¬ (A.wit k how done).off = true from by show ¬ A.off = true; rw [h0]; simp), d2]
    · show (A.wit k how done).barrier = A.barrier.wit (k - 1) how done
      rw [(Ad.barrier_on h0 h1).1]
      unfold Ad.barrier
      rw [if_neg (show ¬ (A.wit k how done).off = true from by show ¬ A.off = true; rw [h0]; simp), if_pos d1, d3]
      rfl
theorem Ad.arm_last {A : Ad} {how : Int} {done : Bool} {o : DO} (h0 : A.off = false) (h1 : A.armed = 0) (ho : o.chg) (h : A.der o = 0) :
    (A.wit 1 how done).der o = (if how = 1 then 13 else 12) ∧ ((A.wit 1 how done).did o).off = !decide (how = 1) ∧ ((A.wit 1 how done).did o).at_ = (if done = true then (A.did o).at_ else A.at_) ∧ ((A.wit 1 how done).did o).n = A.n := by
  have c1 : A.cis = true := if_pos h1
  have c2 : A.chg = A := if_pos h1
  have k0 : ¬ (A.wit 1 how done).armed = 0 := by show ¬ (1 : Int) = 0; omega
  have k1 : ¬ ((A.wit 1 how done).armed - 1 > 0) := by show ¬ ((1 : Int) - 1 > 0); omega
  have d1 : (A.wit 1 how done).cis = done := (if_neg k0).trans (if_neg k1)
  have d2 : (A.wit 1 how done).cer = (if how = 1 then 13 else 12) := (if_neg k0).trans (if_neg k1)
  have d3 : (A.wit 1 how done).chg.off = !decide (how = 1) ∧ (A.wit 1 how done).chg.at_ = A.at_ ∧ (A.wit 1 how done).chg.n = A.n := by
    have : (A.wit 1 how done).chg = (if how = 1 then { A.wit 1 how done with armed := 1 - 1 } else { A.wit 1 how done with armed := 1 - 1, off := true }) := (if_neg k0).trans (if_neg k1)
    rw [this]
    by_cases hh : how = 1
    · rw [if_pos hh]; simp [hh, Ad.wit, h0]
    · rw [if_neg hh]; simp [hh, Ad.wit]
  rcases ho with ho | ho
  · simp only [Ad.der, Ad.did, ho, if_true] at h ⊢
    have hx := fit_len A.size o.by_ o.t
    have h3 : A.err o.a = 0 := by
      apply Classical.byContradiction
      intro h3
      exact h3 ((Ad.write_no hx h3).2.symm.trans h)
    obtain ⟨e1, e2⟩ := Ad.write_yes (x := fit A.size o.by_ o.t) hx h3
    obtain ⟨e3, e4⟩ := Ad.write_yes (A := A.wit 1 how done) (n := o.a) (x := fit A.size o.by_ o.t) hx h3
    refine ⟨e4.trans d2, ?_⟩
    rw [e1, if_pos c1, c2]
    show ((A.wit 1 how done).write o.a (fit A.size o.by_ o.t)).off = _ ∧ ((A.wit 1 how done).write o.a (fit A.size o.by_ o.t)).at_ = _ ∧ ((A.wit 1 how done).write o.a (fit A.size o.by_ o.t)).n = _
    rw [e3, d1]
    by_cases hd : done = true
    · rw [if_pos hd, if_pos hd]
      refine ⟨d3.1, ?_, d3.2.2⟩
      simp only [Ad.set, d3.2.1]
      rfl
    · rw [if_neg hd, if_neg hd]
      exact ⟨d3.1, d3.2.1, d3.2.2⟩
  · simp only [Ad.der, Ad.did, ho] at h ⊢
    have e0 : ¬ (A.wit 1 how done).off = true := by show ¬ A.off = true; rw [h0]; simp
    refine ⟨?_, ?_⟩
    · show (A.wit 1 how done).ber = _
      unfold Ad.ber
      rw [if_neg e0, d2]
    · show (A.wit 1 how done).barrier.off = _ ∧ (A.wit 1 how done).barrier.at_ = (if done = true then A.barrier.at_ else _) ∧ (A.wit 1 how done).barrier.n = _
      rw [(Ad.barrier_on h0 h1).1]
      unfold Ad.barrier
      rw [if_neg e0, d1]
      by_cases hd : done = true
      · rw [if_pos hd, if_pos hd]
        refine ⟨d3.1, ?_, d3.2.2⟩
        simp only [Ad.wat, d3.2.1]
      · rw [if_neg hd, if_neg hd]
        exact ⟨d3.1, d3.2.1, d3.2.2⟩
/-- One that is neither off nor armed stays so. -/
theorem Ad.did_on {A : Ad} {o : DO} (h0 : A.off = false) (h1 : A.armed = 0) (ho : o.chg ∨ o.k = 8) : (A.did o).off = false ∧ (A.did o).armed = 0 := by
  have c1 : A.cis = true := if_pos h1
  have c2 : A.chg = A := if_pos h1
  rcases ho with (ho | ho) | ho
  · simp only [Ad.did, ho, if_true]
    have hx := fit_len A.size o.by_ o.t
    by_cases h3 : A.err o.a = 0
    · rw [(Ad.write_yes hx h3).1, if_pos c1, c2]; exact ⟨h0, h1⟩
    · rw [(Ad.write_no hx h3).1]; exact ⟨h0, h1⟩
  · simp only [Ad.did, ho]
    show A.barrier.off = false ∧ A.barrier.armed = 0
    rw [(Ad.barrier_on h0 h1).1]; exact ⟨h0, h1⟩
  · simp only [Ad.did, ho]
    show (A.flip o.a o.b o.by_).off = false ∧ (A.flip o.a o.b o.by_).armed = 0
    unfold Ad.flip
    split <;> exact ⟨h0, h1⟩
theorem Ad.did_barr {A : Ad} {o : DO} (h0 : A.off = false) (h1 : A.armed = 0) (ho : o.k = 4) (m : Int) : ((A.did o).at_ m).ws = [] := by
  simp only [Ad.did, ho]
  show (A.barrier.at_ m).ws = []
  rw [(Ad.barrier_on h0 h1).1]
  simp only [Ad.wat, Ab.barr]
  cases h : (A.at_ m).ws.getLast? with
  | some x => rfl
  | none => simpa [List.getLast?_eq_none_iff] using h
theorem Ad.did_write {A : Ad} {o : DO} (_h0 : A.off = false) (h1 : A.armed = 0) (ho : o.k = 3) (h : A.der o = 0) : A.err o.a = 0 ∧ (A.did o).at_ o.a = { A.at_ o.a with ws := (A.at_ o.a).ws ++ [fit A.size o.by_ o.t] } := by
  have c1 : A.cis = true := if_pos h1
  have c2 : A.chg = A := if_pos h1
  simp only [Ad.der, Ad.did, ho, if_true] at h ⊢
  have hx := fit_len A.size o.by_ o.t
  have h3 : A.err o.a = 0 := by
    apply Classical.byContradiction
    intro h3
    exact h3 ((Ad.write_no hx h3).2.symm.trans h)
  obtain ⟨e1, e2⟩ := Ad.write_yes (x := fit A.size o.by_ o.t) hx h3
  refine ⟨h3, ?_⟩
  rw [e1, if_pos c1, c2]
  simp [Ad.set]
/-! ### A byte turned twice -/
theorem xorAt_two {xs : Bs} {i : Nat} {x : UInt8} (h : i < xs.length) : xorAt (xorAt xs i x) i x = xs := by
  unfold xorAt
  rw [List.set_set]
  apply List.ext_getElem?
  intro j
  rw [List.getElem?_set]
  split
  · rename_i e
    subst e
    simp [h, UInt8.xor_assoc]
  · rfl
theorem Ad.flip_two {A : Ad} {n : Int} {i : Nat} {x : UInt8} (hw : (A.at_ n).ws = []) (hl : (A.at_ n).l.length = A.size) (hi : i < A.size) : (A.flip n i x).rerr n = A.rerr n ∧ (A.flip n i x).fer n i = A.fer n i ∧ (A.flip n i x).flip n i x = A := by
  by_cases h : A.fer n i = 0
  · have e1 : A.flip n i x = A.set n ((A.at_ n).flip i x) := by
      unfold Ad.flip
      rw [if_neg (by rw [h]; simp), Int.toNat_natCast]
    have e2 : (A.at_ n).flip i x = { A.at_ n with l := xorAt (A.at_ n).l i x } := by simp [Ab.flip, hw]
    have e3 : (A.flip n i x).rerr n = A.rerr n := by
      have h0 : A.err n = 0 := by
        apply Classical.byContradiction
        intro h0
        exact h0 ((if_pos h0).symm.trans h)
      have h4 : (A.set n ((A.at_ n).flip i x)).err n = 0 := h0
      have key : ∀ B : Ad, B.err n = 0 → B.rerr n = if (B.at_ n).ws = [] ∧ (B.at_ n).bad = true then 14 else 0 := fun B hB => if_neg (by rw [hB]; simp)
      rw [e1, key _ h4, key _ h0]
      simp only [Ad.set, if_true, e2]
    have e4 : (A.flip n i x).fer n i = A.fer n i := by
      unfold Ad.fer
      rw [e3]
      have : (A.flip n i x).err n = A.err n := by rw [e1]; rfl
      rw [this, (A.flip_sz n i x).1]
    refine ⟨e3, e4, ?_⟩
    have e5 : (A.flip n i x).flip n i x = (A.flip n i x).set n (((A.flip n i x).at_ n).flip i x) := by
      rw [Ad.flip, if_neg (by rw [e4, h]; simp), Int.toNat_natCast]
    rw [e5, e1, e2]
    simp only [Ad.set, if_true, Ab.flip, hw, List.getLast?_nil]
    cases A with
    | mk size nn at_ off armed how done =>
      simp only at hw hl hi ⊢
      congr 1
      funext m
      split
      · rename_i e
        subst e
        rw [xorAt_two (by omega)]
        have : (at_ m).ws = [] := hw
        cases hb : at_ m with
        | mk l bad ws => simp [hb] at this; simp [this]
      · rfl
  · have e1 : A.flip n i x = A := if_pos h
    rw [e1]
    exact ⟨rfl, rfl, e1⟩
end Go.Sx
