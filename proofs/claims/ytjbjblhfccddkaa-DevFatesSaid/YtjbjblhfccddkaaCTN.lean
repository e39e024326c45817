/- Plain: what lasts behind a loss of power. -/
import Derived.Test.YtjbjblhfccddkaaCTM
namespace Go.Sx
open Go
theorem Ad.err_ok {A : Ad} {n : Int} (h0 : A.off = false) (h : 0 ≤ n ∧ n < A.n) : A.err n = 0 := by
  unfold Ad.err
  rw [if_neg (by rw [h0]; simp), if_neg (by omega)]
theorem Ad.write_on {A : Ad} {n : Int} {x : Bs} (h0 : A.off = false) (h1 : A.armed = 0) (h : 0 ≤ n ∧ n < A.n) (hx : x.length = A.size) :
    A.write n x = A.set n { A.at_ n with ws := (A.at_ n).ws ++ [x] } ∧ A.wer n x.length = 0 := by
  have e := Ad.err_ok h0 h
  have e1 : A.cis = true := if_pos h1
  have e2 : A.chg = A := if_pos h1
  refine ⟨?_, ?_⟩
  · unfold Ad.write
    rw [if_neg (by rw [e, hx]; simp), if_pos e1, e2]
  · unfold Ad.wer
    rw [if_neg (by rw [e]; simp), if_neg (by simp [hx])]
    exact if_pos h1
theorem Ad.barrier_on {A : Ad} (h0 : A.off = false) (h1 : A.armed = 0) : A.barrier = A.wat (fun m => (A.at_ m).barr) ∧ A.ber = 0 := by
  have e1 : A.cis = true := if_pos h1
  have e2 : A.chg = A := if_pos h1
  refine ⟨?_, ?_⟩
  · unfold Ad.barrier
    rw [if_neg (by rw [h0]; simp), if_pos e1, e2]
  · unfold Ad.ber
    rw [if_neg (by rw [h0]; simp)]
    exact if_pos h1
abbrev rp (n : Nat) (v : UInt8) : Bs := List.replicate n v
abbrev upd {α : Type} (f : Int → α) (n : Int) (v : α) : Int → α := fun m => if m = n then v else f m
/-- Ahead of the Barrier. -/
structure Fst1 (A : Ad) (size n : Nat) (last : Int → UInt8) : Prop where
  off : A.off = false
  armed : A.armed = 0
  sz : A.size = size
  nn : A.n = n
  l : ∀ m, (A.at_ m).l = zeros size
  bad : ∀ m, (A.at_ m).bad = false
  sh : ∀ m, (A.at_ m).shows = rp size (last m)
theorem Fst1.write {A : Ad} {size n : Nat} {last : Int → UInt8} (h : Fst1 A size n last) {k : Int} (hk : 0 ≤ k ∧ k < n) (v : UInt8) : Fst1 (A.write k (rp size v)) size n (upd last k v) ∧ A.wer k (rp size v).length = 0 := by
  obtain ⟨e1, e2⟩ := Ad.write_on (A := A) (n := k) (x := rp size v) h.off h.armed (by rw [h.nn]; exact hk) (by rw [h.sz]; simp)
  rw [e1]
  refine ⟨⟨h.off, h.armed, h.sz, h.nn, fun m => ?_, fun m => ?_, fun m => ?_⟩, e2⟩
  · simp only [Ad.set]; split
    · exact h.l k
    · exact h.l m
  · simp only [Ad.set]; split
    · exact h.bad k
    · exact h.bad m
  · simp only [Ad.set, upd]; split
    · simp [Ab.shows]
    · exact h.sh m
/-- Behind it; what was written since. -/
structure Snd1 (A : Ad) (size n : Nat) (last : Int → UInt8) (wr : Int → List UInt8) : Prop where
  off : A.off = false
  armed : A.armed = 0
  sz : A.size = size
  nn : A.n = n
  at_ : ∀ m, A.at_ m = ⟨rp size (last m), false, (wr m).map (rp size)⟩
theorem Fst1.barrier {A : Ad} {size n : Nat} {last : Int → UInt8} (h : Fst1 A size n last) : Snd1 A.barrier size n last (fun _ => []) ∧ A.ber = 0 := by
  obtain ⟨e1, e2⟩ := Ad.barrier_on h.off h.armed
  rw [e1]
  refine ⟨⟨h.off, h.armed, h.sz, h.nn, fun m => ?_⟩, e2⟩
  have h1 := h.l m
  have h2 := h.bad m
  have h3 := h.sh m
  simp only [Ad.wat, List.map_nil]
  cases hb : A.at_ m with
  | mk l bad ws =>
    rw [hb] at h1 h2 h3
    simp only at h1 h2
    simp only [Ab.barr, Ab.shows] at h3 ⊢
    cases hg : ws.getLast? with
    | some x => rw [hg] at h3; simp only at h3 ⊢; rw [h3]
    | none =>
      rw [hg] at h3
      simp only at h3 ⊢
      rw [List.getLast?_eq_none_iff] at hg
      rw [h3, h2, hg]
theorem Snd1.write {A : Ad} {size n : Nat} {last : Int → UInt8} {wr : Int → List UInt8} (h : Snd1 A size n last wr) {k : Int} (hk : 0 ≤ k ∧ k < n) (v : UInt8) : Snd1 (A.write k (rp size v)) size n last (upd wr k (wr k ++ [v])) ∧ A.wer k (rp size v).length = 0 := by
  obtain ⟨e1, e2⟩ := Ad.write_on (A := A) (n := k) (x := rp size v) h.off h.armed (by rw [h.nn]; exact hk) (by rw [h.sz]; simp)
  rw [e1]
  refine ⟨⟨h.off, h.armed, h.sz, h.nn, fun m => ?_⟩, e2⟩
  simp only [Ad.set, upd]
  split
  · rename_i e; subst e; rw [h.at_ m]; simp
  · exact h.at_ m
/-- What becomes of a block. -/
def fateOf (size : Nat) (last : UInt8) (w : List UInt8) (f : Int) : Ab := if w = [] then ⟨rp size last, false, []⟩ else if 1 ≤ f ∧ f ≤ w.length then ⟨rp size (w.getD (f - 1).toNat 0), false, []⟩ else if f = w.length + 1 then ⟨zeros size, true, []⟩ else ⟨rp size last, false, []⟩
structure Thd1 (A : Ad) (size n : Nat) (last : Int → UInt8) (wr : Int → List UInt8) (l fs : List Int) : Prop where
  off : A.off = false
  sz : A.size = size
  nn : A.n = n
  at_ : ∀ m, A.at_ m = fateOf size (last m) (wr m) (if wr m = [] then 0 else fs.getD (l.idxOf m) 0)
theorem Snd1.restart {A : Ad} {size n : Nat} {last : Int → UInt8} {wr : Int → List UInt8} (h : Snd1 A size n last wr) {l : List Int} (hl : A.Pend l) (fs : List Int) : Thd1 (A.restart l fs) size n last wr l fs := by
  refine ⟨rfl, h.sz, h.nn, fun m => ?_⟩
  have hm : m ∈ l ↔ wr m ≠ [] := by rw [hl.iff m, h.at_ m]; simp
  simp only [Ad.restart]
  by_cases h1 : wr m = []
  · rw [if_neg (fun h2 => hm.1 h2 h1), if_pos h1, h.at_ m]
    simp [fateOf, h1]
  · rw [if_pos (hm.2 h1), if_neg h1, h.at_ m, h.sz]
    simp only [fated, fateOf, List.length_map, if_neg h1]
    split
    · rename_i h2
      generalize fs.getD (List.idxOf m l) 0 = f at h2 ⊢
      have : (f - 1).toNat < (wr m).length := by omega
      simp only [List.getD_eq_getElem?_getD, List.getElem?_map, List.getElem?_eq_getElem this, Option.map_some, Option.getD_some]
    · rfl
theorem Thd1.none {A : Ad} {size n : Nat} {last : Int → UInt8} {wr : Int → List UInt8} {l fs : List Int} (h : Thd1 A size n last wr l fs) : A.Pend [] := Ad.Pend.nil fun m => by
  rw [h.at_ m]
  unfold fateOf
  split
  · rfl
  split
  · rfl
  split <;> rfl
theorem Thd1.restart {A : Ad} {size n : Nat} {last : Int → UInt8} {wr : Int → List UInt8} {l fs : List Int} (h : Thd1 A size n last wr l fs) {l' : List Int} (hl : A.Pend l') (fs' : List Int) : Thd1 (A.restart l' fs') size n last wr l fs := by
  have : l' = [] := hl.uniq h.none
  subst this
  exact ⟨rfl, h.sz, h.nn, fun m => by simp only [Ad.restart, List.not_mem_nil, if_false]; exact h.at_ m⟩
/-- What is told of a block then. -/
theorem Thd1.shown {A : Ad} {size n : Nat} {last : Int → UInt8} {wr : Int → List UInt8} {l fs : List Int} (h : Thd1 A size n last wr l fs) {m : Int} (hm : 0 ≤ m ∧ m < n) {f : Int} (hf : f = if wr m = [] then 0 else fs.getD (l.idxOf m) 0) :
    A.rerr m = (if wr m ≠ [] ∧ f = (wr m).length + 1 then 14 else 0) ∧
    (¬ (wr m ≠ [] ∧ f = (wr m).length + 1) → (A.at_ m).shows = rp size (if 1 ≤ f ∧ f ≤ (wr m).length then (wr m).getD (f - 1).toNat 0 else last m)) := by
  have e0 := Ad.err_ok (A := A) (n := m) h.off (by rw [h.nn]; exact hm)
  have e1 := h.at_ m
  rw [← hf] at e1
  have hw : (A.at_ m).ws = [] := by
    rw [e1]
    unfold fateOf
    split
    · rfl
    split
    · rfl
    split <;> rfl
  refine ⟨?_, fun hb => ?_⟩
  · unfold Ad.rerr
    rw [if_neg (by rw [e0]; simp)]
    simp only [hw, true_and]
    rw [e1]
    unfold fateOf
    by_cases h1 : wr m = []
    · simp [h1]
    rw [if_neg h1]
    by_cases h2 : 1 ≤ f ∧ f ≤ (wr m).length
    · rw [if_pos h2]; simp [h1]; omega
    rw [if_neg h2]
    by_cases h3 : f = (wr m).length + 1
    · rw [if_pos h3]; simp [h1, h3]
    · rw [if_neg h3]; simp [h1, h3]
  · simp only [Ab.shows, hw, List.getLast?_nil]
    rw [e1]
    unfold fateOf
    by_cases h1 : wr m = []
    · have : ¬ (1 ≤ f ∧ f ≤ (wr m).length) := by rw [h1]; simp; omega
      rw [if_pos h1, if_neg this]
    rw [if_neg h1]
    by_cases h2 : 1 ≤ f ∧ f ≤ (wr m).length
    · rw [if_pos h2, if_pos h2]
    rw [if_neg h2, if_neg (fun h3 => hb ⟨h1, h3⟩), if_neg h2]
/-- The count of the pending blocks below a number. -/
structure AtI (l : List Int) (n : Int) (k : Nat) : Prop where
  le : k ≤ l.length
  iff : ∀ i x, l[i]? = some x → (i < k ↔ x < n)
theorem AtI.start {l : List Int} (h : ∀ x ∈ l, 0 ≤ x) : AtI l 0 0 := ⟨Nat.zero_le _, fun i x hx => by have := h x (List.mem_of_getElem? hx); omega⟩
theorem AtI.hit {l : List Int} {n : Int} {k : Nat} (h : AtI l n k) (hu : l.Pairwise (· < ·)) (hm : n ∈ l) : l[k]? = some n ∧ l.idxOf n = k ∧ AtI l (n + 1) (k + 1) := by
  obtain ⟨i, hi⟩ := List.getElem?_of_mem hm
  have hu' := List.pairwise_iff_getElem.1 hu
  have hil := (List.getElem?_eq_some_iff.1 hi).1
  have h1 := (h.iff i n hi)
  have hki : k ≤ i := by omega
  have hkl : k < l.length := by omega
  have hk := List.getElem?_eq_getElem hkl
  have h2 := h.iff k _ hk
  have e : k = i := by
    apply Classical.byContradiction
    intro hne
    have := hu' k i hkl hil (by omega)
    have e1 := (List.getElem?_eq_some_iff.1 hi).2
    omega
  subst e
  have hnd : l.Nodup := hu.imp fun h => by omega
  refine ⟨hi, idx_of hnd hi, hil, fun j x hx => ?_⟩
  have h3 := h.iff j x hx
  have hjl := (List.getElem?_eq_some_iff.1 hx).1
  constructor
  · intro hj
    rcases Nat.lt_or_eq_of_le (Nat.lt_succ_iff.1 hj) with h4 | rfl
    · have := h3.1 h4; omega
    · rw [hi] at hx; cases hx; omega
  · intro hx1
    by_cases h5 : x < n
    · have := h3.2 h5; omega
    · have hxn : x = n := by omega
      subst hxn
      apply Classical.byContradiction
      intro hj
      have := hu' k j hil hjl (by omega)
      have e1 := (List.getElem?_eq_some_iff.1 hi).2
      have e2 := (List.getElem?_eq_some_iff.1 hx).2
      omega
theorem AtI.miss {l : List Int} {n : Int} {k : Nat} (h : AtI l n k) (hm : n ∉ l) : AtI l (n + 1) k := ⟨h.le, fun i x hx => by
  have h1 := h.iff i x hx
  have h2 : x ≠ n := fun e => hm (e ▸ List.mem_of_getElem? hx)
  omega⟩
end Go.Sx
