/- Part of a proof: several parts of a walk, one behind the other. -/
import Derived.Test.YtpnhoafmlhlfgaaGreatCQBj
import Derived.Test.YtpnhoafmlhlfgaaGreatCMBj
import Derived.Test.YtpnhoafmlhlfgaaGreatCKB
namespace Go.Sx
open Go
def kf (k : Bs) (e : KV) : Bool := decide (e.k = k)
/-- The same, and of each key in the same order. -/
structure Stb (l m : List KV) : Prop where
  perm : l.Perm m
  eq : ∀ k, l.filter (kf k) = m.filter (kf k)
theorem Stb.refl (l : List KV) : Stb l l := ⟨.refl _, fun _ => rfl⟩
theorem Stb.trans {l m n : List KV} (h1 : Stb l m) (h2 : Stb m n) : Stb l n := ⟨h1.perm.trans h2.perm, fun k => (h1.eq k).trans (h2.eq k)⟩
theorem Stb.app {l m l' m' : List KV} (h1 : Stb l m) (h2 : Stb l' m') : Stb (l ++ l') (m ++ m') := ⟨h1.perm.append h2.perm, fun k => by rw [List.filter_append, List.filter_append, h1.eq, h2.eq]⟩
theorem Stb.len {l m : List KV} (h : Stb l m) : l.length = m.length := h.perm.length_eq
theorem Stb.swap {u v : List KV} (h : ∀ a ∈ u, ∀ b ∈ v, a.k ≠ b.k) : Stb (u ++ v) (v ++ u) := ⟨List.perm_append_comm, fun k => by
  rw [List.filter_append, List.filter_append]
  by_cases g : ∃ a ∈ u, a.k = k
  · obtain ⟨a, ha, rfl⟩ := g
    have : v.filter (kf a.k) = [] := List.filter_eq_nil_iff.2 fun b hb => by
      simp only [kf, decide_eq_true_eq]
      exact fun e => h a ha b hb e.symm
    rw [this]; simp
  · have : u.filter (kf k) = [] := List.filter_eq_nil_iff.2 fun a ha => by
      simp only [kf, decide_eq_true_eq]
      exact fun e => g ⟨a, ha, e⟩
    rw [this]; simp⟩
def Asc (l : List KV) : Prop := l.Pairwise fun a b => cmp a.k b.k ≤ 0
theorem Asc.nil : Asc [] := List.Pairwise.nil
theorem Asc.one (e : KV) : Asc [e] := List.pairwise_singleton _ _
theorem asc_app {l m : List KV} : Asc (l ++ m) ↔ Asc l ∧ Asc m ∧ ∀ a ∈ l, ∀ b ∈ m, cmp a.k b.k ≤ 0 := List.pairwise_append
theorem Asc.sub {l m : List KV} (h : Asc l) (hs : m.Sublist l) : Asc m := List.Pairwise.sublist hs h
theorem Asc.le {l : List KV} (h : Asc l) {i j : Nat} {a b : KV} (hij : i ≤ j) (ha : l[i]? = some a) (hb : l[j]? = some b) : cmp a.k b.k ≤ 0 := by
  rcases Nat.lt_or_eq_of_le hij with g | rfl
  · obtain ⟨h1, e1⟩ := List.getElem?_eq_some_iff.1 ha
    obtain ⟨h2, e2⟩ := List.getElem?_eq_some_iff.1 hb
    rw [← e1, ← e2]
    exact List.pairwise_iff_getElem.1 h i j h1 h2 g
  · rw [ha] at hb; cases hb; rw [cmp_self]; omega
/-- Two stretches that have changed places. -/
def Swp (xs : List KV) (a b n : Nat) (ys : List KV) : Prop := ys.length = xs.length ∧ ∀ k, k < xs.length → ys[k]? = if a ≤ k ∧ k < a + n then xs[k + (b - a)]? else if b ≤ k ∧ k < b + n then xs[k - (b - a)]? else xs[k]?
theorem Swp.parts {x u y v z ys : List KV} {a b n : Nat} (ha : a = x.length) (hb : b = x.length + u.length + y.length) (hn : u.length = n) (hv : v.length = n) (h : Swp (x ++ (u ++ (y ++ (v ++ z)))) a b n ys) : ys = x ++ (v ++ (y ++ (u ++ z))) := by
  subst ha; subst hb; subst hn
  obtain ⟨h1, h2⟩ := h
  apply List.ext_getElem?
  intro k
  by_cases hk : k < (x ++ (u ++ (y ++ (v ++ z)))).length
  · rw [h2 k hk]
    simp only [List.length_append] at hk
    simp only [List.getElem?_append]
    repeat' split
    all_goals first
      | rfl
      | (exfalso; omega)
      | (congr 1; omega)
  · rw [List.getElem?_eq_none (by omega), List.getElem?_eq_none (by simp only [List.length_append] at *; omega)]
/-- What a merge makes of two lists that rise. -/
structure Mrg (l s : List KV) : Prop where
  st : Stb l s
  up : Asc s
theorem Mrg.parts {A1 A2 B1 B2 s1 s2 : List KV} (hA : Asc (A1 ++ A2)) (hB : Asc (B1 ++ B2)) (h1 : ∀ b ∈ B1, ∀ a ∈ A2, cmp b.k a.k < 0) (h2 : ∀ a ∈ A1, ∀ b ∈ B2, cmp a.k b.k ≤ 0) (m1 : Mrg (A1 ++ B1) s1) (m2 : Mrg (A2 ++ B2) s2) : Mrg ((A1 ++ A2) ++ (B1 ++ B2)) (s1 ++ s2) := by
  obtain ⟨a1, a2, a3⟩ := asc_app.1 hA
  obtain ⟨b1, b2, b3⟩ := asc_app.1 hB
  constructor
  · have e1 : Stb ((A1 ++ A2) ++ (B1 ++ B2)) ((A1 ++ B1) ++ (A2 ++ B2)) := by
      have := (Stb.refl A1).app ((Stb.swap (u := A2) (v := B1) fun a ha b hb e => by have := h1 b hb a ha; rw [e, cmp_self] at this; omega).app (Stb.refl B2))
      simpa only [List.append_assoc] using this
    exact e1.trans (m1.st.app m2.st)
  · refine asc_app.2 ⟨m1.up, m2.up, fun a ha b hb => ?_⟩
    rcases List.mem_append.1 (m1.st.perm.mem_iff.2 ha) with ha | ha <;> rcases List.mem_append.1 (m2.st.perm.mem_iff.2 hb) with hb | hb
    · exact a3 a ha b hb
    · exact h2 a ha b hb
    · have := h1 a ha b hb; omega
    · exact b3 a ha b hb
theorem Mrg.ins {u s1 s2 : List KV} {e : KV} (h : Mrg u (s1 ++ s2)) (h1 : ∀ y ∈ s1, cmp y.k e.k ≤ 0) (h2 : ∀ y ∈ s2, cmp e.k y.k < 0) : Mrg (u ++ [e]) (s1 ++ e :: s2) := by
  constructor
  · have e1 := (h.st.app (Stb.refl [e])).trans (show Stb ((s1 ++ s2) ++ [e]) (s1 ++ e :: s2) from by
      have := (Stb.refl s1).app (Stb.swap (u := s2) (v := [e]) fun a ha b hb g => by
        rw [List.mem_singleton.1 hb] at g
        have := h2 a ha
        rw [g, cmp_self] at this; omega)
      simpa only [List.append_assoc, List.singleton_append] using this)
    exact e1
  · obtain ⟨a1, a2, a3⟩ := asc_app.1 h.up
    refine asc_app.2 ⟨a1, List.pairwise_cons.2 ⟨fun y hy => by have := h2 y hy; omega, a2⟩, fun a ha b hb => ?_⟩
    rcases List.mem_cons.1 hb with rfl | hb
    · exact h1 a ha
    · exact a3 a ha b hb
theorem Mrg.refl {l : List KV} (h : Asc l) : Mrg l l := ⟨Stb.refl l, h⟩
/-- All stretches of so many rise. -/
def Blk (B : Nat) (l : List KV) : Prop := ∀ k, Asc ((l.drop (k * B)).take B)
theorem Blk.nil {B : Nat} : Blk B [] := fun k => by simp [Asc.nil]
theorem Blk.drop {B j : Nat} {l : List KV} (h : Blk B l) : Blk B (l.drop (j * B)) := fun k => by
  have := h (j + k)
  rwa [Nat.add_mul, ← List.drop_drop] at this
theorem Blk.app {B m : Nat} {l s : List KV} (hl : l.length = m * B) (h : Blk B l) (hs : Asc s) (hn : s.length ≤ B) : Blk B (l ++ s) := fun k => by
  by_cases g : k < m
  · have e : (k + 1) * B ≤ m * B := Nat.mul_le_mul_right _ g
    rw [Nat.add_mul, Nat.one_mul] at e
    rw [List.drop_append_of_le_length (by omega), List.take_append_of_le_length (by rw [List.length_drop]; omega)]
    exact h k
  · have e : m * B ≤ k * B := Nat.mul_le_mul_right _ (by omega)
    have : (l ++ s).drop (k * B) = s.drop (k * B - m * B) := by
      rw [List.drop_append, List.drop_of_length_le (by omega), hl]; rfl
    rw [this]
    exact hs.sub ((List.take_sublist _ _).trans (List.drop_sublist _ _))
end Go.Sx
namespace Go.Sx
open Go Go.Proofs
set_option maxRecDepth 10000
variable {w0 : World} {H : List Ck}
end Go.Sx

