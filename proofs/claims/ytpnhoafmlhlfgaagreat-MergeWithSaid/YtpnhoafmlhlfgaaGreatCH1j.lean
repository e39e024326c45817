/- Part of a proof: several parts of a walk, one behind the other. -/
import Derived.Test.YtpnhoafmlhlfgaaGreatCQB
import Derived.Test.YtpnhoafmlhlfgaaGreatCKB
namespace Go.Sx
open Go
def kf (k : Bs) (e : KV) : Bool := decide (e.k = k)
/-- The same, and of each key in the same order. -/
structure Stb (l m : List KV) : Prop where
  perm : l.Perm m
  eq : ∀ k, l.filter (kf k) = m.filter (kf k)
theorem Stb.refl (l : List KV) : Stb l l := ⟨.refl _, fun _ => rfl⟩
theorem Stb.trans {l m n : List KV} (h1 : Stb l m) (h2 : Stb m n) : Stb l n := ⟨h1.perm.trans h2.perm, fun k => (h1.eq k).trans (h2.eq k)⟩
theorem Stb.app {l m l' m' : List KV} (h1 : Stb l m) (h2 : Stb l' m') : Stb (l ++ l') (m ++ m') := ⟨h1.perm.append h2.perm, fun k => by rw [List.filter_append, List.filter_append, h1.eq, h2.eq]⟩
theorem Stb.len {l m : List KV} (h : Stb l m) : l.length = m.length := h.perm.length_eq
theorem Stb.swap {u v : List KV} (h : ∀ a ∈ u, ∀ b ∈ v, a.k ≠ b.k) : Stb (u ++ v) (v ++ u) := ⟨List.perm_append_comm, fun k => by
  rw [List.filter_append, List.filter_append]
  by_cases g : ∃ a ∈ u, a.k = k
  · obtain ⟨a, ha, rfl⟩ := g
    have : v.filter (kf a.k) = [] := List.filter_eq_nil_iff.2 fun b hb => by
      simp only [kf, decide_eq_true_eq]
      exact fun e => h a ha b hb e.symm
    rw [this]; simp
  · have : u.filter (kf k) = [] := List.filter_eq_nil_iff.2 fun a ha => by
      simp only [kf, decide_eq_true_eq]
      exact fun e => g ⟨a, ha, e⟩
    rw [this]; simp⟩
def Asc (l : List KV) : Prop := l.Pairwise fun a b => cmp a.k b.k ≤ 0
theorem Asc.nil : Asc [] := List.Pairwise.nil
theorem Asc.one (e : KV) : Asc [e] := List.pairwise_singleton _ _
theorem asc_app {l m : List KV} : Asc (l ++ m) ↔ Asc l ∧ Asc m ∧ ∀ a ∈ l, ∀ b ∈ m, cmp a.k b.k ≤ 0 := List.pairwise_append
theorem Asc.sub {l m : List KV} (h : Asc l) (hs : m.Sublist l) : Asc m := List.Pairwise.sublist hs h
theorem Asc.le {l : List KV} (h : Asc l) {i j : Nat} {a b : KV} (hij : i ≤ j) (ha : l[i]? = some a) (hb : l[j]? = some b) : cmp a.k b.k ≤ 0 := by
  rcases Nat.lt_or_eq_of_le hij with g | rfl
  · obtain ⟨h1, e1⟩ := List.getElem?_eq_some_iff.1 ha
    obtain ⟨h2, e2⟩ := List.getElem?_eq_some_iff.1 hb
    rw [← e1, ← e2]
    exact List.pairwise_iff_getElem.1 h i j h1 h2 g
  · rw [ha] at hb; cases hb; rw [cmp_self]; omega
/-- Two stretches that have changed places. -/
def Swp (xs : List KV) (a b n : Nat) (ys : List KV) : Prop := ys.length = xs.length ∧ ∀ k, k < xs.length → ys[k]? = if a ≤ k ∧ k < a + n then xs[k + (b - a)]? else if b ≤ k ∧ k < b + n then xs[k - (b - a)]? else xs[k]?
theorem Swp.parts {x u y v z ys : List KV} {a b n : Nat} (ha : a = x.length) (hb : b = x.length + u.length + y.length) (hn : u.length = n) (hv : v.length = n) (h : Swp (x ++ (u ++ (y ++ (v ++ z)))) a b n ys) : ys = x ++ (v ++ (y ++ (u ++ z))) := by
  subst ha; subst hb; subst hn
  obtain ⟨h1, h2⟩ := h
  apply List.ext_getElem?
  intro k
  by_cases hk : k < (x ++ (u ++ (y ++ (v ++ z)))).length
  · rw [h2 k hk]
    simp only [List.length_append] at hk
    simp only [List.getElem?_append]
    repeat' split
    all_goals first
      | rfl
      | (exfalso; omega)
      | (congr 1; omega)
  · rw [List.getElem?_eq_none (by omega), List.getElem?_eq_none (by simp only [List.length_append] at *; omega)]
/-- All of the first ones of one list lie below all of the last ones of another. -/
theorem lt_of_ends {A B : List KV} {p q : Nat} (hA : Asc A) (hB : Asc B) (h : ∀ a b, A[p]? = some a → 0 < q → B[q - 1]? = some b → cmp b.k a.k < 0) (hq : q ≤ B.length) : ∀ b ∈ B.take q, ∀ a ∈ A.drop p, cmp b.k a.k < 0 := by
  intro b hb a ha
  obtain ⟨i, hi⟩ := List.getElem?_of_mem hb
  obtain ⟨j, hj⟩ := List.getElem?_of_mem ha
  rw [List.getElem?_drop] at hj
  rw [List.getElem?_take] at hi
  split at hi
  · rename_i g
    have hjl := (List.getElem?_eq_some_iff.1 hj).1
    have h1 : p < A.length := by omega
    have h2 : q - 1 < B.length := by omega
    have h3 := h _ _ (List.getElem?_eq_getElem h1) (by omega) (List.getElem?_eq_getElem h2)
    have h4 := hA.le (by omega : p ≤ p + j) (List.getElem?_eq_getElem h1) hj
    have h5 := hB.le (by omega : i ≤ q - 1) hi (List.getElem?_eq_getElem h2)
    exact tr_lt h5 (lt_tr h3 h4)
  · cases hi
theorem le_of_ends {A B : List KV} {p q : Nat} (hA : Asc A) (hB : Asc B) (h : ∀ a b, 0 < p → A[p - 1]? = some a → B[q]? = some b → cmp a.k b.k ≤ 0) (hp : p ≤ A.length) : ∀ a ∈ A.take p, ∀ b ∈ B.drop q, cmp a.k b.k ≤ 0 := by
  intro a ha b hb
  obtain ⟨i, hi⟩ := List.getElem?_of_mem ha
  obtain ⟨j, hj⟩ := List.getElem?_of_mem hb
  rw [List.getElem?_drop] at hj
  rw [List.getElem?_take] at hi
  split at hi
  · rename_i g
    have hjl := (List.getElem?_eq_some_iff.1 hj).1
    have h1 : p - 1 < A.length := by omega
    have h2 : q < B.length := by omega
    have h3 := h _ _ (by omega) (List.getElem?_eq_getElem h1) (List.getElem?_eq_getElem h2)
    have h4 := hA.le (by omega : i ≤ p - 1) hi (List.getElem?_eq_getElem h1)
    have h5 := hB.le (by omega : q ≤ q + j) (List.getElem?_eq_getElem h2) hj
    exact le_tr h4 (le_tr h3 h5)
  · cases hi
/-- What a merge makes of two lists that rise. -/
structure Mrg (l s : List KV) : Prop where
  st : Stb l s
  up : Asc s
theorem Mrg.parts {A1 A2 B1 B2 s1 s2 : List KV} (hA : Asc (A1 ++ A2)) (hB : Asc (B1 ++ B2)) (h1 : ∀ b ∈ B1, ∀ a ∈ A2, cmp b.k a.k < 0) (h2 : ∀ a ∈ A1, ∀ b ∈ B2, cmp a.k b.k ≤ 0) (m1 : Mrg (A1 ++ B1) s1) (m2 : Mrg (A2 ++ B2) s2) : Mrg ((A1 ++ A2) ++ (B1 ++ B2)) (s1 ++ s2) := by
  obtain ⟨a1, a2, a3⟩ := asc_app.1 hA
  obtain ⟨b1, b2, b3⟩ := asc_app.1 hB
  constructor
  · have e1 : Stb ((A1 ++ A2) ++ (B1 ++ B2)) ((A1 ++ B1) ++ (A2 ++ B2)) := by
      have := (Stb.refl A1).app ((Stb.swap (u := A2) (v := B1) fun a ha b hb e => by have := h1 b hb a ha; rw [e, cmp_self] at this; omega).app (Stb.refl B2))
      simpa only [List.append_assoc] using this
    exact e1.trans (m1.st.app m2.st)
  · refine asc_app.2 ⟨m1.up, m2.up, fun a ha b hb => ?_⟩
    rcases List.mem_append.1 (m1.st.perm.mem_iff.2 ha) with ha | ha <;> rcases List.mem_append.1 (m2.st.perm.mem_iff.2 hb) with hb | hb
    · exact a3 a ha b hb
    · exact h2 a ha b hb
    · have := h1 a ha b hb; omega
    · exact b3 a ha b hb
theorem Mrg.ins {u s1 s2 : List KV} {e : KV} (h : Mrg u (s1 ++ s2)) (h1 : ∀ y ∈ s1, cmp y.k e.k ≤ 0) (h2 : ∀ y ∈ s2, cmp e.k y.k < 0) : Mrg (u ++ [e]) (s1 ++ e :: s2) := by
  constructor
  · have e1 := (h.st.app (Stb.refl [e])).trans (show Stb ((s1 ++ s2) ++ [e]) (s1 ++ e :: s2) from by
      have := (Stb.refl s1).app (Stb.swap (u := s2) (v := [e]) fun a ha b hb g => by
        rw [List.mem_singleton.1 hb] at g
        have := h2 a ha
        rw [g, cmp_self] at this; omega)
      simpa only [List.append_assoc, List.singleton_append] using this)
    exact e1
  · obtain ⟨a1, a2, a3⟩ := asc_app.1 h.up
    refine asc_app.2 ⟨a1, List.pairwise_cons.2 ⟨fun y hy => by have := h2 y hy; omega, a2⟩, fun a ha b hb => ?_⟩
    rcases List.mem_cons.1 hb with rfl | hb
    · exact h1 a ha
    · exact a3 a ha b hb
theorem Mrg.refl {l : List KV} (h : Asc l) : Mrg l l := ⟨Stb.refl l, h⟩
theorem set_sw (P Q : List KV) (d e : KV) : ((P ++ d :: e :: Q).set (P.length + 1) d).set P.length e = P ++ e :: d :: Q := by
  induction P with
  | nil => rfl
  | cons a P ih => simp only [List.cons_append, List.length_cons, List.set_cons_succ, ih]
theorem set_sw2 (P Q : List KV) (d e : KV) : ((P ++ d :: e :: Q).set P.length e).set (P.length + 1) d = P ++ e :: d :: Q := by
  induction P with
  | nil => rfl
  | cons a P ih => simp only [List.cons_append, List.length_cons, List.set_cons_succ, ih]
theorem get_mid (P Q : List KV) (d : KV) : (P ++ d :: Q)[P.length]? = some d := by simp
theorem get_mid1 (P Q : List KV) (d e : KV) : (P ++ d :: e :: Q)[P.length + 1]? = some e := by
  rw [List.getElem?_append_right (by omega)]
  simp
/-- All stretches of so many rise. -/
def Blk (B : Nat) (l : List KV) : Prop := ∀ k, Asc ((l.drop (k * B)).take B)
theorem Blk.nil {B : Nat} : Blk B [] := fun k => by simp [Asc.nil]
theorem Blk.asc {B : Nat} {l : List KV} (h : Blk B l) (hl : l.length ≤ B) : Asc l := by
  have := h 0
  rwa [Nat.zero_mul, List.drop_zero, List.take_of_length_le hl] at this
theorem Blk.drop {B j : Nat} {l : List KV} (h : Blk B l) : Blk B (l.drop (j * B)) := fun k => by
  have := h (j + k)
  rwa [Nat.add_mul, ← List.drop_drop] at this
theorem Blk.app {B m : Nat} {l s : List KV} (hl : l.length = m * B) (h : Blk B l) (hs : Asc s) (hn : s.length ≤ B) : Blk B (l ++ s) := fun k => by
  by_cases g : k < m
  · have e : (k + 1) * B ≤ m * B := Nat.mul_le_mul_right _ g
    rw [Nat.add_mul, Nat.one_mul] at e
    rw [List.drop_append_of_le_length (by omega), List.take_append_of_le_length (by rw [List.length_drop]; omega)]
    exact h k
  · have e : m * B ≤ k * B := Nat.mul_le_mul_right _ (by omega)
    have : (l ++ s).drop (k * B) = s.drop (k * B - m * B) := by
      rw [List.drop_append, List.drop_of_length_le (by omega), hl]; rfl
    rw [this]
    exact hs.sub ((List.take_sublist _ _).trans (List.drop_sublist _ _))
end Go.Sx
namespace Go.Sx
open Go
theorem get_map {α β : Type} {f : α → β} {l : List α} {i : Nat} {x : α} (h : l[i]? = some x) : (l.map f)[i]? = some (f x) := by simp [h]
theorem snocT {α : Type} {l : List α} {i : Nat} {e : α} (h : l[i]? = some e) : l.take (i + 1) = l.take i ++ [e] := by
  obtain ⟨hi, rfl⟩ := List.getElem?_eq_some_iff.1 h
  exact (List.take_append_getElem hi).symm
theorem dropG {α : Type} {l : List α} {i : Nat} {e : α} (h : l[i]? = some e) : l.drop i = e :: l.drop (i + 1) := by
  obtain ⟨hi, rfl⟩ := List.getElem?_eq_some_iff.1 h
  exact List.drop_eq_getElem_cons hi
section
variable {w0 : World} {H : List Ck}
theorem s_rwQ {n : Nat} {ds : Dx} {Q : Exit → Act → World → Prop} {e : Exit} {l : List (Nat × Value)} {t : Nat} {v v' : Value} (h : look l t = some v) (he : v = v') (k : SQ n ds Q e ((t, v') :: l) w0 H) : SQ n ds Q e l w0 H := by
  subst he
  refine .mk fun w hs => .mk fun a ha => (k.out w hs).out a ⟨ha.size, ha.defers, fun t' u ht => ?_⟩
  simp only [look] at ht
  by_cases e : t = t'
  · subst e; simp at ht; subst ht; exact ha.has _ _ h
  · have hb : Nat.beq t t' = false := by rw [← Bool.not_eq_true, Nat.beq_eq]; exact e
    rw [hb] at ht
    exact ha.has _ u ht
end
section
variable {fn : Func} {R : Value → World → Prop} {P : Program} {n : Nat} {l : List (Nat × Value)} {w : World}
/-- Two structs are returned. -/
theorem q_retcc {t t' : Tmp} {T : TypeId} {sz : Nat} [h : AgT P T sz] {k U k' U' : Nat} {vs vs' : List Value} (hr : fn.results = #[.cell t T, .cell t' T]) (hl : look l t = some (.pointer (some ⟨k, 0, none⟩))) (hl' : look l t' = some (.pointer (some ⟨k', 0, none⟩))) (hB : HB w k U vs) (hz : vs.length = sz) (hB' : HB w k' U' vs') (hz' : vs'.length = sz)
    (hR : R (.tuple #[.agg vs.toArray, .agg vs'.toArray]) w) : QJ n dx0 (bodyPost P fn (RetR R)) .ret l w := .mk fun a ha => by
  subst hz
  have h1 := run_loadCells_list (P := P) (w := w) ⟨k, 0, none⟩ vs hB.cells
  have h2 := run_loadCells_list (P := P) (w := w) ⟨k', 0, none⟩ vs' hB'.cells
  rw [hz'] at h2
  exact ⟨ha.defers, .tuple #[.agg vs.toArray, .agg vs'.toArray], by simp [results, hr, Array.getD_eq_getD_getElem?, ha.has _ _ hl, ha.has _ _ hl', asAddr, loadVar, h.agg, h.size, h1, h2], _, rfl, hR⟩
end
section
variable {P : Program} {fn : Func} {R : Value → List Ck → Prop} {n : Nat} {l : List (Nat × Value)} {w0 : World} {H H' : List Ck}
theorem s_retcc {t t' : Tmp} {T : TypeId} {sz : Nat} [h : AgT P T sz] {k U k' U' : Nat} {vs vs' : List Value} {H1 H2 : List Ck} (hr : fn.results = #[.cell t T, .cell t' T]) (hl : look l t = some (.pointer (some ⟨k, 0, none⟩))) (hl' : look l t' = some (.pointer (some ⟨k', 0, none⟩))) (hB : At (.hb k U vs) (.hb k U vs) H H1) (hz : vs.length = sz) (hB' : At (.hb k' U' vs') (.hb k' U' vs') H H2) (hz' : vs'.length = sz)
    (hR : R (.tuple #[.agg vs.toArray, .agg vs'.toArray]) H') (he : Ent H H' := by first | exact entq | exact ent) : SQ n dx0 (bodyPost P fn (RetR (RS w0 R))) .ret l w0 H := .mk fun _ hs => q_retcc hr hl hl' (Sat.hbOf hB hs) hz (Sat.hbOf hB' hs) hz' ⟨H', hR, hs.ent he⟩
end
end Go.Sx
