/- Part of a proof: several parts of a walk, one behind the other. -/
import Derived.Test.YtimakbpghggdfaaGreatCQB
import Derived.Test.YtimakbpghggdfaaGreatCO2j
import Derived.Test.YtimakbpghggdfaaGreatCKB
namespace Go.Sx
open Go
def kf (k : Bs) (e : KV) : Bool := decide (e.k = k)
/-- The same, and of each key in the same order. -/
structure Stb (l m : List KV) : Prop where
  perm : l.Perm m
  eq : ∀ k, l.filter (kf k) = m.filter (kf k)
theorem Stb.refl (l : List KV) : Stb l l := ⟨.refl _, fun _ => rfl⟩
theorem Stb.trans {l m n : List KV} (h1 : Stb l m) (h2 : Stb m n) : Stb l n := ⟨h1.perm.trans h2.perm, fun k => (h1.eq k).trans (h2.eq k)⟩
theorem Stb.app {l m l' m' : List KV} (h1 : Stb l m) (h2 : Stb l' m') : Stb (l ++ l') (m ++ m') := ⟨h1.perm.append h2.perm, fun k => by rw [List.filter_append, List.filter_append, h1.eq, h2.eq]⟩
theorem Stb.len {l m : List KV} (h : Stb l m) : l.length = m.length := h.perm.length_eq
theorem Stb.swap {u v : List KV} (h : ∀ a ∈ u, ∀ b ∈ v, a.k ≠ b.k) : Stb (u ++ v) (v ++ u) := ⟨List.perm_append_comm, fun k => by
  rw [List.filter_append, List.filter_append]
  by_cases g : ∃ a ∈ u, a.k = k
  · obtain ⟨a, ha, rfl⟩ := g
    have : v.filter (kf a.k) = [] := List.filter_eq_nil_iff.2 fun b hb => by
      simp only [kf, decide_eq_true_eq]
      exact fun e => h a ha b hb e.symm
    rw [this]; simp
  · have : u.filter (kf k) = [] := List.filter_eq_nil_iff.2 fun a ha => by
      simp only [kf, decide_eq_true_eq]
      exact fun e => g ⟨a, ha, e⟩
    rw [this]; simp⟩
def Asc (l : List KV) : Prop := l.Pairwise fun a b => cmp a.k b.k ≤ 0
theorem Asc.nil : Asc [] := List.Pairwise.nil
theorem Asc.one (e : KV) : Asc [e] := List.pairwise_singleton _ _
theorem asc_app {l m : List KV} : Asc (l ++ m) ↔ Asc l ∧ Asc m ∧ ∀ a ∈ l, ∀ b ∈ m, cmp a.k b.k ≤ 0 := List.pairwise_append
theorem Asc.sub {l m : List KV} (h : Asc l) (hs : m.Sublist l) : Asc m := List.Pairwise.sublist hs h
theorem Asc.le {l : List KV} (h : Asc l) {i j : Nat} {a b : KV} (hij : i ≤ j) (ha : l[i]? = some a) (hb : l[j]? = some b) : cmp a.k b.k ≤ 0 := by
  rcases Nat.lt_or_eq_of_le hij with g | rfl
  · obtain ⟨h1, e1⟩ := List.getElem?_eq_some_iff.1 ha
    obtain ⟨h2, e2⟩ := List.getElem?_eq_some_iff.1 hb
    rw [← e1, ← e2]
    exact List.pairwise_iff_getElem.1 h i j h1 h2 g
  · rw [ha] at hb; cases hb; rw [cmp_self]; omega
/-- Two stretches that have changed places. -/
def Swp (xs : List KV) (a b n : Nat) (ys : List KV) : Prop := ys.length = xs.length ∧ ∀ k, k < xs.length → ys[k]? = if a ≤ k ∧ k < a + n then xs[k + (b - a)]? else if b ≤ k ∧ k < b + n then xs[k - (b - a)]? else xs[k]?
theorem Swp.parts {x u y v z ys : List KV} {a b n : Nat} (ha : a = x.length) (hb : b = x.length + u.length + y.length) (hn : u.length = n) (hv : v.length = n) (h : Swp (x ++ (u ++ (y ++ (v ++ z)))) a b n ys) : ys = x ++ (v ++ (y ++ (u ++ z))) := by
  subst ha; subst hb; subst hn
  obtain ⟨h1, h2⟩ := h
  apply List.ext_getElem?
  intro k
  by_cases hk : k < (x ++ (u ++ (y ++ (v ++ z)))).length
  · rw [h2 k hk]
    simp only [List.length_append] at hk
    simp only [List.getElem?_append]
    repeat' split
    all_goals first
      | rfl
      | (exfalso; omega)
      | (congr 1; omega)
  · rw [List.getElem?_eq_none (by omega), List.getElem?_eq_none (by simp only [List.length_append] at *; omega)]
/-- All of the first ones of one list lie below all of the last ones of another. -/
theorem lt_of_ends {A B : List KV} {p q : Nat} (hA : Asc A) (hB : Asc B) (h : ∀ a b, A[p]? = some a → 0 < q → B[q - 1]? = some b → cmp b.k a.k < 0) (hq : q ≤ B.length) : ∀ b ∈ B.take q, ∀ a ∈ A.drop p, cmp b.k a.k < 0 := by
  intro b hb a ha
  obtain ⟨i, hi⟩ := List.getElem?_of_mem hb
  obtain ⟨j, hj⟩ := List.getElem?_of_mem ha
  rw [List.getElem?_drop] at hj
  rw [List.getElem?_take] at hi
  split at hi
  · rename_i g
    have hjl := (List.getElem?_eq_some_iff.1 hj).1
    have h1 : p < A.length := by omega
    have h2 : q - 1 < B.length := by omega
    have h3 := h _ _ (List.getElem?_eq_getElem h1) (by omega) (List.getElem?_eq_getElem h2)
    have h4 := hA.le (by omega : p ≤ p + j) (List.getElem?_eq_getElem h1) hj
    have h5 := hB.le (by omega : i ≤ q - 1) hi (List.getElem?_eq_getElem h2)
    exact tr_lt h5 (lt_tr h3 h4)
  · cases hi
theorem le_of_ends {A B : List KV} {p q : Nat} (hA : Asc A) (hB : Asc B) (h : ∀ a b, 0 < p → A[p - 1]? = some a → B[q]? = some b → cmp a.k b.k ≤ 0) (hp : p ≤ A.length) : ∀ a ∈ A.take p, ∀ b ∈ B.drop q, cmp a.k b.k ≤ 0 := by
  intro a ha b hb
  obtain ⟨i, hi⟩ := List.getElem?_of_mem ha
  obtain ⟨j, hj⟩ := List.getElem?_of_mem hb
  rw [List.getElem?_drop] at hj
  rw [List.getElem?_take] at hi
  split at hi
  · rename_i g
    have hjl := (List.getElem?_eq_some_iff.1 hj).1
    have h1 : p - 1 < A.length := by omega
    have h2 : q < B.length := by omega
    have h3 := h _ _ (by omega) (List.getElem?_eq_getElem h1) (List.getElem?_eq_getElem h2)
    have h4 := hA.le (by omega : i ≤ p - 1) hi (List.getElem?_eq_getElem h1)
    have h5 := hB.le (by omega : q ≤ q + j) (List.getElem?_eq_getElem h2) hj
    exact le_tr h4 (le_tr h3 h5)
  · cases hi
/-- What a merge makes of two lists that rise. -/
structure Mrg (l s : List KV) : Prop where
  st : Stb l s
  up : Asc s
theorem Mrg.parts {A1 A2 B1 B2 s1 s2 : List KV} (hA : Asc (A1 ++ A2)) (hB : Asc (B1 ++ B2)) (h1 : ∀ b ∈ B1, ∀ a ∈ A2, cmp b.k a.k < 0) (h2 : ∀ a ∈ A1, ∀ b ∈ B2, cmp a.k b.k ≤ 0) (m1 : Mrg (A1 ++ B1) s1) (m2 : Mrg (A2 ++ B2) s2) : Mrg ((A1 ++ A2) ++ (B1 ++ B2)) (s1 ++ s2) := by
  obtain ⟨a1, a2, a3⟩ := asc_app.1 hA
  obtain ⟨b1, b2, b3⟩ := asc_app.1 hB
  constructor
  · have e1 : Stb ((A1 ++ A2) ++ (B1 ++ B2)) ((A1 ++ B1) ++ (A2 ++ B2)) := by
      have := (Stb.refl A1).app ((Stb.swap (u := A2) (v := B1) fun a ha b hb e => by have := h1 b hb a ha; rw [e, cmp_self] at this; omega).app (Stb.refl B2))
      simpa only [List.append_assoc] using this
    exact e1.trans (m1.st.app m2.st)
  · refine asc_app.2 ⟨m1.up, m2.up, fun a ha b hb => ?_⟩
    rcases List.mem_append.1 (m1.st.perm.mem_iff.2 ha) with ha | ha <;> rcases List.mem_append.1 (m2.st.perm.mem_iff.2 hb) with hb | hb
    · exact a3 a ha b hb
    · exact h2 a ha b hb
    · have := h1 a ha b hb; omega
    · exact b3 a ha b hb
theorem Mrg.ins {u s1 s2 : List KV} {e : KV} (h : Mrg u (s1 ++ s2)) (h1 : ∀ y ∈ s1, cmp y.k e.k ≤ 0) (h2 : ∀ y ∈ s2, cmp e.k y.k < 0) : Mrg (u ++ [e]) (s1 ++ e :: s2) := by
  constructor
  · have e1 := (h.st.app (Stb.refl [e])).trans (show Stb ((s1 ++ s2) ++ [e]) (s1 ++ e :: s2) from by
      have := (Stb.refl s1).app (Stb.swap (u := s2) (v := [e]) fun a ha b hb g => by
        rw [List.mem_singleton.1 hb] at g
        have := h2 a ha
        rw [g, cmp_self] at this; omega)
      simpa only [List.append_assoc, List.singleton_append] using this)
    exact e1
  · obtain ⟨a1, a2, a3⟩ := asc_app.1 h.up
    refine asc_app.2 ⟨a1, List.pairwise_cons.2 ⟨fun y hy => by have := h2 y hy; omega, a2⟩, fun a ha b hb => ?_⟩
    rcases List.mem_cons.1 hb with rfl | hb
    · exact h1 a ha
    · exact a3 a ha b hb
theorem Mrg.refl {l : List KV} (h : Asc l) : Mrg l l := ⟨Stb.refl l, h⟩
theorem set_sw (P Q : List KV) (d e : KV) : ((P ++ d :: e :: Q).set (P.length + 1) d).set P.length e = P ++ e :: d :: Q := by
  induction P with
  | nil => rfl
  | cons a P ih => simp only [List.cons_append, List.length_cons, List.set_cons_succ, ih]
theorem set_sw2 (P Q : List KV) (d e : KV) : ((P ++ d :: e :: Q).set P.length e).set (P.length + 1) d = P ++ e :: d :: Q := by
  induction P with
  | nil => rfl
  | cons a P ih => simp only [List.cons_append, List.length_cons, List.set_cons_succ, ih]
theorem get_mid (P Q : List KV) (d : KV) : (P ++ d :: Q)[P.length]? = some d := by simp
theorem get_mid1 (P Q : List KV) (d e : KV) : (P ++ d :: e :: Q)[P.length + 1]? = some e := by
  rw [List.getElem?_append_right (by omega)]
  simp
/-- All stretches of so many rise. -/
def Blk (B : Nat) (l : List KV) : Prop := ∀ k, Asc ((l.drop (k * B)).take B)
theorem Blk.nil {B : Nat} : Blk B [] := fun k => by simp [Asc.nil]
theorem Blk.asc {B : Nat} {l : List KV} (h : Blk B l) (hl : l.length ≤ B) : Asc l := by
  have := h 0
  rwa [Nat.zero_mul, List.drop_zero, List.take_of_length_le hl] at this
theorem Blk.drop {B j : Nat} {l : List KV} (h : Blk B l) : Blk B (l.drop (j * B)) := fun k => by
  have := h (j + k)
  rwa [Nat.add_mul, ← List.drop_drop] at this
theorem Blk.app {B m : Nat} {l s : List KV} (hl : l.length = m * B) (h : Blk B l) (hs : Asc s) (hn : s.length ≤ B) : Blk B (l ++ s) := fun k => by
  by_cases g : k < m
  · have e : (k + 1) * B ≤ m * B := Nat.mul_le_mul_right _ g
    rw [Nat.add_mul, Nat.one_mul] at e
    rw [List.drop_append_of_le_length (by omega), List.take_append_of_le_length (by rw [List.length_drop]; omega)]
    exact h k
  · have e : m * B ≤ k * B := Nat.mul_le_mul_right _ (by omega)
    have : (l ++ s).drop (k * B) = s.drop (k * B - m * B) := by
      rw [List.drop_append, List.drop_of_length_le (by omega), hl]; rfl
    rw [this]
    exact hs.sub ((List.take_sublist _ _).trans (List.drop_sublist _ _))
end Go.Sx
namespace Go.Sx
open Go Go.Proofs
set_option maxRecDepth 10000
variable {w0 : World} {H : List Ck}
theorem acmp_s {x y : KV} (hx : RBy w0 H x.ka x.kc x.k) (hy : RBy w0 H y.ka y.kc y.k) : FnV Tryz.prog w0 H 37 #[.agg x.cells.toArray, .agg y.cells.toArray] (.int .i64 (cmp x.k y.k)) := by
  refine fns_enter Tryz.func37 rfl rfl rfl ?_
  refine sx ?_
  refine s_boxA rfl fun b2 => ?_
  refine sx ?_
  refine s_boxA rfl fun b3 => ?_
  refine sx ?_
  refine s_callV rfl (compare_s (by exact rby) (by exact rby)) ?_
  refine sx ?_
  exact s_ret1 rfl rfl ⟨rfl, rfl⟩
abbrev fcA : Value := .func (.func 37) #[] #[]
set_option maxHeartbeats 1000000 in
theorem swapR_s {a : Option Addr} {c p q n : Nat} {xs : List KV} (h1 : p + n ≤ q) (h2 : q + n ≤ xs.length) (hl : xs.length ≤ 1099511627776) :
    FnS Tryz.prog w0 (ol 31 a c xs :: H) 162 #[.slice a xs.length c, .int .i64 p, .int .i64 q, .int .i64 n, fcA] (fun v H' => v = .tuple #[] ∧ ∃ ys, Swp xs p q n ys ∧ H' = ol 31 a c ys :: H) := by
  refine fns_enter Tryz.func162 rfl rfl rfl ?_
  refine sx ?_
  refine s_loop (fun m : Nat × List KV => [(0, .slice a xs.length c), (1, .int .i64 p), (2, .int .i64 q), (3, .int .i64 n), (10, .int .i64 m.1)]) (fun m => ol 31 a c m.2 :: H) (fun m => m.1 ≤ n ∧ Swp xs p q m.1 m.2) (fun m => n - m.1) (0, xs) ⟨Nat.zero_le _, rfl, fun k hk => by rw [if_neg (by omega), if_neg (by omega)]⟩ ?_
  rintro ⟨i, ys⟩ ⟨hi, hyl, hyk⟩
  simp only at hi hyl hyk ⊢
  refine sx ?_
  refine s_if rfl (fun t1 => ?_) (fun t1 => ?_)
  · refine s_kn (φ := ∃ ad, a = some ad) (fun w hw => own_gA (c := c) (Sat.ownOf (c' := ol 31 a c ys) .hd hw) (by omega)) ?_
    rintro ⟨ad, rfl⟩
    obtain ⟨x, hx⟩ := get_lt ys (p + i) (by omega)
    obtain ⟨y, hy⟩ := get_lt ys (q + i) (by omega)
    have hx0 := hyk (p + i) (by omega)
    have hy0 := hyk (q + i) (by omega)
    rw [if_neg (by omega), if_neg (by omega)] at hx0 hy0
    rw [← hyl]
    apply s_joinU
    intro key
    have stp : StopAt 2 := trivial
    have hh : ∀ ys : List KV, RSl w0 (ol 31 (some ad) c ys :: H) (some ad) c ys := fun ys => RSl.hd
    refine sx ?_; refine s_drH (([] : List Ck)) (.one true 0 (.one true 1 (.one true 2 (.one true 3 (.one true 4 (.one true 5 (.one true 6 (.one true 7 (.one true 8 (.one true 9 (.one true 10 (.one true 11 (.one true 12 (.one true 14 (.one true 15 (.one true 16 (.one true 17 (.one true 18 (.alt (.one false 13 (.one false 19 (.one true 20 (.one false 21 (.one true 22 (.one false 23 .nil)))))) (.one false 19 (.one false 13 (.one true 20 (.one false 21 (.one true 22 (.one false 23 .nil))))))))))))))))))))))))) mixed (by kernel_rfl) ?_; refine sx ?_
    refine s_alt ?_ ?_
    · refine s_yA rfl rfl (by exact yy) ?_ (chk_held Ent.nil)
      refine s_yA rfl rfl (by exact yy) ?_ (chk_held Ent.nil)
      refine sx1 ?_
      refine s_setA (i := p + i) y rfl rfl (by exact at_) rfl (by omega) ?_ (hk := chk_held Ent.nil)
      refine sx1 ?_
      refine s_setA (i := q + i) x rfl rfl (by exact at_) rfl (by rw [List.length_set]; omega) ?_ (hk := chk_held Ent.nil)
      refine sxs ?_
      refine s_sub (l' := [(0, .slice (some ad) ys.length c), (1, .int .i64 p), (2, .int .i64 q), (3, .int .i64 n), (10, .int .i64 i)]) ?_ (by repeat (first | exact trivial | refine And.intro (by first | exact rfl | exact congrArg some (ci (by omega))) ?_))
      exact key.out
    · refine s_yA rfl rfl (by exact yy) ?_ (chk_held Ent.nil)
      refine s_yA rfl rfl (by exact yy) ?_ (chk_held Ent.nil)
      refine sx1 ?_
      refine s_setA (i := p + i) y rfl rfl (by exact at_) rfl (by omega) ?_ (hk := chk_held Ent.nil)
      refine sx1 ?_
      refine s_setA (i := q + i) x rfl rfl (by exact at_) rfl (by rw [List.length_set]; omega) ?_ (hk := chk_held Ent.nil)
      refine sxs ?_
      refine s_sub (l' := [(0, .slice (some ad) ys.length c), (1, .int .i64 p), (2, .int .i64 q), (3, .int .i64 n), (10, .int .i64 i)]) ?_ (by repeat (first | exact trivial | refine And.intro (by first | exact rfl | exact congrArg some (ci (by omega))) ?_))
      exact key.out
    rw [hyl]
    refine sx ?_
    refine s_again ⟨i + 1, (ys.set (p + i) y).set (q + i) x⟩ ⟨by simp only; omega, by simp only [List.length_set]; exact hyl, fun k hk => ?_⟩ (by simp only; omega) (he := by exact entq)
    simp only
    by_cases e1 : k = q + i
    · subst e1
      rw [List.getElem?_set_self (by rw [List.length_set]; omega), if_neg (by omega), if_pos (by omega), show q + i - (q - p) = p + i by omega, ← hx0, hx]
    · rw [List.getElem?_set_ne (Ne.symm e1)]
      by_cases e2 : k = p + i
      · subst e2
        rw [List.getElem?_set_self (by omega), if_pos (by omega), show p + i + (q - p) = q + i by omega, ← hy0, hy]
      · rw [List.getElem?_set_ne (Ne.symm e2), hyk k hk]
        by_cases g1 : p ≤ k ∧ k < p + i
        · rw [if_pos g1, if_pos (show p ≤ k ∧ k < p + (i + 1) by omega)]
        · rw [if_neg g1, if_neg (show ¬ (p ≤ k ∧ k < p + (i + 1)) by omega)]
          by_cases g2 : q ≤ k ∧ k < q + i
          · rw [if_pos g2, if_pos (show q ≤ k ∧ k < q + (i + 1) by omega)]
          · rw [if_neg g2, if_neg (show ¬ (q ≤ k ∧ k < q + (i + 1)) by omega)]
  · obtain rfl : i = n := by omega
    refine sx ?_
    exact s_end0 rfl ⟨rfl, ys, ⟨hyl, hyk⟩, rfl⟩
structure RoI where
  L : List KV
  A : List KV
  B : List KV
  R : List KV
set_option maxHeartbeats 1000000 in
theorem rotE_s {a : Option Addr} {c p m q : Nat} {x u v y : List KV} (hp : p = x.length) (hm : m = x.length + u.length) (hq : q = x.length + u.length + v.length) (hu : u ≠ []) (hv : v ≠ []) (hl : (x ++ (u ++ (v ++ y))).length ≤ 1099511627776) :
    FnS Tryz.prog w0 (ol 31 a c (x ++ (u ++ (v ++ y))) :: H) 135 #[.slice a (x ++ (u ++ (v ++ y))).length c, .int .i64 p, .int .i64 m, .int .i64 q, fcA] (fun r H' => r = .tuple #[] ∧ H' = ol 31 a c (x ++ (v ++ (u ++ y))) :: H) := by
  have hxl : (x ++ (u ++ (v ++ y))).length = x.length + u.length + v.length + y.length := by simp only [List.length_append]; omega
  rw [hxl] at hl
  have hu0 := List.length_pos_iff.2 hu
  have hv0 := List.length_pos_iff.2 hv
  refine fns_enter Tryz.func135 rfl rfl rfl ?_
  refine sx ?_
  rw [hxl]
  refine s_loop (fun s : RoI => [(0, .slice a (x.length + u.length + v.length + y.length) c), (2, .int .i64 m), (4, fcA), (10, .int .i64 s.A.length), (11, .int .i64 s.B.length)]) (fun s => ol 31 a c (x ++ (s.L ++ (s.A ++ (s.B ++ (s.R ++ y))))) :: H) (fun s => s.L ++ (s.B ++ (s.A ++ s.R)) = v ++ u ∧ 0 < s.A.length ∧ 0 < s.B.length ∧ s.L.length + s.A.length = u.length) (fun s => s.A.length + s.B.length) ⟨[], u, v, []⟩ ⟨by simp, hu0, hv0, by simp⟩ ?_ (h0 := by simp only; repeat (first | exact trivial | refine And.intro (by first | exact rfl | exact congrArg some (ci (by omega))) ?_)) (he := by simp only [List.nil_append]; exact Ent.refl)
  rintro ⟨L, A, B, R⟩ ⟨h1, h2, h3, h4⟩
  simp only at h1 h2 h3 h4 ⊢
  have h5 : L.length + B.length + A.length + R.length = v.length + u.length := by have := congrArg List.length h1; simp only [List.length_append] at this; omega
  have hcl : (x ++ (L ++ (A ++ (B ++ (R ++ y))))).length = x.length + u.length + v.length + y.length := by simp only [List.length_append]; omega
  refine sx ?_
  refine s_ifn rfl (fun t1 => ?_) (fun t1 => ?_)
  · refine sx ?_
    refine s_if rfl (fun t2 => ?_) (fun t2 => ?_)
    · have hA1 : (A.take B.length).length = B.length := by rw [List.length_take]; omega
      have hA2 : (A.drop B.length).length = A.length - B.length := List.length_drop
      have hxs : x ++ (L ++ (A ++ (B ++ (R ++ y)))) = (x ++ L) ++ (A.take B.length ++ (A.drop B.length ++ (B ++ (R ++ y)))) := by
        conv => lhs; rw [← List.take_append_drop B.length A]
        simp only [List.append_assoc]
      rw [← hcl]
      refine sx ?_
      refine s_rw (t := 27) (v' := .int .i64 ((x.length + L.length : Nat) : Int)) rfl (ci (by omega)) ?_
      refine s_call rfl (swapR_s (p := x.length + L.length) (q := m) (n := B.length) (xs := x ++ (L ++ (A ++ (B ++ (R ++ y))))) (by omega) (by omega) (by omega)) ?_
      rintro _ _ ⟨rfl, ys, hsw, rfl⟩
      refine ⟨chk_seq, ?_⟩
      rw [hxs] at hsw
      have e := Swp.parts (by rw [List.length_append]) (by rw [List.length_append]; omega) hA1 rfl hsw
      subst e
      rw [hcl]
      refine sx ?_
      refine s_again ⟨L ++ B, A.drop B.length, A.take B.length, R⟩ ⟨?_, by simp only; omega, by simp only; omega, by simp only [List.length_append]; omega⟩ (by simp only; omega) (hs := by simp only; repeat (first | exact trivial | refine And.intro (by first | exact rfl | exact congrArg some (ci (by omega))) ?_)) (he := by simp only [List.append_assoc]; exact Ent.refl)
      simp only
      rw [← h1]
      conv => rhs; rw [← List.take_append_drop B.length A]
      simp only [List.append_assoc]
    · have hB1 : (B.take (B.length - A.length)).length = B.length - A.length := by rw [List.length_take]; omega
      have hB2 : (B.drop (B.length - A.length)).length = A.length := by rw [List.length_drop]; omega
      have hxs : x ++ (L ++ (A ++ (B ++ (R ++ y)))) = (x ++ L) ++ (A ++ (B.take (B.length - A.length) ++ (B.drop (B.length - A.length) ++ (R ++ y)))) := by
        conv => lhs; rw [← List.take_append_drop (B.length - A.length) B]
        simp only [List.append_assoc]
      rw [← hcl]
      refine sx ?_
      refine s_rw (t := 38) (v' := .int .i64 ((x.length + L.length : Nat) : Int)) rfl (ci (by omega)) ?_
      refine s_rw (t := 43) (v' := .int .i64 ((m + B.length - A.length : Nat) : Int)) rfl (ci (by omega)) ?_
      refine s_call rfl (swapR_s (p := x.length + L.length) (q := m + B.length - A.length) (n := A.length) (xs := x ++ (L ++ (A ++ (B ++ (R ++ y))))) (by omega) (by omega) (by omega)) ?_
      rintro _ _ ⟨rfl, ys, hsw, rfl⟩
      refine ⟨chk_seq, ?_⟩
      rw [hxs] at hsw
      have e := Swp.parts (by rw [List.length_append]) (by rw [List.length_append]; omega) rfl hB2 hsw
      subst e
      rw [hcl]
      refine sx ?_
      refine s_again ⟨L, B.drop (B.length - A.length), B.take (B.length - A.length), A ++ R⟩ ⟨?_, by simp only; omega, by simp only; omega, by simp only; omega⟩ (by simp only; omega) (hs := by simp only; repeat (first | exact trivial | refine And.intro (by first | exact rfl | exact congrArg some (ci (by omega))) ?_)) (he := by simp only [List.append_assoc]; exact Ent.refl)
      simp only
      rw [← h1]
      conv => rhs; rw [← List.take_append_drop (B.length - A.length) B]
      simp only [List.append_assoc]
  · have hxs : x ++ (L ++ (A ++ (B ++ (R ++ y)))) = (x ++ L) ++ (A ++ ([] ++ (B ++ (R ++ y)))) := by simp only [List.append_assoc, List.nil_append]
    rw [← hcl]
    refine sx ?_
    refine s_rw (t := 53) (v' := .int .i64 ((x.length + L.length : Nat) : Int)) rfl (ci (by omega)) ?_
    refine s_call rfl (swapR_s (p := x.length + L.length) (q := m) (n := A.length) (xs := x ++ (L ++ (A ++ (B ++ (R ++ y))))) (by omega) (by omega) (by omega)) ?_
    rintro _ _ ⟨rfl, ys, hsw, rfl⟩
    refine ⟨chk_seq, ?_⟩
    rw [hxs] at hsw
    have e := Swp.parts (by rw [List.length_append]) (by rw [List.length_append]; simp only [List.length_nil]; omega) rfl (by omega) hsw
    subst e
    refine sx ?_
    have e2 : x ++ L ++ (B ++ ([] ++ (A ++ (R ++ y)))) = x ++ (v ++ (u ++ y)) := by
      rw [show v ++ (u ++ y) = (v ++ u) ++ y from (List.append_assoc ..).symm, ← h1]
      simp only [List.append_assoc, List.nil_append]
    rw [e2]
    exact s_end0 rfl ⟨rfl, rfl⟩
end Go.Sx

