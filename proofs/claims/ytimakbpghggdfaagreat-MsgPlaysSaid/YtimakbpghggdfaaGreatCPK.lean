/- Part of a proof: the document's sorted keys, walked. -/
import Derived.Test.YtimakbpghggdfaaGreatCQ1j
import Derived.Test.YtimakbpghggdfaaGreatCKB
import Derived.Test.YtimakbpghggdfaaGreatCQB
import Derived.Test.YtimakbpghggdfaaGreatCO2j
namespace Go.Sx
open Go Go.Proofs
set_option maxRecDepth 10000
variable {w0 : World} {H : List Ck}
/-- Keys, each above the one ahead. -/
abbrev RiB (l : List SB) : Prop := l.Pairwise fun a b => cmp a.xs b.xs < 0
def mrgU : List SB → List SB → List SB
  | [], qs => qs
  | a :: ps, [] => a :: ps
  | a :: ps, b :: qs => if cmp a.xs b.xs < 0 then a :: mrgU ps (b :: qs) else if cmp a.xs b.xs = 0 then a :: mrgU ps qs else b :: mrgU (a :: ps) qs
termination_by ps qs => ps.length + qs.length
theorem mrgU_nil (ps : List SB) : mrgU ps [] = ps := by cases ps <;> simp [mrgU]
theorem mrgU_mem {s : SB} : ∀ (ps qs : List SB), s ∈ mrgU ps qs → s ∈ ps ∨ s ∈ qs
  | [], qs, h => by simp only [mrgU] at h; exact .inr h
  | a :: ps, [], h => by simp only [mrgU] at h; exact .inl h
  | a :: ps, b :: qs, h => by
    simp only [mrgU] at h
    split at h
    · rcases List.mem_cons.1 h with rfl | h
      · simp
      · rcases mrgU_mem ps (b :: qs) h with h | h
        · simp [h]
        · exact .inr h
    · split at h
      · rcases List.mem_cons.1 h with rfl | h
        · simp
        · rcases mrgU_mem ps qs h with h | h <;> simp [h]
      · rcases List.mem_cons.1 h with rfl | h
        · simp
        · rcases mrgU_mem (a :: ps) qs h with h | h
          · exact .inl h
          · simp [h]
termination_by ps qs => ps.length + qs.length
theorem mrgU_key {k : Bs} : ∀ (ps qs : List SB), k ∈ (mrgU ps qs).map SB.xs ↔ k ∈ ps.map SB.xs ∨ k ∈ qs.map SB.xs
  | [], qs => by simp [mrgU]
  | a :: ps, [] => by simp [mrgU]
  | a :: ps, b :: qs => by
    simp only [mrgU]
    split
    · rw [List.map_cons, List.mem_cons, mrgU_key ps (b :: qs), List.map_cons, List.mem_cons, List.map_cons, List.mem_cons]
      constructor
      · rintro (h | h | h | h) <;> simp [h]
      · rintro ((h | h) | h | h) <;> simp [h]
    · split
      · rename_i he
        have he := (cmp_eq _ _).1 he
        rw [List.map_cons, List.mem_cons, mrgU_key ps qs, List.map_cons, List.mem_cons, List.map_cons, List.mem_cons]
        constructor
        · rintro (h | h | h) <;> simp [h]
        · rintro ((h | h) | h | h)
          · simp [h]
          · simp [h]
          · rw [← he] at h; simp [h]
          · simp [h]
      · rw [List.map_cons, List.mem_cons, mrgU_key (a :: ps) qs, List.map_cons, List.mem_cons, List.map_cons, List.mem_cons]
        constructor
        · rintro (h | (h | h) | h) <;> simp [h]
        · rintro ((h | h) | h | h) <;> simp [h]
termination_by ps qs => ps.length + qs.length
theorem mrgU_up : ∀ (ps qs : List SB), RiB ps → RiB qs → RiB (mrgU ps qs)
  | [], qs, _, h => by simp only [mrgU]; exact h
  | a :: ps, [], h, _ => by simp only [mrgU]; exact h
  | a :: ps, b :: qs, ha, hb => by
    obtain ⟨a1, a2⟩ := List.pairwise_cons.1 ha
    obtain ⟨b1, b2⟩ := List.pairwise_cons.1 hb
    simp only [mrgU]
    split
    · rename_i hc
      refine List.pairwise_cons.2 ⟨fun s hs => ?_, mrgU_up ps (b :: qs) a2 hb⟩
      rcases mrgU_mem _ _ hs with h | h
      · exact a1 s h
      · rcases List.mem_cons.1 h with rfl | h
        · exact hc
        · exact lt_tr hc (by have := b1 s h; omega)
    · split
      · rename_i hc he
        refine List.pairwise_cons.2 ⟨fun s hs => ?_, mrgU_up ps qs a2 b2⟩
        rcases mrgU_mem _ _ hs with h | h
        · exact a1 s h
        · have := b1 s h
          rw [(cmp_eq _ _).1 he]
          exact this
      · rename_i hc he
        have hlt : cmp b.xs a.xs < 0 := by have := cmp_anti a.xs b.xs; omega
        refine List.pairwise_cons.2 ⟨fun s hs => ?_, mrgU_up (a :: ps) qs ha b2⟩
        rcases mrgU_mem _ _ hs with h | h
        · rcases List.mem_cons.1 h with rfl | h
          · exact hlt
          · exact lt_tr hlt (by have := a1 s h; omega)
        · exact b1 s h
termination_by ps qs => ps.length + qs.length
structure SrI where
  i : Nat
  k : Nat
  a : Option Addr
  c : Nat
  os : List SB
abbrev SrtR (w0 : World) (ks : List SB) (H : List Ck) : Value → List Ck → Prop := fun v H' => ∃ a c os L, v = .slice a (os : List SB).length c ∧ RiB os ∧ (∀ key, key ∈ os.map SB.xs ↔ key ∈ ks.map SB.xs) ∧ (∀ s ∈ os, s ∈ ks) ∧ os.length ≤ ks.length ∧ H' = .star L :: H ∧ RSl w0 H' a c os
set_option maxHeartbeats 4000000 in
theorem rsorted_s : ∀ (n : Nat) {H : List Ck} {b : Option Addr} {d : Nat} {ks : List SB}, RSl w0 H b d ks → (∀ s ∈ ks, RBy w0 H s.a s.c s.xs) → ks.length ≤ n → ks.length ≤ 549755813888 →
    FnS Tryz.prog w0 H 154 #[.slice b ks.length d] (SrtR w0 ks H) := by
  intro n
  induction n with
  | zero =>
    intro H b d ks hy hr hn hm
    obtain rfl : ks = [] := List.eq_nil_of_length_eq_zero (by omega)
    refine fns_enter Tryz.func154 rfl rfl rfl ?_
    refine sx ?_
    exact s_ret1 rfl rfl ⟨b, d, [], [], rfl, List.Pairwise.nil, fun _ => Iff.rfl, fun _ h => h, Nat.le_refl _, rfl, hy.tl⟩ Ent.star0
  | succ n ih =>
    intro H b d ks hy hr hn hm
    refine fns_enter Tryz.func154 rfl rfl rfl ?_
    refine s_kn (Kn.sl hy) fun ⟨l1, l2⟩ => ?_
    simp only [maxLen] at l2
    refine sx ?_
    refine s_if rfl (fun t1 => ?_) (fun t1 => ?_)
    · refine sx ?_
      refine s_ret1 rfl rfl ⟨b, d, ks, [], rfl, ?_, fun _ => Iff.rfl, fun _ h => h, Nat.le_refl _, rfl, hy.tl⟩ Ent.star0
      rcases ks with _ | ⟨x, _ | ⟨y, r⟩⟩
      · exact List.Pairwise.nil
      · exact List.pairwise_singleton _ _
      · simp only [List.length_cons] at t1; omega
    refine sx ?_
    obtain ⟨m, hm2⟩ : ∃ m, m = ks.length / 2 := ⟨_, rfl⟩
    refine s_rw (t := 16) (v' := .int .i64 (m : Int)) rfl (by rw [hm2]; norm_cast) ?_
    refine s_yS rfl rfl rfl (y_slT (k := m) rfl rfl (by omega)) ?_
    have hlt : (ks.take m).length = m := by rw [List.length_take]; omega
    have hld : (ks.drop m).length = ks.length - m := List.length_drop
    have c1 := ih (hy.take (k := m) (by omega)) (fun s hs => hr s (List.mem_of_mem_take hs)) (by omega) (by omega)
    rw [hlt] at c1
    refine sx ?_
    refine s_call rfl c1 ?_
    rintro _ _ ⟨pa, pc, A, LA, rfl, hA1, hA2, hA3, hA4, rfl, hRA⟩
    refine ⟨chk_seq, ?_⟩
    refine sx ?_
    refine s_rw (t := 22) (v' := .int .i64 (m : Int)) rfl (by rw [hm2]; norm_cast) ?_
    refine s_yS rfl rfl rfl (y_slF (k := m) rfl rfl (by omega)) ?_
    have c2 := ih (H := .star LA :: H) (hy.drop (j := m) (by omega)).tl (fun s hs => (hr s (List.mem_of_mem_drop hs)).tl) (by omega) (by omega)
    rw [hld] at c2
    refine sx ?_
    refine s_call rfl c2 ?_
    rintro _ _ ⟨qa, qc, B, LB, rfl, hB1, hB2, hB3, hB4, rfl, hRB⟩
    refine ⟨chk_seq, ?_⟩
    have hlA : A.length ≤ m := by omega
    have hlB : B.length ≤ ks.length - m := by omega
    have hrA : ∀ s ∈ A, RBy w0 H s.a s.c s.xs := fun s hs => hr s (List.mem_of_mem_take (hA3 s hs))
    have hrB : ∀ s ∈ B, RBy w0 H s.a s.c s.xs := fun s hs => hr s (List.mem_of_mem_drop (hB3 s hs))
    refine sx ?_
    refine s_loop (fun q : SrI => [(3, .slice pa A.length pc), (4, .slice qa B.length qc), (5, .slice q.a q.os.length q.c), (6, .int .i64 q.i), (7, .int .i64 q.k)]) (fun q => ol 24 q.a q.c q.os :: .star LB :: .star LA :: H) (fun q => q.i ≤ A.length ∧ q.k ≤ B.length ∧ q.os.length ≤ q.i + q.k ∧ q.os ++ mrgU (A.drop q.i) (B.drop q.k) = mrgU A B) (fun q => (A.length - q.i) + (B.length - q.k)) ⟨0, 0, none, 0, []⟩ ⟨Nat.zero_le _, Nat.zero_le _, Nat.le_refl _, by simp⟩ ?_ (he := Ent.nilS)
    rintro ⟨i, k, oa, oc, os⟩ ⟨g1, g2, g3, g4⟩
    simp only at g1 g2 g3 g4 ⊢
    have hRA' : RSl w0 (ol 24 oa oc os :: .star LB :: .star LA :: H) pa pc A := hRA.tl.tl
    have hRB' : RSl w0 (ol 24 oa oc os :: .star LB :: .star LA :: H) qa qc B := hRB.tl
    rcases Nat.lt_or_ge i A.length with u1 | u1
    · obtain ⟨x, hxa⟩ := get_lt A i u1
      have hrx : RBy w0 (ol 24 oa oc os :: .star LB :: .star LA :: H) x.a x.c x.xs := (hrA x (List.mem_of_getElem? hxa)).tl.tl.tl
      rcases Nat.lt_or_ge k B.length with u2 | u2
      · obtain ⟨y, hyb⟩ := get_lt B k u2
        have hry : RBy w0 (ol 24 oa oc os :: .star LB :: .star LA :: H) y.a y.c y.xs := (hrB y (List.mem_of_getElem? hyb)).tl.tl.tl
        have hml : mrgU (A.drop i) (B.drop k) = if cmp x.xs y.xs < 0 then x :: mrgU (A.drop (i + 1)) (B.drop k) else if cmp x.xs y.xs = 0 then x :: mrgU (A.drop (i + 1)) (B.drop (k + 1)) else y :: mrgU (A.drop i) (B.drop (k + 1)) := by
          rw [dropG hxa, dropG hyb]
          simp only [mrgU]
        refine sx ?_
        refine s_rw (t := 29) (v' := .bool true) rfl (congrArg Value.bool (decide_eq_true (by omega))) ?_
        refine sx ?_
        refine s_if rfl (fun t => absurd t (by omega)) (fun _ => ?_)
        refine sx ?_
        refine s_if rfl (fun t => absurd t (by omega)) (fun _ => ?_)
        refine sx ?_; refine s_dr (.one true 0 (.one true 1 (.one true 2 (.one true 3 (.one true 4 (.one true 5 (.one true 6 (.one true 7 (.one false 8 (.one true 9 .nil)))))))))) mixed (by kernel_rfl) ?_; refine sx ?_
        refine s_callV rfl (qcmp_s (xs := x.xs) (ys := y.xs) (by exact rby) (by exact rby)) ?_
        refine sx ?_
        rcases Int.lt_trichotomy (cmp x.xs y.xs) 0 with t3 | t3 | t3
        · rw [if_pos t3] at hml
          refine s_if rfl (fun _ => ?_) (fun t => absurd (by omega) t)
          refine sx ?_
          refine s_bsl [x] rfl rfl fun b77 => ?_
          refine s_app (xs := os) (ys := [x]) ?_ (hby := by simp only [List.length_cons, List.length_nil]; omega)
          intro a4 c4
          refine sx ?_
          refine s_if rfl (fun t => absurd t (by omega)) (fun _ => ?_)
          refine sx ?_
          refine s_if rfl (fun t => absurd t (by omega)) (fun _ => ?_)
          refine sx ?_
          refine s_again ⟨i + 1, k, a4, c4, os ++ [x]⟩ ⟨by simp only; omega, by simp only; omega, by simp only [List.length_append, List.length_cons, List.length_nil]; omega, ?_⟩ (by simp only; omega)
          simp only
          rw [← g4, hml, List.append_assoc]
          rfl
        · rw [if_neg (by omega), if_pos t3] at hml
          refine s_if rfl (fun _ => ?_) (fun t => absurd (by omega) t)
          refine sx ?_
          refine s_bsl [x] rfl rfl fun b77 => ?_
          refine s_app (xs := os) (ys := [x]) ?_ (hby := by simp only [List.length_cons, List.length_nil]; omega)
          intro a4 c4
          refine sx ?_
          refine s_if rfl (fun _ => ?_) (fun t => absurd t3 t)
          refine sx ?_
          refine s_if rfl (fun t => absurd t (by omega)) (fun _ => ?_)
          refine sx ?_
          refine s_again ⟨i + 1, k + 1, a4, c4, os ++ [x]⟩ ⟨by simp only; omega, by simp only; omega, by simp only [List.length_append, List.length_cons, List.length_nil]; omega, ?_⟩ (by simp only; omega)
          simp only
          rw [← g4, hml, List.append_assoc]
          rfl
        · rw [if_neg (by omega), if_neg (by omega)] at hml
          refine s_if rfl (fun t => absurd t (by omega)) (fun _ => ?_)
          refine sx ?_
          refine s_if rfl (fun t => absurd t (by omega)) (fun _ => ?_)
          refine sx ?_
          refine s_if rfl (fun _ => ?_) (fun t => absurd t3 t)
          refine sx ?_
          refine s_bsl [y] rfl rfl fun b77 => ?_
          refine s_app (xs := os) (ys := [y]) ?_ (hby := by simp only [List.length_cons, List.length_nil]; omega)
          intro a4 c4
          refine sx ?_
          refine s_again ⟨i, k + 1, a4, c4, os ++ [y]⟩ ⟨by simp only; omega, by simp only; omega, by simp only [List.length_append, List.length_cons, List.length_nil]; omega, ?_⟩ (by simp only; omega)
          simp only
          rw [← g4, hml, List.append_assoc]
          rfl
      · obtain rfl : k = B.length := by omega
        have hml : mrgU (A.drop i) (B.drop B.length) = x :: mrgU (A.drop (i + 1)) (B.drop B.length) := by
          rw [List.drop_length, mrgU_nil, mrgU_nil]
          exact dropG hxa
        refine sx ?_
        refine s_rw (t := 29) (v' := .bool true) rfl (congrArg Value.bool (decide_eq_true (by omega))) ?_
        refine sx ?_
        refine s_bsl [x] rfl rfl fun b77 => ?_
        refine s_app (xs := os) (ys := [x]) ?_ (hby := by simp only [List.length_cons, List.length_nil]; omega)
        intro a4 c4
        refine sx ?_
        refine s_again ⟨i + 1, B.length, a4, c4, os ++ [x]⟩ ⟨by simp only; omega, by simp only; omega, by simp only [List.length_append, List.length_cons, List.length_nil]; omega, ?_⟩ (by simp only; omega)
        simp only
        rw [← g4, hml, List.append_assoc]
        rfl
    · obtain rfl : i = A.length := by omega
      rcases Nat.lt_or_ge k B.length with u2 | u2
      · obtain ⟨y, hyb⟩ := get_lt B k u2
        have hml : mrgU (A.drop A.length) (B.drop k) = y :: mrgU (A.drop A.length) (B.drop (k + 1)) := by
          rw [List.drop_length]
          simp only [mrgU]
          exact dropG hyb
        refine sx ?_
        refine s_rw (t := 29) (v' := .bool false) rfl (congrArg Value.bool (decide_eq_false (by omega))) ?_
        refine sx ?_
        refine s_if rfl (fun _ => ?_) (fun t => absurd (by omega) t)
        refine sx ?_
        refine s_if rfl (fun t => absurd t (by omega)) (fun _ => ?_)
        refine sx ?_
        refine s_bsl [y] rfl rfl fun b77 => ?_
        refine s_app (xs := os) (ys := [y]) ?_ (hby := by simp only [List.length_cons, List.length_nil]; omega)
        intro a4 c4
        refine sx ?_
        refine s_again ⟨A.length, k + 1, a4, c4, os ++ [y]⟩ ⟨by simp only; omega, by simp only; omega, by simp only [List.length_append, List.length_cons, List.length_nil]; omega, ?_⟩ (by simp only; omega)
        simp only
        rw [← g4, hml, List.append_assoc]
        rfl
      · obtain rfl : k = B.length := by omega
        refine sx ?_
        refine s_rw (t := 29) (v' := .bool false) rfl (congrArg Value.bool (decide_eq_false (by omega))) ?_
        refine sx ?_
        refine s_if rfl (fun t => absurd t (by omega)) (fun _ => ?_)
        refine sx ?_
        have hos : os = mrgU A B := by
          rw [← g4, List.drop_length, List.drop_length]
          simp [mrgU]
        refine s_ret1 rfl rfl ⟨oa, oc, os, [ol 24 oa oc os, .star LB, .star LA], rfl, ?_, ?_, ?_, by omega, rfl, ?_⟩ ?_
        · rw [hos]; exact mrgU_up _ _ hA1 hB1
        · intro key
          rw [hos, mrgU_key, hA2, hB2]
          have h0 : ks.map SB.xs = (ks.take m).map SB.xs ++ (ks.drop m).map SB.xs := by rw [← List.map_append, List.take_append_drop]
          rw [h0, List.mem_append]
        · intro s hs
          rw [hos] at hs
          rcases mrgU_mem _ _ hs with h | h
          · exact List.mem_of_mem_take (hA3 s h)
          · exact List.mem_of_mem_drop (hB3 s h)
        · exact RSl.ent (H' := ol 24 oa oc os :: .star LB :: .star LA :: H) RSl.hd (Ent.open Ent.refl)
        · exact Ent.star (L := [ol 24 oa oc os, .star LB, .star LA]) Ent.refl
end Go.Sx

