/- Part of a proof: the document's Place, and its look for the first stretch of which nothing is known, walked. -/
import Derived.Test.YtimakbpghggdfaaGreatCPK
namespace Go.Sx
open Go Go.Proofs
set_option maxRecDepth 10000
variable {w0 : World} {H : List Ck}
/-- This is where a key is, or would be. -/
structure PlA (ks : List SB) (k : Bs) (j : Nat) : Prop where
  le : j ≤ ks.length
  lo : ∀ i s, i < j → ks[i]? = some s → cmp s.xs k < 0
  hi : ∀ i s, j ≤ i → ks[i]? = some s → 0 ≤ cmp s.xs k
set_option maxHeartbeats 1000000 in
theorem rplace_s {a b : Option Addr} {c d : Nat} {ks : List SB} {k : Bs} {j : Nat} (hx : RSl w0 H a c ks) (hr : ∀ s ∈ ks, RBy w0 H s.a s.c s.xs) (hk : RBy w0 H b d k) (hj : PlA ks k j) (hkl : ks.length ≤ 1152921504606846976) :
    FnV Tryz.prog w0 H 155 #[.slice a ks.length c, .slice b k.length d] (.int .i64 j) := by
  refine fns_enter Tryz.func155 rfl rfl rfl ?_
  have hjl := hj.le
  refine s_kn (Kn.sl hx) fun ⟨l1, l2⟩ => ?_
  simp only [maxLen] at l2
  refine sx ?_
  refine s_loop (fun q : Nat × Nat => [(0, .slice a ks.length c), (1, .slice b k.length d), (5, .int .i64 q.1), (6, .int .i64 q.2)]) (fun _ => H) (fun q => q.1 ≤ j ∧ j ≤ q.2 ∧ q.2 ≤ ks.length) (fun q => q.2 - q.1) (0, ks.length) ⟨Nat.zero_le _, hjl, Nat.le_refl _⟩ ?_
  rintro ⟨lo, hi⟩ ⟨g1, g2, g3⟩
  simp only at g1 g2 g3 ⊢
  refine sx ?_
  refine s_if rfl (fun t1 => ?_) (fun t1 => ?_)
  · have t1 : (lo : Int) < (hi : Int) := t1
    obtain ⟨m, hm⟩ : ∃ m, m = (lo + hi) / 2 := ⟨_, rfl⟩
    have hm1 : lo ≤ m ∧ m < hi := by omega
    have hmc : ((lo : Int) + (hi : Int)) / 2 = (m : Int) := by rw [hm]; norm_cast
    obtain ⟨s, hs⟩ := get_lt ks m (by omega)
    have hrs := hr s (List.mem_of_getElem? hs)
    refine sx ?_
    refine s_rw (t := 7) (v' := .int .i64 (m : Int)) rfl (congrArg (Value.int .i64) hmc) ?_
    refine s_rw (t := 19) (v' := .int .i64 (m : Int)) rfl (congrArg (Value.int .i64) hmc) ?_
    refine sx ?_
    refine s_callV rfl (qless_s hrs hk) ?_
    refine sx ?_
    refine s_if rfl (fun t2 => ?_) (fun t2 => ?_)
    · have t2 : cmp s.xs k < 0 := t2
      have hmj : m < j := by
        rcases Nat.lt_or_ge m j with g | g
        · exact g
        · have := hj.hi m s g hs
          omega
      refine sx ?_
      exact s_again (m + 1, hi) ⟨by simp only; omega, g2, g3⟩ (by simp only; omega)
    · have t2 : ¬ cmp s.xs k < 0 := t2
      have hmj : j ≤ m := by
        rcases Nat.lt_or_ge m j with g | g
        · exact absurd (hj.lo m s g hs) t2
        · exact g
      refine sx ?_
      exact s_again (lo, m) ⟨g1, by simp only; omega, by simp only; omega⟩ (by simp only; omega)
  · obtain rfl : lo = j := by omega
    refine sx ?_
    exact s_ret1 rfl rfl ⟨rfl, rfl⟩
/-- From each place on the next one of which nothing is known, or nearer to it. -/
structure NxI (nx : List Int) (n : Nat) (U : Nat → Prop) : Prop where
  len : nx.length = n + 1
  top : U n
  self : ∀ i, i ≤ n → U i → nx[i]? = some (i : Int)
  skip : ∀ i, i ≤ n → ¬ U i → ∃ j : Nat, nx[i]? = some (j : Int) ∧ i < j ∧ j ≤ n ∧ ∀ t, i ≤ t → t < j → ¬ U t
/-- The first one of which nothing is known. -/
structure FstU (n : Nat) (U : Nat → Prop) (i e : Nat) : Prop where
  le : i ≤ e ∧ e ≤ n
  is : U e
  no : ∀ t, i ≤ t → t < e → ¬ U t
theorem NxI.put {nx : List Int} {n : Nat} {U : Nat → Prop} (h : NxI nx n U) {i e : Nat} (hi : i < e) (he : e ≤ n) (hn : ∀ t, i ≤ t → t < e → ¬ U t) : NxI (nx.set i (e : Int)) n U := by
  have hl := h.len
  refine ⟨by rw [List.length_set, hl], h.top, fun j hj hu => ?_, fun j hj hu => ?_⟩
  · have hne : i ≠ j := fun g => hn i (Nat.le_refl _) hi (g ▸ hu)
    rw [List.getElem?_set_ne hne]
    exact h.self j hj hu
  · by_cases g : i = j
    · subst g
      exact ⟨e, by rw [List.getElem?_set_self (by omega)], hi, he, hn⟩
    · rw [List.getElem?_set_ne g]
      exact h.skip j hj hu
set_option maxHeartbeats 1000000 in
theorem ropen_s {a : Option Addr} {c n i : Nat} {nx : List Int} {U : Nat → Prop} (hN : NxI nx n U) (hi : i ≤ n) :
    FnS Tryz.prog w0 (ol 3 a c nx :: H) 156 #[.slice a nx.length c, .int .i64 i] (fun v H' => ∃ (e : Nat) (nx' : List Int), v = .int .i64 e ∧ FstU n U i e ∧ NxI nx' n U ∧ nx'.length = nx.length ∧ H' = ol 3 a c nx' :: H) := by
  refine fns_enter Tryz.func156 rfl rfl rfl ?_
  refine s_kn (Kn.sl (RSl.hd (w0 := w0) (E := 3) (a := a) (c := c) (xs := nx) (H := H))) fun ⟨l1, l2⟩ => ?_
  simp only [maxLen] at l2
  have hl := hN.len
  refine sx ?_
  refine s_loop (fun e : Nat => [(0, .slice a nx.length c), (1, .int .i64 i), (5, .int .i64 e)]) (fun _ => ol 3 a c nx :: H) (fun e => i ≤ e ∧ e ≤ n ∧ ∀ t, i ≤ t → t < e → ¬ U t) (fun e => n - e) i ⟨Nat.le_refl _, hi, fun t h1 h2 => by omega⟩ ?_
  rintro e ⟨g1, g2, g3⟩
  by_cases hu : U e
  · have hs := hN.self e g2 hu
    refine sx ?_
    refine s_loop (fun q : Nat × List Int => [(0, .slice a nx.length c), (1, .int .i64 q.1), (5, .int .i64 e)]) (fun q => ol 3 a c q.2 :: H) (fun q => i ≤ q.1 ∧ q.1 ≤ e ∧ q.2.length = nx.length ∧ NxI q.2 n U) (fun q => e - q.1) (i, nx) ⟨Nat.le_refl _, g1, rfl, hN⟩ ?_
    rintro ⟨at', ns⟩ ⟨p1, p2, p3, p4⟩
    simp only at p1 p2 p3 p4 ⊢
    by_cases hue : at' = e
    · subst hue
      have hs := p4.self at' g2 hu
      refine s_rwC (t := 0) (v' := .slice a ns.length c) rfl (by rw [p3]) ?_
      refine sx ?_
      exact s_ret1 rfl rfl ⟨at', ns, rfl, ⟨⟨g1, g2⟩, hu, g3⟩, p4, p3, rfl⟩
    · have hnu : ¬ U at' := g3 at' p1 (by omega)
      obtain ⟨j, hs2, h1, h2, h3⟩ := p4.skip at' (by omega) hnu
      have hje : j ≤ e := by
        rcases Nat.lt_or_ge e j with g | g
        · exact absurd hu (h3 e (by omega) g)
        · exact g
      refine s_rwC (t := 0) (v' := .slice a ns.length c) rfl (by rw [p3]) ?_
      refine sx ?_
      refine s_cT rfl (by simp; omega) ?_
      refine sx ?_
      refine s_set1g (i := at') (y := (e : Int)) rfl rfl (by exact at_) rfl (by omega) ?_
      refine sx ?_
      refine s_rwQ (t := 0) (v' := .slice a nx.length c) rfl (by rw [p3]) ?_
      exact s_again (j, ns.set at' (e : Int)) ⟨by simp only; omega, hje, by simp only [List.length_set]; exact p3, p4.put (by omega) g2 (fun t h4 h5 => g3 t (by omega) h5)⟩ (by simp only; omega)
  · obtain ⟨j, hs, h1, h2, h3⟩ := hN.skip e g2 hu
    refine sx ?_
    refine s_cT rfl (by simp; omega) ?_
    refine sx ?_
    refine s_again j ⟨by omega, h2, fun t h4 h5 => ?_⟩ (by omega)
    by_cases h6 : t < e
    · exact g3 t h4 h6
    · exact h3 t (by omega) h5
end Go.Sx

