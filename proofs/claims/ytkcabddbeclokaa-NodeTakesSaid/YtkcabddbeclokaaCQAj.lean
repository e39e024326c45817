/- Part of a proof: several parts of a walk, one behind the other. -/
import Derived.Test.YtkcabddbeclokaaCB2
import Derived.Test.YtkcabddbeclokaaCO2
import Derived.Test.YtkcabddbeclokaaCKA
namespace Go.Sx
open Go Go.Proofs
set_option maxRecDepth 10000
variable {w0 : World} {H : List Ck}
abbrev spOk (d : List Int × List Bs) (i : Int) : Prop := d.2.length + 1 = d.1.length ∧ 0 ≤ i ∧ i < (d.1.length : Int)
def spR (d : List Int × List Bs) (w : T3) (i : Nat) : T3 := meR w (if 0 < i then d.2.getD (i - 1) [] else [], if i < d.2.length then d.2.getD i [] else [], !decide (i < d.2.length))
abbrev SpanR (d : List Int × List Bs) (w : T3) (i : Int) (H : List Ck) : Value → List Ck → Prop := fun v H' => ∃ r : Rg, v = .tuple #[.agg r.cells.toArray, .int .i64 (if spOk d i then 0 else 1)] ∧ r.d = (if spOk d i then spR d w i.toNat else t30) ∧ H' = oR r :: H
theorem spanR_1 {d : List Int × List Bs} {w : T3} {i : Int} (h : ¬ spOk d i) : SpanR d w i H (.tuple #[.agg rg0.cells.toArray, .int .i64 1]) (oR rg0 :: H) := ⟨rg0, by rw [if_neg h], by rw [if_neg h], rfl⟩
theorem spanR_0 {d : List Int × List Bs} {w : T3} {i : Nat} {r : Rg} (h : spOk d i) (hr : r.d = spR d w i) : SpanR d w i H (.tuple #[.agg r.cells.toArray, .int .i64 0]) (oR r :: H) := ⟨r, by rw [if_pos h], by rw [if_pos h, hr]; rfl, rfl⟩
theorem Kd.kgetD {k : Kd} {i : Nat} {p : SB} (h : k.ks[i]? = some p) : k.d.2.getD i [] = p.xs := by simp [h]
theorem bspan_s {k : Kd} {r : Rg} {i : Int} (hk : RKd w0 H k) (hr : RRg w0 H r) (hi : I64 i) (hkl : ∀ p ∈ k.ks, p.xs.length ≤ 140737488355328) (hl : r.lo.length ≤ 140737488355328 ∧ r.hi.length ≤ 140737488355328) :
    FnS Try.prog w0 H 32 #[.agg k.cells.toArray, .agg r.cells.toArray, .int .i64 i] (SpanR k.d r.d i H) := by
  refine fns_enter Try.func32 rfl rfl rfl ?_
  refine s_kn (Kn.kp hk) fun l1 => s_kn (Kn.kk hk) fun l2 => ?_
  simp only [maxLen] at l1 l2
  have hks := hk.ks
  have hkp : k.d.1.length = k.ps.length := rfl
  have hkd : k.d.2.length = k.ks.length := by simp
  refine sx ?_
  refine s_boxA rfl fun b3 => ?_
  refine sx ?_
  refine s_boxA rfl fun b4 => ?_
  refine sx ?_
  refine s_alloc fun b6 => ?_
  refine sx ?_
  refine s_callV rfl (bfits_s (k := k) (by exact rkd)) ?_
  refine sx ?_
  refine s_lifn rfl (fun t1 => ?_) (fun t1 => ?_)
  · refine sx ?_
    refine s_retcv rfl rfl rfl (by exact at_) rfl (spanR_1 (fun h => t1 (by have := h.1; omega))) ?_
    exact Ent.trans (H' := H) (by exact ent) hnilR
  refine sx ?_
  refine s_lif rfl (fun t2 => ?_) (fun t2 => ?_)
  · refine sx ?_
    refine s_retcv rfl rfl rfl (by exact at_) rfl (spanR_1 (fun h => by omega)) ?_
    exact Ent.trans (H' := H) (by exact ent) hnilR
  refine sx ?_
  refine s_if rfl (fun t3 => ?_) (fun t3 => ?_)
  · refine sx ?_
    refine s_retcv rfl rfl rfl (by exact at_) rfl (spanR_1 (fun h => by omega)) ?_
    exact Ent.trans (H' := H) (by exact ent) hnilR
  obtain ⟨n, rfl⟩ := Int.eq_ofNat_of_zero_le (by omega : 0 ≤ i)
  have hok : spOk k.d n := ⟨by omega, by omega, by simp only; omega⟩
  refine sx ?_
  refine s_alloc fun b8 => ?_
  refine sx ?_
  refine s_if rfl (fun t4 => ?_) (fun t4 => ?_)
  · obtain ⟨p, hp⟩ := get_lt k.ks (n - 1) (by omega)
    have hpb := hk.el p (List.mem_of_getElem? hp)
    have hpl := hkl p (List.mem_of_getElem? hp)
    have hpd := Kd.kgetD hp
    refine sx ?_
    refine s_if rfl (fun t5 => ?_) (fun t5 => ?_)
    · obtain ⟨q, hq⟩ := get_lt k.ks n (by omega)
      have hqb := hk.el q (List.mem_of_getElem? hq)
      have hql := hkl q (List.mem_of_getElem? hq)
      have hqd := Kd.kgetD hq
      refine sx ?_
      refine s_rw (t := 47) (v' := .agg (Rg.cells ⟨p.a, p.c, p.xs, q.a, q.c, q.xs, false⟩).toArray) rfl rfl ?_
      refine s_call rfl (omeet_s (r := r) (q := ⟨p.a, p.c, p.xs, q.a, q.c, q.xs, false⟩) (by exact rrg) ⟨by exact rby, by exact rby⟩ hl (by simp only; omega)) ?_
      rintro _ _ ⟨x, rfl, hx, rfl⟩
      refine ⟨chk_seq, ?_⟩
      refine sx ?_
      refine s_retcv rfl rfl rfl (by exact at_) rfl (spanR_0 hok ?_) (by exact ent)
      rw [hx, spR, if_pos (show 0 < n by omega), hpd, if_pos (show n < k.d.2.length by omega), hqd, decide_eq_true (show n < k.d.2.length by omega)]
      simp only [Bool.not_true]
    · refine sx ?_
      refine s_rw (t := 47) (v' := .agg (Rg.cells ⟨p.a, p.c, p.xs, none, 0, [], true⟩).toArray) rfl rfl ?_
      refine s_call rfl (omeet_s (r := r) (q := ⟨p.a, p.c, p.xs, none, 0, [], true⟩) (by exact rrg) ⟨by exact rby, by exact rby⟩ hl (by simp only [List.length_nil]; omega)) ?_
      rintro _ _ ⟨x, rfl, hx, rfl⟩
      refine ⟨chk_seq, ?_⟩
      refine sx ?_
      refine s_retcv rfl rfl rfl (by exact at_) rfl (spanR_0 hok ?_) (by exact ent)
      rw [hx, spR, if_pos (show 0 < n by omega), hpd, if_neg (show ¬ n < k.d.2.length by omega), decide_eq_false (show ¬ n < k.d.2.length by omega)]
      simp only [Bool.not_false]
  · refine sx ?_
    refine s_if rfl (fun t5 => ?_) (fun t5 => ?_)
    · obtain ⟨q, hq⟩ := get_lt k.ks n (by omega)
      have hqb := hk.el q (List.mem_of_getElem? hq)
      have hql := hkl q (List.mem_of_getElem? hq)
      have hqd := Kd.kgetD hq
      refine sx ?_
      refine s_rw (t := 47) (v' := .agg (Rg.cells ⟨none, 0, [], q.a, q.c, q.xs, false⟩).toArray) rfl rfl ?_
      refine s_call rfl (omeet_s (r := r) (q := ⟨none, 0, [], q.a, q.c, q.xs, false⟩) (by exact rrg) ⟨by exact rby, by exact rby⟩ hl (by simp only [List.length_nil]; omega)) ?_
      rintro _ _ ⟨x, rfl, hx, rfl⟩
      refine ⟨chk_seq, ?_⟩
      refine sx ?_
      refine s_retcv rfl rfl rfl (by exact at_) rfl (spanR_0 hok ?_) (by exact ent)
      rw [hx, spR, if_neg (show ¬ 0 < n by omega), if_pos (show n < k.d.2.length by omega), hqd, decide_eq_true (show n < k.d.2.length by omega)]
      simp only [Bool.not_true]
    · refine sx ?_
      refine s_rw (t := 47) (v' := .agg (Rg.cells ⟨none, 0, [], none, 0, [], true⟩).toArray) rfl rfl ?_
      refine s_call rfl (omeet_s (r := r) (q := ⟨none, 0, [], none, 0, [], true⟩) (by exact rrg) ⟨by exact rby, by exact rby⟩ hl (by simp only [List.length_nil]; omega)) ?_
      rintro _ _ ⟨x, rfl, hx, rfl⟩
      refine ⟨chk_seq, ?_⟩
      refine sx ?_
      refine s_retcv rfl rfl rfl (by exact at_) rfl (spanR_0 hok ?_) (by exact ent)
      rw [hx, spR, if_neg (show ¬ 0 < n by omega), if_neg (show ¬ n < k.d.2.length by omega), decide_eq_false (show ¬ n < k.d.2.length by omega)]
      simp only [Bool.not_false]
end Go.Sx
namespace Go.Sx
open Go
theorem common_anti : ∀ (x y : Bs), common y x = common x y
  | [], [] => rfl
  | [], _ :: _ => rfl
  | _ :: _, [] => rfl
  | a :: x, b :: y => by
    by_cases h : a = b
    · subst h; simp [common, common_anti x y]
    · have h' : ¬ b = a := fun e => h e.symm
      simp [common, h, h']
theorem common_take : ∀ (x y : Bs), x.take (common x y) = y.take (common x y)
  | [], _ => by simp [common]
  | _ :: _, [] => by simp [common]
  | a :: x, b :: y => by
    by_cases h : a = b
    · subst h; simp [common, common_take x y]
    · simp [common, h]
theorem common_ne : ∀ (x y : Bs), common x y < x.length → common x y < y.length → x.getD (common x y) 0 ≠ y.getD (common x y) 0
  | [], _, h, _ => by simp [common] at h
  | _ :: _, [], _, h => by simp [common] at h
  | a :: x, b :: y, h1, h2 => by
    by_cases h : a = b
    · subst h
      simp only [common, if_true, List.length_cons, List.getD_cons_succ] at *
      exact common_ne x y (by omega) (by omega)
    · simp only [common, if_neg h, List.getD_cons_zero]
      exact h
/-- Compare, where one is the other's beginning. -/
theorem cmp_beg {x y : Bs} (h : common x y = x.length ∨ common x y = y.length) : (cmp x y < 0 ↔ x.length < y.length) ∧ (cmp x y = 0 ↔ x.length = y.length) := by
  have h1 := cmp_common x y
  have h2 := common_le x y
  by_cases e1 : common x y = x.length <;> by_cases e2 : common x y = y.length
  · rw [if_pos ⟨e1, e2⟩] at h1; omega
  · rw [if_neg (fun g => e2 g.2), if_pos e1] at h1; omega
  · rw [if_neg (fun g => e1 g.1), if_neg e1, if_pos (.inl e2)] at h1; omega
  · exact absurd h (by rintro (g | g) <;> contradiction)
/-- Compare, where they part. -/
theorem cmp_part {x y : Bs} (h1 : common x y ≠ x.length) (h2 : common x y ≠ y.length) : (cmp x y < 0 ↔ x.getD (common x y) 0 < y.getD (common x y) 0) := by
  have h3 := common_le x y
  have hn := common_ne x y (by omega) (by omega)
  rw [cmp_common, if_neg (fun g => h1 g.1), if_neg h1]
  have hu : ∀ a b : UInt8, a ≠ b → (¬ b < a ↔ a < b) := fun a b e => by
    have : a.toNat ≠ b.toNat := fun g => e (UInt8.toNat_inj.1 g)
    simp only [UInt8.lt_iff_toNat_lt]
    omega
  by_cases hc : y.getD (common x y) 0 < x.getD (common x y) 0
  · rw [if_pos (.inr hc)]
    have := fun h => (hu _ _ hn).2 h hc
    constructor
    · intro g; omega
    · intro g; exact absurd g this
  · rw [if_neg (by rintro (g | g); exact h2 g; exact hc g)]
    exact ⟨fun _ => (hu _ _ hn).1 hc, fun _ => by omega⟩
/-- Nothing is between a key and the one with a nought behind it. -/
theorem cmp_next : ∀ (a : Bs), cmp a (a ++ [0]) = -1
  | [] => rfl
  | x :: a => by simp [cmp, cmp_next a]
theorem near_next : ∀ (a c : Bs), cmp a c < 0 → 0 ≤ cmp c (a ++ [0])
  | [], [], h => by simp [cmp] at h
  | [], z :: c, _ => by
    show 0 ≤ cmp (z :: c) [0]
    by_cases e : z = 0
    · subst e
      cases c <;> simp [cmp]
    · have h0 : (0 : UInt8) < z := by
        have : z.toNat ≠ 0 := fun g => e (UInt8.toNat_inj.1 (by simpa using g))
        simp only [UInt8.lt_iff_toNat_lt]
        show (0 : Nat) < _
        omega
      simp [cmp, e, h0]
  | x :: a, [], h => by simp [cmp] at h
  | x :: a, z :: c, h => by
    show 0 ≤ cmp (z :: c) (x :: (a ++ [0]))
    by_cases e : x = z
    · subst e
      simp only [cmp, if_true] at h ⊢
      exact near_next a c h
    · have e' : ¬ z = x := fun g => e g.symm
      simp only [cmp, if_neg e, if_neg e'] at h ⊢
      split at h
      · omega
      · rename_i g
        rw [if_pos (by
          have : x.toNat ≠ z.toNat := fun g => e (UInt8.toNat_inj.1 g)
          simp only [UInt8.lt_iff_toNat_lt] at *
          omega)]
        decide
/-- What is between two keys. -/
def btw (a b : Bs) : Bs := b.take (common a b + 1)
theorem btw_len : ∀ {a b : Bs}, cmp a b < 0 → common a b + 1 ≤ b.length
  | [], [], h => by simp [cmp] at h
  | [], _ :: _, _ => by simp [common]
  | _ :: _, [], h => by simp [cmp] at h
  | x :: a, y :: b, h => by
    by_cases e : x = y
    · subst e
      simp only [cmp, common, if_true, List.length_cons] at *
      have := btw_len h
      omega
    · simp [common, e]
theorem btw_above : ∀ {a b : Bs}, cmp a b < 0 → cmp a (btw a b) < 0
  | [], [], h => by simp [cmp] at h
  | [], y :: b, _ => by simp [btw, common, cmp]
  | _ :: _, [], h => by simp [cmp] at h
  | x :: a, y :: b, h => by
    by_cases e : x = y
    · subst e
      have := btw_above (a := a) (b := b) (by simpa [cmp] using h)
      simpa [btw, common, cmp] using this
    · simp only [cmp, if_neg e] at h
      simp only [btw, common, if_neg e, Nat.zero_add, List.take_succ_cons, List.take_zero, cmp]
      exact h
theorem take_le : ∀ (k : Nat) (b : Bs), cmp (b.take k) b ≤ 0
  | 0, [] => by simp [cmp]
  | 0, _ :: _ => by simp [cmp]
  | _ + 1, [] => by simp [cmp]
  | k + 1, x :: b => by simpa [cmp] using take_le k b
theorem btw_short : ∀ {a b c : Bs}, cmp a b < 0 → cmp a c < 0 → cmp c b ≤ 0 → common a b + 1 ≤ c.length
  | [], b, [], _, h, _ => by simp [cmp] at h
  | [], b, z :: c, _, _, _ => by simp [common]
  | x :: a, [], c, h, _, _ => by simp [cmp] at h
  | x :: a, y :: b, [], _, h, _ => by simp [cmp] at h
  | x :: a, y :: b, z :: c, h1, h2, h3 => by
    by_cases e : x = y
    · subst e
      by_cases e2 : x = z
      · subst e2
        simp only [cmp, common, if_true, List.length_cons] at *
        have := btw_short h1 h2 h3
        omega
      · exfalso
        have e2' : ¬ z = x := fun g => e2 g.symm
        simp only [cmp, if_neg e2, if_neg e2'] at h2 h3
        split at h2
        · omega
        · split at h3
          · omega
          · have : x.toNat ≠ z.toNat := fun g => e2 (UInt8.toNat_inj.1 g)
            simp only [UInt8.lt_iff_toNat_lt] at *
            omega
    · simp [common, e]
theorem btw_ahead : ∀ (a b : Bs), cmp (b.take (common a b)) a ≤ 0 := fun a b => by
  rw [← common_take a b]
  exact take_le _ _
theorem cmp_zero_iff {a b : Bs} : cmp a b = 0 ↔ a = b := cmp_eq a b
end Go.Sx
