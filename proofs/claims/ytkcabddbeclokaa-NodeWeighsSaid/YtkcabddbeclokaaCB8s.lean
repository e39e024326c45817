/- branch.Span by the program. -/
import Derived.Test.YtkcabddbeclokaaCB2
import Derived.Test.YtkcabddbeclokaaCO2
namespace Go.Sx
open Go Go.Proofs
set_option maxRecDepth 10000
variable {w0 : World} {H : List Ck}
abbrev spOk (d : List Int × List Bs) (i : Int) : Prop := d.2.length + 1 = d.1.length ∧ 0 ≤ i ∧ i < (d.1.length : Int)
def spR (d : List Int × List Bs) (w : T3) (i : Nat) : T3 := meR w (if 0 < i then d.2.getD (i - 1) [] else [], if i < d.2.length then d.2.getD i [] else [], !decide (i < d.2.length))
abbrev SpanR (d : List Int × List Bs) (w : T3) (i : Int) (H : List Ck) : Value → List Ck → Prop := fun v H' => ∃ r : Rg, v = .tuple #[.agg r.cells.toArray, .int .i64 (if spOk d i then 0 else 1)] ∧ r.d = (if spOk d i then spR d w i.toNat else t30) ∧ H' = oR r :: H
theorem spanR_1 {d : List Int × List Bs} {w : T3} {i : Int} (h : ¬ spOk d i) : SpanR d w i H (.tuple #[.agg rg0.cells.toArray, .int .i64 1]) (oR rg0 :: H) := ⟨rg0, by rw [if_neg h], by rw [if_neg h], rfl⟩
theorem spanR_0 {d : List Int × List Bs} {w : T3} {i : Nat} {r : Rg} (h : spOk d i) (hr : r.d = spR d w i) : SpanR d w i H (.tuple #[.agg r.cells.toArray, .int .i64 0]) (oR r :: H) := ⟨r, by rw [if_pos h], by rw [if_pos h, hr]; rfl, rfl⟩
theorem Kd.kgetD {k : Kd} {i : Nat} {p : SB} (h : k.ks[i]? = some p) : k.d.2.getD i [] = p.xs := by simp [h]
theorem bspan_s {k : Kd} {r : Rg} {i : Int} (hk : RKd w0 H k) (hr : RRg w0 H r) (hi : I64 i) (hkl : ∀ p ∈ k.ks, p.xs.length ≤ 140737488355328) (hl : r.lo.length ≤ 140737488355328 ∧ r.hi.length ≤ 140737488355328) :
    FnS Try.prog w0 H 32 #[.agg k.cells.toArray, .agg r.cells.toArray, .int .i64 i] (SpanR k.d r.d i H) := by
  refine fns_enter Try.func32 rfl rfl rfl ?_
  refine s_kn (Kn.kp hk) fun l1 => s_kn (Kn.kk hk) fun l2 => ?_
  simp only [maxLen] at l1 l2
  have hks := hk.ks
  have hkp : k.d.1.length = k.ps.length := rfl
  have hkd : k.d.2.length = k.ks.length := by simp
  refine sx ?_
  refine s_boxA rfl fun b3 => ?_
  refine sx ?_
  refine s_boxA rfl fun b4 => ?_
  refine sx ?_
  refine s_alloc fun b6 => ?_
  refine sx ?_
  refine s_callV rfl (bfits_s (k := k) (by exact rkd)) ?_
  refine sx ?_
  refine s_lifn rfl (fun t1 => ?_) (fun t1 => ?_)
  · refine sx ?_
    refine s_retcv rfl rfl rfl (by exact at_) rfl (spanR_1 (fun h => t1 (by have := h.1; omega))) ?_
    exact Ent.trans (H' := H) (by exact ent) hnilR
  refine sx ?_
  refine s_lif rfl (fun t2 => ?_) (fun t2 => ?_)
  · refine sx ?_
    refine s_retcv rfl rfl rfl (by exact at_) rfl (spanR_1 (fun h => by omega)) ?_
    exact Ent.trans (H' := H) (by exact ent) hnilR
  refine sx ?_
  refine s_if rfl (fun t3 => ?_) (fun t3 => ?_)
  · refine sx ?_
    refine s_retcv rfl rfl rfl (by exact at_) rfl (spanR_1 (fun h => by omega)) ?_
    exact Ent.trans (H' := H) (by exact ent) hnilR
  obtain ⟨n, rfl⟩ := Int.eq_ofNat_of_zero_le (by omega : 0 ≤ i)
  have hok : spOk k.d n := ⟨by omega, by omega, by simp only; omega⟩
  refine sx ?_
  refine s_alloc fun b8 => ?_
  refine sx ?_
  refine s_if rfl (fun t4 => ?_) (fun t4 => ?_)
  · obtain ⟨p, hp⟩ := get_lt k.ks (n - 1) (by omega)
    have hpb := hk.el p (List.mem_of_getElem? hp)
    have hpl := hkl p (List.mem_of_getElem? hp)
    have hpd := Kd.kgetD hp
    refine sx ?_
    refine s_if rfl (fun t5 => ?_) (fun t5 => ?_)
    · obtain ⟨q, hq⟩ := get_lt k.ks n (by omega)
      have hqb := hk.el q (List.mem_of_getElem? hq)
      have hql := hkl q (List.mem_of_getElem? hq)
      have hqd := Kd.kgetD hq
      refine sx ?_
      refine s_rw (t := 47) (v' := .agg (Rg.cells ⟨p.a, p.c, p.xs, q.a, q.c, q.xs, false⟩).toArray) rfl rfl ?_
      refine s_call rfl (omeet_s (r := r) (q := ⟨p.a, p.c, p.xs, q.a, q.c, q.xs, false⟩) (by exact rrg) ⟨by exact rby, by exact rby⟩ hl (by simp only; omega)) ?_
      rintro _ _ ⟨x, rfl, hx, rfl⟩
      refine ⟨chk_seq, ?_⟩
      refine sx ?_
      refine s_retcv rfl rfl rfl (by exact at_) rfl (spanR_0 hok ?_) (by exact ent)
      rw [hx, spR, if_pos (show 0 < n by omega), hpd, if_pos (show n < k.d.2.length by omega), hqd, decide_eq_true (show n < k.d.2.length by omega)]
      simp only [Bool.not_true]
    · refine sx ?_
      refine s_rw (t := 47) (v' := .agg (Rg.cells ⟨p.a, p.c, p.xs, none, 0, [], true⟩).toArray) rfl rfl ?_
      refine s_call rfl (omeet_s (r := r) (q := ⟨p.a, p.c, p.xs, none, 0, [], true⟩) (by exact rrg) ⟨by exact rby, by exact rby⟩ hl (by simp only [List.length_nil]; omega)) ?_
      rintro _ _ ⟨x, rfl, hx, rfl⟩
      refine ⟨chk_seq, ?_⟩
      refine sx ?_
      refine s_retcv rfl rfl rfl (by exact at_) rfl (spanR_0 hok ?_) (by exact ent)
      rw [hx, spR, if_pos (show 0 < n by omega), hpd, if_neg (show ¬ n < k.d.2.length by omega), decide_eq_false (show ¬ n < k.d.2.length by omega)]
      simp only [Bool.not_false]
  · refine sx ?_
    refine s_if rfl (fun t5 => ?_) (fun t5 => ?_)
    · obtain ⟨q, hq⟩ := get_lt k.ks n (by omega)
      have hqb := hk.el q (List.mem_of_getElem? hq)
      have hql := hkl q (List.mem_of_getElem? hq)
      have hqd := Kd.kgetD hq
      refine sx ?_
      refine s_rw (t := 47) (v' := .agg (Rg.cells ⟨none, 0, [], q.a, q.c, q.xs, false⟩).toArray) rfl rfl ?_
      refine s_call rfl (omeet_s (r := r) (q := ⟨none, 0, [], q.a, q.c, q.xs, false⟩) (by exact rrg) ⟨by exact rby, by exact rby⟩ hl (by simp only [List.length_nil]; omega)) ?_
      rintro _ _ ⟨x, rfl, hx, rfl⟩
      refine ⟨chk_seq, ?_⟩
      refine sx ?_
      refine s_retcv rfl rfl rfl (by exact at_) rfl (spanR_0 hok ?_) (by exact ent)
      rw [hx, spR, if_neg (show ¬ 0 < n by omega), if_pos (show n < k.d.2.length by omega), hqd, decide_eq_true (show n < k.d.2.length by omega)]
      simp only [Bool.not_true]
    · refine sx ?_
      refine s_rw (t := 47) (v' := .agg (Rg.cells ⟨none, 0, [], none, 0, [], true⟩).toArray) rfl rfl ?_
      refine s_call rfl (omeet_s (r := r) (q := ⟨none, 0, [], none, 0, [], true⟩) (by exact rrg) ⟨by exact rby, by exact rby⟩ hl (by simp only [List.length_nil]; omega)) ?_
      rintro _ _ ⟨x, rfl, hx, rfl⟩
      refine ⟨chk_seq, ?_⟩
      refine sx ?_
      refine s_retcv rfl rfl rfl (by exact at_) rfl (spanR_0 hok ?_) (by exact ent)
      rw [hx, spR, if_neg (show ¬ 0 < n by omega), if_neg (show ¬ n < k.d.2.length by omega), decide_eq_false (show ¬ n < k.d.2.length by omega)]
      simp only [Bool.not_false]
end Go.Sx
