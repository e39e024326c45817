/- Part of a proof: branch.Span, by the program and by the document; whether Kids are the same. -/
import Derived.Test.YtolnmecncilpeaaCB2
import Derived.Test.YtolnmecncilpeaaCQ1
namespace Go.Sx
open Go Go.Proofs
set_option maxRecDepth 10000
variable {w0 : World} {H : List Ck}
theorem rsame_s {k q : Kd} (hk : RKd w0 H k) (hq : RKd w0 H q) : FnV Try.prog w0 H 28 #[.agg k.cells.toArray, .agg q.cells.toArray] (.bool (decide (k.d = q.d))) := by
  refine fns_enter Try.func28 rfl rfl rfl ?_
  refine s_kn (Kn.kp hk) fun l1 => s_kn (Kn.kk hk) fun l2 => s_kn (Kn.kp hq) fun l3 => s_kn (Kn.kk hq) fun l4 => ?_
  simp only [maxLen] at l1 l2 l3 l4
  have hps := hk.ps
  have hks := hk.ks
  have hps' := hq.ps
  have hks' := hq.ks
  refine sx ?_
  refine s_boxA rfl fun b2 => ?_
  refine sx ?_
  refine s_boxA rfl fun b3 => ?_
  refine sx ?_
  refine s_lifn rfl (fun t1 => ?_) (fun t1 => ?_)
  · refine sx ?_
    refine s_ret1 rfl rfl ⟨?_, rfl⟩
    rw [decide_eq_false]
    intro h
    have := congrArg (fun d => d.1.length) h
    simp only at this
    omega
  refine sx ?_
  refine s_ifn rfl (fun t2 => ?_) (fun t2 => ?_)
  · refine sx ?_
    refine s_ret1 rfl rfl ⟨?_, rfl⟩
    rw [decide_eq_false]
    intro h
    have := congrArg (fun d => d.2.length) h
    simp only [List.length_map] at this
    omega
  refine sx ?_
  refine s_loop (fun i : Nat => [(2, .pointer (some ⟨b2, 0, none⟩)), (3, .pointer (some ⟨b3, 0, none⟩)), (5, .int .i64 i)]) (fun _ => .hb b3 31 q.cells :: .hb b2 31 k.cells :: H) (fun i => i ≤ k.ps.length ∧ k.ps.take i = q.ps.take i) (fun i => k.ps.length - i) 0 ⟨Nat.zero_le _, rfl⟩ ?_
  rintro i ⟨hi, he⟩
  refine sx ?_
  refine s_if rfl (fun t3 => ?_) (fun t3 => ?_)
  · obtain ⟨x, hx⟩ := get_lt k.ps i (by omega)
    obtain ⟨y, hy⟩ := get_lt q.ps i (by omega)
    refine sx ?_; refine s_dr (.one true 0 (.one true 1 (.one true 2 (.one true 3 (.one true 4 (.one true 5 (.one true 6 (.one true 7 (.one true 8 (.one true 9 (.one true 10 .nil))))))))))) mixed (by kernel_rfl) ?_; refine sx ?_
    refine s_ifn rfl (fun t4 => ?_) (fun t4 => ?_)
    · refine sx ?_
      refine s_ret1 rfl rfl ⟨?_, rfl⟩
      rw [decide_eq_false]
      intro h
      have : k.ps = q.ps := congrArg Prod.fst h
      rw [this, hy] at hx
      exact t4 (Option.some.inj hx).symm
    · refine sx ?_
      refine s_again (i + 1) ⟨by omega, ?_⟩ (by omega)
      rw [snocT hx, snocT hy, he, t4]
  obtain rfl : i = k.ps.length := by omega
  have hpe : k.ps = q.ps := by
    rw [List.take_of_length_le (Nat.le_refl _), List.take_of_length_le (by omega)] at he
    exact he
  refine sx ?_
  refine s_loop (fun i : Nat => [(2, .pointer (some ⟨b2, 0, none⟩)), (3, .pointer (some ⟨b3, 0, none⟩)), (6, .int .i64 i)]) (fun _ => .hb b3 31 q.cells :: .hb b2 31 k.cells :: H) (fun i => i ≤ k.ks.length ∧ k.keys.take i = q.keys.take i) (fun i => k.ks.length - i) 0 ⟨Nat.zero_le _, rfl⟩ ?_
  rintro i ⟨hi, he⟩
  refine sx ?_
  refine s_if rfl (fun t3 => ?_) (fun t3 => ?_)
  · obtain ⟨x, hx⟩ := get_lt k.ks i (by omega)
    obtain ⟨y, hy⟩ := get_lt q.ks i (by omega)
    have hxb := hk.el x (List.mem_of_getElem? hx)
    have hyb := hq.el y (List.mem_of_getElem? hy)
    refine sx ?_; refine s_dr (.one true 0 (.one true 1 (.one true 2 (.one true 3 (.one true 4 (.one true 5 (.one true 6 (.one true 7 (.one true 8 (.one true 9 (.one true 10 (.one true 11 (.one true 12 .nil))))))))))))) mixed (by kernel_rfl) ?_; refine sx ?_
    refine s_ifn rfl (fun t4 => ?_) (fun t4 => ?_)
    · refine sx ?_
      refine s_ret1 rfl rfl ⟨?_, rfl⟩
      rw [decide_eq_false]
      intro h
      have h2 : k.keys = q.keys := congrArg Prod.snd h
      have h3 := Kd.kget hx
      rw [h2, Kd.kget hy] at h3
      exact t4 (Option.some.inj h3).symm
    · refine sx ?_
      refine s_again (i + 1) ⟨by omega, ?_⟩ (by omega)
      rw [snocT (Kd.kget hx), snocT (Kd.kget hy), he, t4]
  obtain rfl : i = k.ks.length := by omega
  refine sx ?_
  refine s_ret1 rfl rfl ⟨?_, rfl⟩
  rw [List.take_of_length_le (by simp), List.take_of_length_le (by simp; omega)] at he
  rw [decide_eq_true]
  exact Prod.ext hpe he
abbrev spOk (d : List Int × List Bs) (i : Int) : Prop := d.2.length + 1 = d.1.length ∧ 0 ≤ i ∧ i < (d.1.length : Int)
def spR (d : List Int × List Bs) (w : T3) (i : Nat) : T3 := meR w (if 0 < i then d.2.getD (i - 1) [] else [], if i < d.2.length then d.2.getD i [] else [], !decide (i < d.2.length))
abbrev SpanR (d : List Int × List Bs) (w : T3) (i : Int) (H : List Ck) : Value → List Ck → Prop := fun v H' => ∃ r : Rg, v = .tuple #[.agg r.cells.toArray, .int .i64 (if spOk d i then 0 else 1)] ∧ r.d = (if spOk d i then spR d w i.toNat else t30) ∧ H' = oR r :: H
theorem spanR_1 {d : List Int × List Bs} {w : T3} {i : Int} (h : ¬ spOk d i) : SpanR d w i H (.tuple #[.agg rg0.cells.toArray, .int .i64 1]) (oR rg0 :: H) := ⟨rg0, by rw [if_neg h], by rw [if_neg h], rfl⟩
theorem spanR_0 {d : List Int × List Bs} {w : T3} {i : Nat} {r : Rg} (h : spOk d i) (hr : r.d = spR d w i) : SpanR d w i H (.tuple #[.agg r.cells.toArray, .int .i64 0]) (oR r :: H) := ⟨r, by rw [if_pos h], by rw [if_pos h, hr]; rfl, rfl⟩
theorem Kd.kgetD {k : Kd} {i : Nat} {p : SB} (h : k.ks[i]? = some p) : k.d.2.getD i [] = p.xs := by simp [h]
theorem bspan_s {k : Kd} {r : Rg} {i : Int} (hk : RKd w0 H k) (hr : RRg w0 H r) (hi : I64 i) (hkl : ∀ p ∈ k.ks, p.xs.length ≤ 140737488355328) (hl : r.lo.length ≤ 140737488355328 ∧ r.hi.length ≤ 140737488355328) :
    FnS Try.prog w0 H 19 #[.agg k.cells.toArray, .agg r.cells.toArray, .int .i64 i] (SpanR k.d r.d i H) := by
  refine fns_enter Try.func19 rfl rfl rfl ?_
  refine s_kn (Kn.kp hk) fun l1 => s_kn (Kn.kk hk) fun l2 => ?_
  simp only [maxLen] at l1 l2
  have hks := hk.ks
  have hkp : k.d.1.length = k.ps.length := rfl
  have hkd : k.d.2.length = k.ks.length := by simp
  refine sx ?_
  refine s_boxA rfl fun b3 => ?_
  refine sx ?_
  refine s_boxA rfl fun b4 => ?_
  refine sx ?_
  refine s_alloc fun b6 => ?_
  refine sx ?_
  refine s_callV rfl (bfits_s (k := k) (by exact rkd)) ?_
  refine sx ?_
  refine s_lifn rfl (fun t1 => ?_) (fun t1 => ?_)
  · refine sx ?_
    refine s_retcv rfl rfl rfl (by exact at_) rfl (spanR_1 (fun h => t1 (by have := h.1; omega))) ?_
    exact Ent.trans (H' := H) (by exact ent) hnilR
  refine sx ?_
  refine s_lif rfl (fun t2 => ?_) (fun t2 => ?_)
  · refine sx ?_
    refine s_retcv rfl rfl rfl (by exact at_) rfl (spanR_1 (fun h => by omega)) ?_
    exact Ent.trans (H' := H) (by exact ent) hnilR
  refine sx ?_
  refine s_if rfl (fun t3 => ?_) (fun t3 => ?_)
  · refine sx ?_
    refine s_retcv rfl rfl rfl (by exact at_) rfl (spanR_1 (fun h => by omega)) ?_
    exact Ent.trans (H' := H) (by exact ent) hnilR
  obtain ⟨n, rfl⟩ := Int.eq_ofNat_of_zero_le (by omega : 0 ≤ i)
  have hok : spOk k.d n := ⟨by omega, by omega, by simp only; omega⟩
  refine sx ?_
  refine s_alloc fun b8 => ?_
  refine sx ?_
  refine s_if rfl (fun t4 => ?_) (fun t4 => ?_)
  · obtain ⟨p, hp⟩ := get_lt k.ks (n - 1) (by omega)
    have hpb := hk.el p (List.mem_of_getElem? hp)
    have hpl := hkl p (List.mem_of_getElem? hp)
    have hpd := Kd.kgetD hp
    refine sx ?_
    refine s_if rfl (fun t5 => ?_) (fun t5 => ?_)
    · obtain ⟨q, hq⟩ := get_lt k.ks n (by omega)
      have hqb := hk.el q (List.mem_of_getElem? hq)
      have hql := hkl q (List.mem_of_getElem? hq)
      have hqd := Kd.kgetD hq
      refine sx ?_
      refine s_rw (t := 47) (v' := .agg (Rg.cells ⟨p.a, p.c, p.xs, q.a, q.c, q.xs, false⟩).toArray) rfl rfl ?_
      refine s_call rfl (omeet_s (r := r) (q := ⟨p.a, p.c, p.xs, q.a, q.c, q.xs, false⟩) (by exact rrg) ⟨by exact rby, by exact rby⟩ hl (by simp only; omega)) ?_
      rintro _ _ ⟨x, rfl, hx, rfl⟩
      refine ⟨chk_seq, ?_⟩
      refine sx ?_
      refine s_retcv rfl rfl rfl (by exact at_) rfl (spanR_0 hok ?_) (by exact ent)
      rw [hx, spR, if_pos (show 0 < n by omega), hpd, if_pos (show n < k.d.2.length by omega), hqd, decide_eq_true (show n < k.d.2.length by omega)]
      simp only [Bool.not_true]
    · refine sx ?_
      refine s_rw (t := 47) (v' := .agg (Rg.cells ⟨p.a, p.c, p.xs, none, 0, [], true⟩).toArray) rfl rfl ?_
      refine s_call rfl (omeet_s (r := r) (q := ⟨p.a, p.c, p.xs, none, 0, [], true⟩) (by exact rrg) ⟨by exact rby, by exact rby⟩ hl (by simp only [List.length_nil]; omega)) ?_
      rintro _ _ ⟨x, rfl, hx, rfl⟩
      refine ⟨chk_seq, ?_⟩
      refine sx ?_
      refine s_retcv rfl rfl rfl (by exact at_) rfl (spanR_0 hok ?_) (by exact ent)
      rw [hx, spR, if_pos (show 0 < n by omega), hpd, if_neg (show ¬ n < k.d.2.length by omega), decide_eq_false (show ¬ n < k.d.2.length by omega)]
      simp only [Bool.not_false]
  · refine sx ?_
    refine s_if rfl (fun t5 => ?_) (fun t5 => ?_)
    · obtain ⟨q, hq⟩ := get_lt k.ks n (by omega)
      have hqb := hk.el q (List.mem_of_getElem? hq)
      have hql := hkl q (List.mem_of_getElem? hq)
      have hqd := Kd.kgetD hq
      refine sx ?_
      refine s_rw (t := 47) (v' := .agg (Rg.cells ⟨none, 0, [], q.a, q.c, q.xs, false⟩).toArray) rfl rfl ?_
      refine s_call rfl (omeet_s (r := r) (q := ⟨none, 0, [], q.a, q.c, q.xs, false⟩) (by exact rrg) ⟨by exact rby, by exact rby⟩ hl (by simp only [List.length_nil]; omega)) ?_
      rintro _ _ ⟨x, rfl, hx, rfl⟩
      refine ⟨chk_seq, ?_⟩
      refine sx ?_
      refine s_retcv rfl rfl rfl (by exact at_) rfl (spanR_0 hok ?_) (by exact ent)
      rw [hx, spR, if_neg (show ¬ 0 < n by omega), if_pos (show n < k.d.2.length by omega), hqd, decide_eq_true (show n < k.d.2.length by omega)]
      simp only [Bool.not_true]
    · refine sx ?_
      refine s_rw (t := 47) (v' := .agg (Rg.cells ⟨none, 0, [], none, 0, [], true⟩).toArray) rfl rfl ?_
      refine s_call rfl (omeet_s (r := r) (q := ⟨none, 0, [], none, 0, [], true⟩) (by exact rrg) ⟨by exact rby, by exact rby⟩ hl (by simp only [List.length_nil]; omega)) ?_
      rintro _ _ ⟨x, rfl, hx, rfl⟩
      refine ⟨chk_seq, ?_⟩
      refine sx ?_
      refine s_retcv rfl rfl rfl (by exact at_) rfl (spanR_0 hok ?_) (by exact ent)
      rw [hx, spR, if_neg (show ¬ 0 < n by omega), if_neg (show ¬ n < k.d.2.length by omega), decide_eq_false (show ¬ n < k.d.2.length by omega)]
      simp only [Bool.not_false]
theorem rspan_s {k : Kd} {r : Rg} {i : Int} (hk : RKd w0 H k) (hr : RRg w0 H r) (hi : I64 i) (hkl : ∀ p ∈ k.ks, p.xs.length ≤ 140737488355328) (hl : r.lo.length ≤ 140737488355328 ∧ r.hi.length ≤ 140737488355328) :
    FnS Try.prog w0 H 20 #[.agg k.cells.toArray, .agg r.cells.toArray, .int .i64 i] (SpanR k.d r.d i H) := by
  refine fns_enter Try.func20 rfl rfl rfl ?_
  refine s_kn (Kn.kp hk) fun l1 => s_kn (Kn.kk hk) fun l2 => ?_
  simp only [maxLen] at l1 l2
  have hks := hk.ks
  have hkp : k.d.1.length = k.ps.length := rfl
  have hkd : k.d.2.length = k.ks.length := by simp
  refine sx ?_
  refine s_boxA rfl fun b3 => ?_
  refine sx ?_
  refine s_boxA rfl fun b4 => ?_
  refine sx ?_
  refine s_alloc fun b6 => ?_
  refine sx ?_
  refine s_callV rfl (rfit_s (k := k) (by exact rkd)) ?_
  refine sx ?_
  refine s_lifn rfl (fun t1 => ?_) (fun t1 => ?_)
  · refine sx ?_
    refine s_retcv rfl rfl rfl (by exact at_) rfl (spanR_1 (fun h => t1 (by have := h.1; omega))) ?_
    exact Ent.trans (H' := H) (by exact ent) hnilR
  refine sx ?_
  refine s_lif rfl (fun t2 => ?_) (fun t2 => ?_)
  · refine sx ?_
    refine s_retcv rfl rfl rfl (by exact at_) rfl (spanR_1 (fun h => by omega)) ?_
    exact Ent.trans (H' := H) (by exact ent) hnilR
  refine sx ?_
  refine s_if rfl (fun t3 => ?_) (fun t3 => ?_)
  · refine sx ?_
    refine s_retcv rfl rfl rfl (by exact at_) rfl (spanR_1 (fun h => by omega)) ?_
    exact Ent.trans (H' := H) (by exact ent) hnilR
  obtain ⟨n, rfl⟩ := Int.eq_ofNat_of_zero_le (by omega : 0 ≤ i)
  have hok : spOk k.d n := ⟨by omega, by omega, by simp only; omega⟩
  refine sx ?_
  refine s_alloc fun b8 => ?_
  refine sx ?_
  refine s_if rfl (fun t4 => ?_) (fun t4 => ?_)
  · obtain ⟨p, hp⟩ := get_lt k.ks (n - 1) (by omega)
    have hpb := hk.el p (List.mem_of_getElem? hp)
    have hpl := hkl p (List.mem_of_getElem? hp)
    have hpd := Kd.kgetD hp
    refine sx ?_
    refine s_ifn rfl (fun t5 => ?_) (fun t5 => ?_)
    · have t5' : ¬ (n : Int) = (k.ks.length : Int) := t5
      obtain ⟨q, hq⟩ := get_lt k.ks n (by omega)
      have hqb := hk.el q (List.mem_of_getElem? hq)
      have hql := hkl q (List.mem_of_getElem? hq)
      have hqd := Kd.kgetD hq
      refine sx ?_
      refine s_rw (t := 49) (v' := .agg (Rg.cells ⟨p.a, p.c, p.xs, q.a, q.c, q.xs, decide ((n : Int) = (k.ks.length : Int))⟩).toArray) rfl rfl ?_
      refine s_call rfl (qmeet_s (r := r) (q := ⟨p.a, p.c, p.xs, q.a, q.c, q.xs, decide ((n : Int) = (k.ks.length : Int))⟩) (by exact rrg) ⟨by exact rby, by exact rby⟩ hl (by simp only; omega)) ?_
      rintro _ _ ⟨x, rfl, hx, rfl⟩
      refine ⟨chk_seq, ?_⟩
      refine sx ?_
      refine s_retcv rfl rfl rfl (by exact at_) rfl (spanR_0 hok ?_) (by exact ent)
      rw [hx, spR, if_pos (show 0 < n by omega), hpd, if_pos (show n < k.d.2.length by omega), hqd]
      simp only [Rg.d, decide_eq_false t5', decide_eq_true (show n < k.d.2.length by omega), Bool.not_true]
    · have t5' : (n : Int) = (k.ks.length : Int) := t5
      refine sx ?_
      refine s_rw (t := 49) (v' := .agg (Rg.cells ⟨p.a, p.c, p.xs, none, 0, [], decide ((n : Int) = (k.ks.length : Int))⟩).toArray) rfl rfl ?_
      refine s_call rfl (qmeet_s (r := r) (q := ⟨p.a, p.c, p.xs, none, 0, [], decide ((n : Int) = (k.ks.length : Int))⟩) (by exact rrg) ⟨by exact rby, by exact rby⟩ hl (by simp only [List.length_nil]; omega)) ?_
      rintro _ _ ⟨x, rfl, hx, rfl⟩
      refine ⟨chk_seq, ?_⟩
      refine sx ?_
      refine s_retcv rfl rfl rfl (by exact at_) rfl (spanR_0 hok ?_) (by exact ent)
      rw [hx, spR, if_pos (show 0 < n by omega), hpd, if_neg (show ¬ n < k.d.2.length by omega)]
      simp only [Rg.d, decide_eq_true t5', decide_eq_false (show ¬ n < k.d.2.length by omega), Bool.not_false]
  · refine sx ?_
    refine s_ifn rfl (fun t5 => ?_) (fun t5 => ?_)
    · have t5' : ¬ (n : Int) = (k.ks.length : Int) := t5
      obtain ⟨q, hq⟩ := get_lt k.ks n (by omega)
      have hqb := hk.el q (List.mem_of_getElem? hq)
      have hql := hkl q (List.mem_of_getElem? hq)
      have hqd := Kd.kgetD hq
      refine sx ?_
      refine s_rw (t := 49) (v' := .agg (Rg.cells ⟨none, 0, [], q.a, q.c, q.xs, decide ((n : Int) = (k.ks.length : Int))⟩).toArray) rfl rfl ?_
      refine s_call rfl (qmeet_s (r := r) (q := ⟨none, 0, [], q.a, q.c, q.xs, decide ((n : Int) = (k.ks.length : Int))⟩) (by exact rrg) ⟨by exact rby, by exact rby⟩ hl (by simp only [List.length_nil]; omega)) ?_
      rintro _ _ ⟨x, rfl, hx, rfl⟩
      refine ⟨chk_seq, ?_⟩
      refine sx ?_
      refine s_retcv rfl rfl rfl (by exact at_) rfl (spanR_0 hok ?_) (by exact ent)
      rw [hx, spR, if_neg (show ¬ 0 < n by omega), if_pos (show n < k.d.2.length by omega), hqd]
      simp only [Rg.d, decide_eq_false t5', decide_eq_true (show n < k.d.2.length by omega), Bool.not_true]
    · have t5' : (n : Int) = (k.ks.length : Int) := t5
      refine sx ?_
      refine s_rw (t := 49) (v' := .agg (Rg.cells ⟨none, 0, [], none, 0, [], decide ((n : Int) = (k.ks.length : Int))⟩).toArray) rfl rfl ?_
      refine s_call rfl (qmeet_s (r := r) (q := ⟨none, 0, [], none, 0, [], decide ((n : Int) = (k.ks.length : Int))⟩) (by exact rrg) ⟨by exact rby, by exact rby⟩ hl (by simp only [List.length_nil]; omega)) ?_
      rintro _ _ ⟨x, rfl, hx, rfl⟩
      refine ⟨chk_seq, ?_⟩
      refine sx ?_
      refine s_retcv rfl rfl rfl (by exact at_) rfl (spanR_0 hok ?_) (by exact ent)
      rw [hx, spR, if_neg (show ¬ 0 < n by omega), if_neg (show ¬ n < k.d.2.length by omega)]
      simp only [Rg.d, decide_eq_true t5', decide_eq_false (show ¬ n < k.d.2.length by omega), Bool.not_false]
end Go.Sx
