/- Part of a proof: the law's own helpers walked; the chapter's examples. -/
import Derived.Test.YtfhbkhhfcjmnhaaCKB
import Derived.Test.YtfhbkhhfcjmnhaaCOC
namespace Go.Sx
open Go Go.Proofs
set_option maxRecDepth 10000
variable {w0 : World} {H : List Ck}
theorem of_s {lo hi : Bs} (h1 : lo.length ≤ maxLen) (h2 : hi.length ≤ maxLen) : FnS Try.prog w0 H 36 #[str lo, str hi] (fun v H' => ∃ (r : Rg) (L : List Ck), v = .agg r.cells.toArray ∧ r.d = (lo, hi, false) ∧ H' = .star L :: H ∧ RRg w0 (.star L :: H) r) := by
  refine fns_enter Try.func36 rfl rfl rfl ?_
  refine sx ?_
  refine s_alloc fun b4 => ?_
  refine sx ?_
  refine s_s2b rfl h1 ?_
  intro k c g1 g2
  refine sx ?_
  refine s_s2b rfl h2 ?_
  intro k' c' g1' g2'
  refine sx ?_
  refine s_retc rfl rfl (by exact at_) rfl ⟨⟨some ⟨k, 0, none⟩, c, lo, some ⟨k', 0, none⟩, c', hi, false⟩, [Ck.ro k' (hi.map bv), Ck.ro k (lo.map bv)], rfl, rfl, rfl, ⟨?_, ?_⟩⟩ ?_
  · exact RBy.ent (RBy.roc g1 g2) (Ent.mem' (c := Ck.ro k (lo.map bv)) (by simp))
  · exact RBy.ent (RBy.roc g1' g2') (Ent.mem' (c := Ck.ro k' (hi.map bv)) (by simp))
  · refine Ent.trans (H' := Ck.ro k' (hi.map bv) :: Ck.ro k (lo.map bv) :: H) (by exact ent) ?_
    exact Ent.star (L := [Ck.ro k' (hi.map bv), Ck.ro k (lo.map bv)]) Ent.refl
theorem lsame_s {r q : Rg} (hr : RRg w0 H r) (hq : RRg w0 H q) : FnV Try.prog w0 H 35 #[.agg r.cells.toArray, .agg q.cells.toArray] (.bool (decide (r.d = q.d))) := by
  have h1 := hr.lo
  have h2 := hr.hi
  have h3 := hq.lo
  have h4 := hq.hi
  obtain ⟨la, lc, lo, ha, hc, hi, all⟩ := r
  obtain ⟨la', lc', lo', ha', hc', hi', all'⟩ := q
  refine fns_enter Try.func35 rfl rfl rfl ?_
  refine sx ?_
  refine s_boxA rfl fun b2 => ?_
  refine sx ?_
  refine s_boxA rfl fun b3 => ?_
  refine sx ?_
  refine s_lif rfl (fun t1 => ?_) (fun t1 => ?_)
  · refine sx ?_
    refine s_lif rfl (fun t2 => ?_) (fun t2 => ?_)
    · refine sx ?_
      refine s_ret1 rfl rfl ⟨?_, rfl⟩
      subst t1; subst t2
      cases all <;> cases all' <;> simp
    · refine sx ?_
      exact s_ret1 rfl rfl ⟨by simp [t2], rfl⟩
  · refine sx ?_
    exact s_ret1 rfl rfl ⟨by simp [t1], rfl⟩
theorem lsames_s {xs ys : List Rg} {a a' : Option Addr} {c c' : Nat} (hx : RSl w0 H a c xs) (hy : RSl w0 H a' c' ys) (rx : ∀ r ∈ xs, RRg w0 H r) (ry : ∀ r ∈ ys, RRg w0 H r) : FnV Try.prog w0 H 24 #[.slice a xs.length c, .slice a' ys.length c'] (.bool (decide (xs.map Rg.d = ys.map Rg.d))) := by
  refine fns_enter Try.func24 rfl rfl rfl ?_
  refine s_kn (Kn.sl hx) fun l1 => s_kn (Kn.sl hy) fun l2 => ?_
  simp only [maxLen] at l1 l2
  refine sx ?_
  refine s_ifn rfl (fun t1 => ?_) (fun t1 => ?_)
  · refine sx ?_
    refine s_ret1 rfl rfl ⟨?_, rfl⟩
    rw [decide_eq_false (fun e => t1 (by have := congrArg List.length e; simp only [List.length_map] at this; rw [this]))]
  have hl : xs.length = ys.length := by omega
  refine sx ?_
  refine s_loop (fun i : Nat => [(0, .slice a xs.length c), (1, .slice a' ys.length c'), (5, .int .i64 i)]) (fun _ => H) (fun i => i ≤ xs.length ∧ (xs.take i).map Rg.d = (ys.take i).map Rg.d) (fun i => xs.length - i) 0 ⟨Nat.zero_le _, rfl⟩ ?_
  rintro i ⟨hi, he⟩
  refine sx ?_
  refine s_if rfl (fun t2 => ?_) (fun t2 => ?_)
  · obtain ⟨x, hxi⟩ := get_lt xs i (by omega)
    obtain ⟨y, hyi⟩ := get_lt ys i (by omega)
    have r1 := rx x (List.mem_of_getElem? hxi)
    have r2 := ry y (List.mem_of_getElem? hyi)
    refine sx ?_; refine s_dr (.one true 0 (.one true 1 (.one true 2 (.one true 3 (.one true 4 (.one true 5 (.one true 6 (.one true 7 (.one false 8 (.one true 9 .nil)))))))))) mixed (by kernel_rfl) ?_; refine sx ?_
    refine s_callV rfl (lsame_s (r := x) (q := y) r1 r2) ?_
    refine sx ?_
    refine s_ifn rfl (fun t3 => ?_) (fun t3 => ?_)
    · refine sx ?_
      refine s_ret1 rfl rfl ⟨?_, rfl⟩
      rw [decide_eq_false (fun e => t3 ?_)]
      have e1 := congrArg (fun l => l[i]?) e
      simp only [List.getElem?_map, hxi, hyi, Option.map_some, Option.some.injEq] at e1
      exact e1
    · refine sx ?_
      refine s_again (i + 1) ⟨by omega, ?_⟩ (by omega)
      rw [snocT hxi, snocT hyi, List.map_append, List.map_append, he, List.map_cons, List.map_cons, t3]
  · obtain rfl : i = xs.length := by omega
    rw [List.take_length, hl, List.take_length] at he
    refine sx ?_
    exact s_ret1 rfl rfl ⟨by rw [decide_eq_true he], rfl⟩
theorem form_s {r : Rg} (hr : RRg w0 H r) : FnV Try.prog w0 H 21 #[.agg r.cells.toArray] (.bool (if r.all = true then decide (r.hi = []) else (decide (r.lo = [] ∧ r.hi = []) || decide (cmp r.lo r.hi < 0)))) := by
  have h1 := hr.lo
  have h2 := hr.hi
  obtain ⟨la, lc, lo, ha, hc, hi, all⟩ := r
  refine fns_enter Try.func21 rfl rfl rfl ?_
  refine sx ?_
  refine s_boxA rfl fun b2 => ?_
  refine sx ?_
  cases all
  · refine sx ?_
    refine s_lsp rfl (fun t1 => ?_) (fun t1 => ?_)
    · have t1 : lo = [] := by
        have := of_decide_eq_true t1
        exact List.eq_nil_of_length_eq_zero (by simpa using this)
      subst t1
      refine sx ?_
      cases hi with
      | nil =>
        refine sx ?_
        exact s_ret1 rfl rfl ⟨rfl, rfl⟩
      | cons x r =>
        refine sx ?_
        refine s_callV rfl (compare_s (xs := []) (ys := x :: r) (by exact rby) (by exact rby)) ?_
        refine sx ?_
        exact s_ret1 rfl rfl ⟨rfl, rfl⟩
    · have t1 : ¬ lo = [] := by
        intro e
        subst e
        simp at t1
      refine sx ?_
      refine s_callV rfl (compare_s (xs := lo) (ys := hi) (by exact rby) (by exact rby)) ?_
      refine sx ?_
      exact s_ret1 rfl rfl ⟨by simp [t1], rfl⟩
  · refine sx ?_
    refine s_ret1 rfl rfl ⟨?_, rfl⟩
    cases hi
    · simp
    · simp
      omega
theorem lr_of {r : Rg} {lo hi : Bs} {a : Bool} (h : r.d = (lo, hi, a)) (h1 : lo.length ≤ 140737488355328) (h2 : hi.length ≤ 140737488355328) : Lr r := by
  have e1 : r.lo = lo := congrArg Prod.fst h
  have e2 : r.hi = hi := congrArg (fun d => d.2.1) h
  exact ⟨by rw [e1]; exact h1, by rw [e2]; exact h2⟩
theorem cv_ex {os : List T3} (h : IsCv [([100], [102], false), ([97], [98], false), ([98], [99], false), ([101], [103], false), ([122], [121], false)] os) : os = [([97], [99], false), ([100], [103], false)] :=
  (h.uniq (cvP_is (rs := [([97], [98], false), ([98], [99], false), ([100], [102], false), ([101], [103], false)]) (by decide) (by decide)) (fun _ => Iff.rfl)).trans (by decide)
set_option maxHeartbeats 2000000 in
theorem awake_s : FnV Try.prog w0 H 11 #[] (.bool true) := by
  refine fns_enter Try.func11 rfl rfl rfl ?_
  refine sx ?_
  refine s_bsl ([97, 98, 99] : List UInt8) rfl rfl fun k1 => ?_
  refine sx ?_
  refine s_convb rfl (by exact at_) ?_
  refine sx ?_
  refine s_bsl ([97, 98, 102] : List UInt8) rfl rfl fun k2 => ?_
  refine sx ?_
  refine s_convb rfl (by exact at_) ?_
  refine sx ?_
  refine s_call rfl (obetween_s (xs := [97, 98, 99]) (ys := [97, 98, 102]) (RBy.ro (xs := [97, 98, 99]) rfl (by decide)).tl (RBy.ro (xs := [97, 98, 102]) rfl (by decide)) (by decide)) ?_
  rintro _ _ ⟨a1, c1, rfl, rfl⟩
  rw [show betK [97, 98, 99] [97, 98, 102] = [97, 98, 102] by decide, show betE [97, 98, 99] [97, 98, 102] = 0 by decide]
  refine ⟨chk_seq, ?_⟩
  refine sx ?_
  refine s_bsl ([97] : List UInt8) rfl rfl fun k3 => ?_
  refine sx ?_
  refine s_convb rfl (by exact at_) ?_
  refine sx ?_
  refine s_bsl ([97] : List UInt8) rfl rfl fun k4 => ?_
  refine sx ?_
  refine s_convb rfl (by exact at_) ?_
  refine sx ?_
  refine s_call rfl (obetween_s (xs := [97]) (ys := [97]) (RBy.ro (xs := [97]) rfl (by decide)).tl (RBy.ro (xs := [97]) rfl (by decide)) (by decide)) ?_
  rintro _ _ ⟨a2, c2, rfl, rfl⟩
  rw [show betK [97] [97] = [] by decide, show betE [97] [97] = 41 by decide]
  refine ⟨chk_seq, ?_⟩
  refine sx ?_
  refine s_call rfl (of_s (lo := [97]) (hi := [122]) (by decide) (by decide)) ?_
  rintro _ _ ⟨r1, L1, rfl, d1, rfl, g1⟩
  refine ⟨chk_seq, ?_⟩
  refine sx ?_
  refine s_call rfl (of_s (lo := [99]) (hi := [100]) (by decide) (by decide)) ?_
  rintro _ _ ⟨r2, L2, rfl, d2, rfl, g2⟩
  refine ⟨chk_seq, ?_⟩
  refine sx ?_
  have l1 : Lr r1 := by
    exact lr_of d1 (by decide) (by decide)
  have l2 : Lr r2 := by
    exact lr_of d2 (by decide) (by decide)
  refine s_call rfl (ominus_s (r := r1) (q := r2) (by exact rrg) (by exact rrg) l1 l2) ?_
  rintro _ _ ⟨x, y, rfl, dx, dy, rfl⟩
  rw [d1, d2] at dx dy
  have dx : x.d = ([97], [99], false) := dx.trans (by decide)
  have dy : y.d = ([100], [122], false) := dy.trans (by decide)
  refine ⟨chk_seq, ?_⟩
  refine sx ?_
  refine s_alloc fun b5 => ?_
  refine sx ?_
  refine s_alloc fun b6 => ?_
  refine sx ?_
  refine s_call rfl (of_s (lo := [100]) (hi := [102]) (by decide) (by decide)) ?_
  rintro _ _ ⟨q1, L3, rfl, d3, rfl, g3⟩
  refine ⟨chk_seq, ?_⟩
  refine sx ?_
  refine s_call rfl (of_s (lo := [97]) (hi := [98]) (by decide) (by decide)) ?_
  rintro _ _ ⟨q2, L4, rfl, d4, rfl, g4⟩
  refine ⟨chk_seq, ?_⟩
  refine sx ?_
  refine s_call rfl (of_s (lo := [98]) (hi := [99]) (by decide) (by decide)) ?_
  rintro _ _ ⟨q3, L5, rfl, d5, rfl, g5⟩
  refine ⟨chk_seq, ?_⟩
  refine sx ?_
  refine s_call rfl (of_s (lo := [101]) (hi := [103]) (by decide) (by decide)) ?_
  rintro _ _ ⟨q4, L6, rfl, d6, rfl, g6⟩
  refine ⟨chk_seq, ?_⟩
  refine sx ?_
  refine s_call rfl (of_s (lo := [122]) (hi := [121]) (by decide) (by decide)) ?_
  rintro _ _ ⟨q5, L7, rfl, d7, rfl, g7⟩
  refine ⟨chk_seq, ?_⟩
  refine sx ?_
  refine s_bsl [q1, q2, q3, q4, q5] rfl rfl fun b38 => ?_
  refine s_call rfl (pcover_s (rs := [q1, q2, q3, q4, q5]) (by exact rsl) (by simp) ?_ ?_) ?_
  · intro r h
    simp only [List.mem_cons, List.not_mem_nil, or_false] at h
    rcases h with rfl | rfl | rfl | rfl | rfl
    all_goals exact rrg
  · intro r h
    simp only [List.mem_cons, List.not_mem_nil, or_false] at h
    rcases h with rfl | rfl | rfl | rfl | rfl
    all_goals exact lr_of (by assumption) (by decide) (by decide)
  rintro _ _ ⟨ca, cc, os, Lc, rfl, rfl, _, hcv, hos, gos⟩
  simp only [List.map_cons, List.map_nil, d3, d4, d5, d6, d7] at hcv
  have hcv := cv_ex hcv
  refine ⟨chk_seq, ?_⟩
  clear g1 g2 g3 g4 g5 g6 g7
  refine s_entL (.star Lc :: .hb b6 26 y.cells :: .hb b5 26 x.cells :: oR x :: oR y :: ob a1 c1 [97, 98, 102] :: H) (Ent.head (Ent.tl (Ent.tl (Ent.tl (Ent.tl (Ent.tl (Ent.tl (Ent.head (Ent.head (Ent.head (Ent.head (Ent.tl (Ent.tl (Ent.tl (Ent.tl (Ent.tl (Ent.head (Ent.tl (Ent.tl Ent.refl))))))))))))))))))) ?_
  have hos := hos (.hb b6 26 y.cells :: .hb b5 26 x.cells :: oR x :: oR y :: ob a1 c1 [97, 98, 102] :: H)
  refine sx ?_
  refine sx ?_; refine s_dr (.one true 0 (.one false 1 (.one false 2 (.one true 3 .nil)))) mixed (by kernel_rfl) ?_; refine sx ?_
  refine s_call rfl (of_s (lo := [97]) (hi := [99]) (by decide) (by decide)) ?_
  rintro _ _ ⟨p1, L8, rfl, d8, rfl, g8⟩
  refine ⟨chk_held (Ent.tl Ent.refl), ?_⟩
  refine sx ?_
  refine s_callV rfl (lsame_s (r := x) (q := p1) (by exact rrg) (by exact rrg)) ?_
  rw [decide_eq_true (dx.trans d8.symm)]
  refine sx ?_
  refine sx ?_; refine s_dr (.one true 0 (.one false 1 (.one false 2 (.one true 3 .nil)))) mixed (by kernel_rfl) ?_; refine sx ?_
  refine s_call rfl (of_s (lo := [100]) (hi := [122]) (by decide) (by decide)) ?_
  rintro _ _ ⟨p2, L9, rfl, d9, rfl, g9⟩
  refine ⟨chk_held (Ent.tl Ent.refl), ?_⟩
  refine sx ?_
  refine s_callV rfl (lsame_s (r := y) (q := p2) (by exact rrg) (by exact rrg)) ?_
  rw [decide_eq_true (dy.trans d9.symm)]
  refine sx ?_
  refine s_call rfl (of_s (lo := [97]) (hi := [99]) (by decide) (by decide)) ?_
  rintro _ _ ⟨p3, La, rfl, da, rfl, ga⟩
  refine ⟨chk_seq, ?_⟩
  refine sx ?_
  refine s_call rfl (of_s (lo := [100]) (hi := [103]) (by decide) (by decide)) ?_
  rintro _ _ ⟨p4, Lb, rfl, db, rfl, gb⟩
  refine ⟨chk_seq, ?_⟩
  refine sx ?_
  refine s_bsl [p3, p4] rfl rfl fun b49 => ?_
  refine s_callV rfl (lsames_s (xs := os) (ys := [p3, p4]) (by exact rsl) (by exact rsl) ?_ ?_) ?_
  · intro r h
    have g := gos r h (.hb b6 26 y.cells :: .hb b5 26 x.cells :: oR x :: oR y :: ob a1 c1 [97, 98, 102] :: H)
    exact rrg
  · intro r h
    simp only [List.mem_cons, List.not_mem_nil, or_false] at h
    rcases h with rfl | rfl
    all_goals exact rrg
  rw [decide_eq_true (by rw [hcv, List.map_cons, List.map_cons, List.map_nil, da, db])]
  refine sx ?_
  refine s_entL (ob a1 c1 [97, 98, 102] :: H) (Ent.tl (Ent.tl (Ent.tl (Ent.tl (Ent.tl (Ent.tl (Ent.tl (Ent.tl (Ent.tl (Ent.tl Ent.refl)))))))))) ?_
  refine s_rw (t := 71) (v' := .bool true) rfl rfl ?_
  refine s_bsl ([97] : List UInt8) rfl rfl fun k5 => ?_
  refine sx ?_
  refine s_convb rfl (by exact at_) ?_
  refine sx ?_
  refine s_bsl ([97, 98] : List UInt8) rfl rfl fun k6 => ?_
  refine sx ?_
  refine s_convb rfl (by exact at_) ?_
  refine sx ?_
  refine s_callV rfl (compare_s (xs := [97]) (ys := [97, 98]) (RBy.ro (xs := [97]) rfl (by decide)).tl (RBy.ro (xs := [97, 98]) rfl (by decide))) ?_
  rw [show cmp [97] [97, 98] = -1 by decide]
  refine sx ?_
  refine s_rw (t := 79) (v' := .bool true) rfl rfl ?_
  refine s_bsl ([97, 98, 99] : List UInt8) rfl rfl fun k7 => ?_
  refine sx ?_
  refine s_convb rfl (by exact at_) ?_
  refine sx ?_
  refine s_bsl ([97, 98, 100] : List UInt8) rfl rfl fun k8 => ?_
  refine sx ?_
  refine s_convb rfl (by exact at_) ?_
  refine sx ?_
  refine s_callV rfl (common_s (xs := [97, 98, 99]) (ys := [97, 98, 100]) (RBy.ro (xs := [97, 98, 99]) rfl (by decide)).tl (RBy.ro (xs := [97, 98, 100]) rfl (by decide))) ?_
  rw [show common [97, 98, 99] [97, 98, 100] = 2 by decide]
  refine sx ?_
  exact s_ret1 rfl rfl ⟨rfl, rfl⟩
theorem names_s : FnV Try.prog w0 H 3 #[] (.bool true) := by
  refine fns_enter Try.func3 rfl rfl rfl ?_
  refine sx ?_
  refine s_callV rfl awake_s ?_
  refine sx ?_
  exact s_ret1 rfl rfl ⟨rfl, rfl⟩
end Go.Sx
