/- Part of a proof: the law DeadKept, walked. -/
import Derived.Test.YtceandgmpcpmfaaCDE
namespace Go.Sx
open Go Go.Proofs
set_option maxRecDepth 10000
variable {w0 : World} {H : List Ck}
set_option maxHeartbeats 8000000 in
theorem kept_law {a sa : Option Addr} {c sc : Nat} {l : List Lf} {ss : List U64} {fewer g : Int} (hx : RSl w0 H a c l) (hs : RSl w0 H sa sc ss) (hl : l.length ≤ 5864062014805) (hsl : ss.length ≤ 1048576)
    (hf : -9223372036854775808 ≤ fewer ∧ fewer ≤ 9223372036854775807) : FnV Try.prog w0 H 6 #[.slice a l.length c, .slice sa ss.length sc, .int .i64 fewer, .int .u64 g] (.bool true) := by
  have hok : Srt (fillL l).1 ∧ (fillL l).1.Perm (fillL l).2 := fillL_ok l
  have hln := fill_len l
  have hln1 := fill_len1 l
  have hcnt : ∀ f : Lf → Bool, ((fillL l).1.filter f).length = (fillL l).2.countP f := fun f => fill_filter l f
  refine fns_enter Try.func6 rfl rfl rfl ?_
  refine s_kn (Kn.sl hs) fun l1 => ?_
  simp only [maxLen] at l1
  refine sx ?_
  refine s_callV rfl awake_s ?_
  refine sx ?_
  refine s_call rfl (filled_s hx hl) ?_
  rintro _ _ ⟨d, a1, c1, a2, c2, rfl, rfl⟩
  refine ⟨chk_seq, ?_⟩
  refine sx ?_
  refine s_call rfl (filled_s (by exact rsl) hl) ?_
  rintro _ _ ⟨e, b1, q1, b2, q2, rfl, rfl⟩
  refine ⟨chk_seq, ?_⟩
  generalize (fillL l).1 = xs at *
  generalize (fillL l).2 = ins at *
  have hmem : ∀ x, x ∈ ins → x ∈ xs := fun x h => hok.2.mem_iff.2 h
  have stp : StopAt 6 := trivial
  refine sxs ?_
  clear stp
  refine s_ent (.hb d 63 [.slice a1 xs.length c1] :: ol 34 a1 c1 xs :: .hb e 63 [.slice b1 xs.length q1] :: ol 34 b1 q1 xs :: ol 34 a2 c2 ins :: H) (by exact ent) ?_
  refine s_cut (ι := Bool) (fun t => [(1, .slice sa ss.length sc), (2, .int .i64 fewer), (3, .int .u64 g), (10, .pointer (some ⟨d, 0, none⟩)), (11, .slice a2 ins.length c2), (12, .pointer (some ⟨e, 0, none⟩)), (56, .bool t)])
    (fun _ => .hb d 63 [.slice a1 xs.length c1] :: ol 34 a1 c1 xs :: .hb e 63 [.slice b1 xs.length q1] :: ol 34 b1 q1 xs :: ol 34 a2 c2 ins :: H) (fun t => t = false → 0 ≤ fewer ∧ fewer ≤ ss.length) ?_ ?_
  · refine sx ?_
    refine s_lif rfl (fun t1 => ?_) (fun t1 => ?_)
    · refine sx ?_
      exact s_mid true (by simp)
    · refine sx ?_
      refine s_mid (decide ((ss.length : Int) < fewer)) ?_
      intro h
      have := of_decide_eq_false h
      omega
  rintro t ht
  refine s_cut (ι := Nat) (fun f => [(1, .slice sa ss.length sc), (2, .int .i64 (f : Nat)), (3, .int .u64 g), (10, .pointer (some ⟨d, 0, none⟩)), (11, .slice a2 ins.length c2), (12, .pointer (some ⟨e, 0, none⟩))])
    (fun _ => .hb d 63 [.slice a1 xs.length c1] :: ol 34 a1 c1 xs :: .hb e 63 [.slice b1 xs.length q1] :: ol 34 b1 q1 xs :: ol 34 a2 c2 ins :: H) (fun f => f ≤ ss.length) ?_ ?_
  · refine s_cond rfl (fun t1 => ?_) (fun t1 => ?_)
    · refine sx ?_
      exact s_mid (ss.length / 2) (by omega)
    · have := ht t1
      refine sx ?_
      exact s_mid fewer.toNat (by omega)
  clear ht t hf
  rintro f hfl
  refine sx ?_
  refine s_loop (fun m : KpI => [(1, .slice sa ss.length sc), (2, .int .i64 (f : Nat)), (3, .int .u64 g), (10, .pointer (some ⟨d, 0, none⟩)), (11, .slice a2 ins.length c2), (12, .pointer (some ⟨e, 0, none⟩)), (14, .slice m.a m.hs.length m.c), (15, .int .i64 m.k)])
    (fun m => .hb d 63 [.slice a1 xs.length c1] :: ol 34 a1 c1 xs :: ol 47 m.a m.c m.hs :: fam 3 m.hs :: .hb e 63 [.slice b1 xs.length q1] :: ol 34 b1 q1 xs :: ol 34 a2 c2 ins :: H)
    (fun m => m.k ≤ ss.length ∧ m.hs.map SIn.xs = (ss.take m.k).map fun s => heldV xs s.n) (fun m => ss.length - m.k) ⟨0, none, 0, []⟩ ⟨Nat.zero_le _, rfl⟩ ?_ (he := Ent.head (Ent.head (fam_nil.trans Ent.nilS)))
  · rintro ⟨k, a3, c3, hs'⟩ ⟨hk, hm⟩
    simp only at hk hm ⊢
    have hml := congrArg List.length hm
    rw [List.length_map, List.length_map, List.length_take] at hml
    refine sx ?_
    refine s_if rfl (fun t1 => ?_) (fun t1 => ?_)
    · obtain ⟨u, hu⟩ := get_lt ss k (by omega)
      refine sx ?_
      refine s_call rfl (dheld_s (xs := xs) (by omega)) ?_
      rintro _ _ ⟨a4, c4, rfl, rfl⟩
      refine ⟨chk_seq, ?_⟩
      refine s_bsl [(⟨a4, c4, heldV xs u.n⟩ : SIn)] rfl rfl fun b73 => ?_
      refine sx ?_
      refine s_app (xs := hs') ?_
      intro a5 c5
      refine sx ?_
      refine s_again ⟨k + 1, a5, c5, hs' ++ [⟨a4, c4, heldV xs u.n⟩]⟩ ⟨by simp only; omega, ?_⟩ (by simp only; omega) (he := ?_)
      · rw [List.map_append, hm, snocT hu, List.map_append]
        rfl
      · refine Ent.cons (by exact rm) ?_
        refine Ent.cons (by exact rm) ?_
        refine Ent.cons (by exact rm) ?_
        exact Ent.famS (by exact rm) (by exact rm) (by exact ent)
    · obtain rfl : k = ss.length := by omega
      rw [List.take_length] at hm
      refine sx ?_
      refine s_call rfl (dheld_s (xs := xs) (by omega)) ?_
      rintro _ _ ⟨a5, c5, rfl, rfl⟩
      refine ⟨chk_seq, ?_⟩
      refine sx ?_
      refine s_loop (fun i : Nat => [(1, .slice sa ss.length sc), (3, .int .u64 g), (10, .pointer (some ⟨d, 0, none⟩)), (11, .slice a2 ins.length c2), (14, .slice a3 hs'.length c3), (2, .int .i64 (f : Nat)), (12, .pointer (some ⟨e, 0, none⟩)), (16, .slice a5 (heldV xs g).length c5), (17, .int .i64 ((ins.take i).countP (fun x => decide (x.need g)) : Nat)), (18, .int .i64 i)])
        (fun _ => ol 3 a5 c5 (heldV xs g) :: .hb d 63 [.slice a1 xs.length c1] :: ol 34 a1 c1 xs :: ol 47 a3 c3 hs' :: fam 3 hs' :: .hb e 63 [.slice b1 xs.length q1] :: ol 34 b1 q1 xs :: ol 34 a2 c2 ins :: H) (fun i => i ≤ ins.length) (fun i => ins.length - i) 0 (Nat.zero_le _) ?_
      intro i hi
      have hcl : (ins.take i).countP (fun x => decide (x.need g)) ≤ i := by
        refine Nat.le_trans List.countP_le_length ?_
        rw [List.length_take]
        omega
      refine sx ?_
      refine s_if rfl (fun t2 => ?_) (fun t2 => ?_)
      · obtain ⟨x, hxi⟩ := get_lt ins i (by omega)
        have hcs := countP_snoc (f := fun x => decide (x.need g)) hxi
        refine sx ?_
        refine s_callV rfl (lneeds_s (x := x)) ?_
        refine sx ?_
        refine s_if rfl (fun t3 => ?_) (fun t3 => ?_)
        · rw [if_pos (decide_eq_true t3)] at hcs
          refine sx ?_
          refine s_callV rfl (has_s (xs := heldV xs g) (by exact rsl)) ?_
          rw [decide_eq_true (mem_held (hmem x (List.mem_of_getElem? hxi)) t3)]
          refine sx ?_
          exact s_again (i + 1) (by omega) (by omega)
        · rw [if_neg (by simpa using t3)] at hcs
          refine sx ?_
          exact s_again (i + 1) (by omega) (by omega)
      obtain rfl : i = ins.length := by omega
      have hlh : (heldV xs g).length = ins.countP (fun x => decide (x.need g)) := by
        rw [← hcnt, heldV, List.length_map]
      rw [List.take_length, ← hlh]
      refine sx ?_
      refine s_entL (.hb d 63 [.slice a1 xs.length c1] :: ol 34 a1 c1 xs :: ol 47 a3 c3 hs' :: fam 3 hs' :: .hb e 63 [.slice b1 xs.length q1] :: ol 34 b1 q1 xs :: ol 34 a2 c2 ins :: H) (by exact ent) ?_
      refine s_call rfl (dfree_s (xs := xs) (ss := ss) (by exact rsl) (by omega)) ?_
      rintro _ _ ⟨a6, c6, a7, c7, rfl, rfl⟩
      refine ⟨chk_seq, ?_⟩
      refine sx ?_
      refine s_entL (.hb e 63 [.slice b1 xs.length q1] :: ol 34 b1 q1 xs :: ol 3 a6 c6 (freeV xs (ssN ss)) :: .hb d 63 [.slice a7 (keptV xs (ssN ss)).length c7] :: ol 34 a7 c7 (keptV xs (ssN ss)) :: ol 47 a3 c3 hs' :: fam 3 hs' :: ol 34 a2 c2 ins :: H) (by exact ent) ?_
      have hsf := RSl.take hs hfl
      have htl : (ss.take f).length = f := by rw [List.length_take]; omega
      refine s_rw (t := 110) (v' := .slice sa (ss.take f).length sc) rfl (by rw [htl]) ?_
      refine s_call rfl (dfree_s (xs := xs) (ss := ss.take f) (by exact rsl) (by omega)) ?_
      rintro _ _ ⟨b6, q6, b7, q7, rfl, rfl⟩
      clear hsf htl
      refine ⟨chk_seq, ?_⟩
      refine sx ?_
      refine s_entL (.hb d 63 [.slice a7 (keptV xs (ssN ss)).length c7] :: ol 34 a7 c7 (keptV xs (ssN ss)) :: ol 3 b6 q6 (freeV xs (ssN (ss.take f))) :: ol 3 a6 c6 (freeV xs (ssN ss)) :: ol 47 a3 c3 hs' :: fam 3 hs' :: ol 34 a2 c2 ins :: H) (by exact ent) ?_
      have hkl := keptV_len xs (ssN ss)
      refine s_call rfl (dlives_s (xs := keptV xs (ssN ss)) (by omega)) ?_
      rintro _ _ ⟨a8, c8, rfl, rfl⟩
      refine ⟨chk_seq, ?_⟩
      refine sx ?_
      refine s_ent (.hb d 63 [.slice a7 (keptV xs (ssN ss)).length c7] :: ol 34 a7 c7 (keptV xs (ssN ss)) :: ol 34 a8 c8 (keptV xs (ssN ss)) :: ol 3 b6 q6 (freeV xs (ssN (ss.take f))) :: ol 3 a6 c6 (freeV xs (ssN ss)) :: ol 47 a3 c3 hs' :: fam 3 hs' :: ol 34 a2 c2 ins :: H) (by exact ent) ?_
      clear hlh hi
      refine s_loop (fun i : Nat => [(1, .slice sa ss.length sc), (10, .pointer (some ⟨d, 0, none⟩)), (11, .slice a2 ins.length c2), (14, .slice a3 hs'.length c3), (19, .slice a6 (freeV xs (ssN ss)).length c6), (20, .slice b6 (freeV xs (ssN (ss.take f))).length q6), (21, .slice a8 (keptV xs (ssN ss)).length c8), (22, .int .i64 ((ins.take i).countP (fun x => decide (anyN (ssN ss) x)) : Nat)), (23, .int .i64 i)])
        (fun _ => .hb d 63 [.slice a7 (keptV xs (ssN ss)).length c7] :: ol 34 a7 c7 (keptV xs (ssN ss)) :: ol 34 a8 c8 (keptV xs (ssN ss)) :: ol 3 b6 q6 (freeV xs (ssN (ss.take f))) :: ol 3 a6 c6 (freeV xs (ssN ss)) :: ol 47 a3 c3 hs' :: fam 3 hs' :: ol 34 a2 c2 ins :: H) (fun i => i ≤ ins.length) (fun i => ins.length - i) 0 (Nat.zero_le _) ?_
      intro i hi
      have hcl : (ins.take i).countP (fun x => decide (anyN (ssN ss) x)) ≤ i := by
        refine Nat.le_trans List.countP_le_length ?_
        rw [List.length_take]
        omega
      refine sx ?_
      refine s_if rfl (fun t2 => ?_) (fun t2 => ?_)
      · obtain ⟨x, hxi⟩ := get_lt ins i (by omega)
        have hcs := countP_snoc (f := fun x => decide (anyN (ssN ss) x)) hxi
        refine sx ?_
        refine s_callV rfl (any_s (ss := ss) (x := x) (by exact rsl)) ?_
        refine sx ?_
        by_cases t3 : anyN (ssN ss) x
        · rw [if_pos (decide_eq_true t3)] at hcs
          rw [decide_eq_true t3]
          refine sx ?_
          exact s_again (i + 1) (by omega) (by omega)
        · rw [if_neg (by simpa using t3)] at hcs
          rw [decide_eq_false t3]
          refine sx ?_
          refine s_callV rfl (has_s (xs := freeV xs (ssN ss)) (by exact rsl)) ?_
          rw [decide_eq_true (mem_free (hmem x (List.mem_of_getElem? hxi)) t3)]
          refine sx ?_
          exact s_again (i + 1) (by omega) (by omega)
      obtain rfl : i = ins.length := by omega
      have hlk : (keptV xs (ssN ss)).length = ins.countP (fun x => decide (anyN (ssN ss) x)) := by
        rw [← hcnt, keptV]
      rw [List.take_length, ← hlk]
      refine sx ?_
      refine s_loop (fun i : Nat => [(1, .slice sa ss.length sc), (10, .pointer (some ⟨d, 0, none⟩)), (11, .slice a2 ins.length c2), (14, .slice a3 hs'.length c3), (19, .slice a6 (freeV xs (ssN ss)).length c6), (20, .slice b6 (freeV xs (ssN (ss.take f))).length q6), (21, .slice a8 (keptV xs (ssN ss)).length c8), (22, .int .i64 ((keptV xs (ssN ss)).length : Nat)), (25, .int .i64 i)]) (fun _ => .hb d 63 [.slice a7 (keptV xs (ssN ss)).length c7] :: ol 34 a7 c7 (keptV xs (ssN ss)) :: ol 34 a8 c8 (keptV xs (ssN ss)) :: ol 3 b6 q6 (freeV xs (ssN (ss.take f))) :: ol 3 a6 c6 (freeV xs (ssN ss)) :: ol 47 a3 c3 hs' :: fam 3 hs' :: ol 34 a2 c2 ins :: H) (fun _ => True) (fun i => (keptV xs (ssN ss)).length - i) 0 trivial ?_
      rintro i -
      refine sx ?_
      refine s_if rfl (fun t2 => ?_) (fun t2 => ?_)
      · obtain ⟨x, hxi⟩ := get_lt (keptV xs (ssN ss)) i (by omega)
        refine sx ?_
        refine s_callV rfl (any_s (ss := ss) (x := x) (by exact rsl)) ?_
        rw [decide_eq_true (of_decide_eq_true (List.mem_filter.1 (List.mem_of_getElem? hxi)).2 : anyN (ssN ss) x)]
        refine sx ?_
        exact s_again (i + 1) trivial (by omega)
      refine sx ?_
      have hrise := List.pairwise_iff_getElem.1 (free_rise hok.1 (ssN ss))
      have hfv := freeV_len xs (ssN ss)
      refine s_loop (fun i : Nat => [(1, .slice sa ss.length sc), (10, .pointer (some ⟨d, 0, none⟩)), (11, .slice a2 ins.length c2), (14, .slice a3 hs'.length c3), (19, .slice a6 (freeV xs (ssN ss)).length c6), (20, .slice b6 (freeV xs (ssN (ss.take f))).length q6), (21, .slice a8 (keptV xs (ssN ss)).length c8), (22, .int .i64 ((keptV xs (ssN ss)).length : Nat)), (26, .int .i64 i)]) (fun _ => .hb d 63 [.slice a7 (keptV xs (ssN ss)).length c7] :: ol 34 a7 c7 (keptV xs (ssN ss)) :: ol 34 a8 c8 (keptV xs (ssN ss)) :: ol 3 b6 q6 (freeV xs (ssN (ss.take f))) :: ol 3 a6 c6 (freeV xs (ssN ss)) :: ol 47 a3 c3 hs' :: fam 3 hs' :: ol 34 a2 c2 ins :: H) (fun _ => True) (fun i => (freeV xs (ssN ss)).length - i) 0 trivial ?_
      rintro i -
      refine sx ?_
      refine s_if rfl (fun t2 => ?_) (fun t2 => ?_)
      · obtain ⟨x, hxi⟩ := get_lt (freeV xs (ssN ss)) i (by omega)
        have hin : x ∈ freeV xs (ssN (ss.take f)) := free_sub (ss := ssN ss) (fun s h => by
          obtain ⟨u, g1, rfl⟩ := List.mem_map.1 h
          exact List.mem_map.2 ⟨u, List.mem_of_mem_take g1, rfl⟩) (List.mem_of_getElem? hxi)
        obtain ⟨g1, g2⟩ := List.getElem?_eq_some_iff.1 hxi
        by_cases h0 : i = 0
        · subst h0
          refine sx ?_; refine s_dr (.one true 0 (.one true 1 (.one true 2 (.one true 3 (.one true 4 (.one true 5 (.one true 6 (.one true 7 (.one true 8 (.one true 9 (.one true 10 (.one true 11 (.one true 12 (.one true 13 (.one true 14 (.one true 15 (.one true 16 (.one true 17 (.one true 18 (.one true 19 (.one false 20 (.one true 21 (.one true 22 .nil))))))))))))))))))))))) mixed (by kernel_rfl) ?_; refine sx ?_
          refine s_callV rfl (has_s (xs := freeV xs (ssN (ss.take f))) (by exact rsl)) ?_
          rw [decide_eq_true hin]
          refine sx ?_
          exact s_again 1 trivial (by omega)
        · obtain ⟨y, hyi⟩ := get_lt (freeV xs (ssN ss)) (i - 1) (by omega)
          obtain ⟨g3, g4⟩ := List.getElem?_eq_some_iff.1 hyi
          have hyx : y < x := by
            have := hrise (i - 1) i g3 g1 (by omega)
            rwa [g2, g4] at this
          refine sx ?_; refine s_dr (.one true 0 (.one true 1 (.one true 2 (.one true 3 (.one true 4 (.one true 5 (.one true 6 (.one true 7 (.one true 8 (.one true 9 (.one true 10 (.one true 11 (.one true 12 (.one true 13 (.one true 14 (.one true 15 (.one true 16 (.one true 17 (.one true 18 (.one true 19 (.one false 20 (.one true 21 (.one true 22 .nil))))))))))))))))))))))) mixed (by kernel_rfl) ?_; refine sx ?_
          refine s_lif rfl (fun t3 => ?_) (fun t3 => by exfalso; omega)
          refine sx ?_
          refine s_lif rfl (fun t4 => by exfalso; omega) (fun t4 => ?_)
          refine sx ?_
          refine s_callV rfl (has_s (xs := freeV xs (ssN (ss.take f))) (by exact rsl)) ?_
          rw [decide_eq_true hin]
          refine sx ?_
          exact s_again (i + 1) trivial (by omega)
      refine sx ?_
      refine s_loop (fun i : Nat => [(1, .slice sa ss.length sc), (10, .pointer (some ⟨d, 0, none⟩)), (11, .slice a2 ins.length c2), (14, .slice a3 hs'.length c3), (21, .slice a8 (keptV xs (ssN ss)).length c8), (22, .int .i64 ((keptV xs (ssN ss)).length : Nat)), (27, .int .i64 i)]) (fun _ => .hb d 63 [.slice a7 (keptV xs (ssN ss)).length c7] :: ol 34 a7 c7 (keptV xs (ssN ss)) :: ol 34 a8 c8 (keptV xs (ssN ss)) :: ol 47 a3 c3 hs' :: fam 3 hs' :: H) (fun _ => True) (fun i => ss.length - i) 0 trivial ?_
      rintro i -
      refine sx ?_
      refine s_if rfl (fun t2 => ?_) (fun t2 => ?_)
      · obtain ⟨u, hu⟩ := get_lt ss i (by omega)
        obtain ⟨s, hsi⟩ := get_lt hs' i (by omega)
        have hse : s.xs = heldV xs u.n := by
          have h1 := congrArg (·[i]?) hm
          simp only [List.getElem?_map, hsi, hu, Option.map_some, Option.some.injEq] at h1
          exact h1
        have hun : u.n ∈ ssN ss := List.mem_map.2 ⟨u, List.mem_of_getElem? hu, rfl⟩
        refine sx ?_; refine s_dr (.one true 0 (.one true 1 (.one true 2 (.one true 3 (.one true 4 (.one true 6 (.one true 7 (.one true 8 (.one true 9 (.one false 5 (.one false 10 (.one true 11 .nil)))))))))))) mixed (by kernel_rfl) ?_; refine sx ?_
        refine s_call rfl (dheld_s (xs := keptV xs (ssN ss)) (by omega)) ?_
        rintro _ _ ⟨a9, c9, rfl, rfl⟩
        refine ⟨chk_held (by exact ent), ?_⟩
        refine sx ?_
        refine s_callV rfl (sameI_s (xs := heldV (keptV xs (ssN ss)) u.n) (ys := s.xs) (by exact rsl) (by repeat (first | exact fam_sl (List.mem_of_getElem? hsi) | apply RSl.tl))) ?_
        rw [hse, held_kept hun, decide_eq_true rfl]
        refine sx ?_
        exact s_again (i + 1) trivial (by omega)
      refine sx ?_
      refine s_call rfl (dfree_s (xs := keptV xs (ssN ss)) (ss := ss) (by exact rsl) (by omega)) ?_
      rintro _ _ ⟨e6, f6, e7, f7, rfl, rfl⟩
      rw [free_kept, kept_kept]
      refine ⟨chk_seq, ?_⟩
      refine sx ?_
      refine s_entL (.hb d 63 [.slice e7 (keptV xs (ssN ss)).length f7] :: ol 34 e7 f7 (keptV xs (ssN ss)) :: H) (by exact ent) ?_
      refine s_call rfl (dfree_s (xs := keptV xs (ssN ss)) (ss := []) (sa := none) (sc := 0) RSl.nil (by omega)) ?_
      rintro _ _ ⟨e8, f8, e9, f9, rfl, rfl⟩
      have hz := freeV_len (keptV xs (ssN ss)) (ssN [])
      have hk0 : keptV (keptV xs (ssN ss)) (ssN []) = [] := kept_none _
      rw [hk0]
      refine ⟨chk_seq, ?_⟩
      refine sx ?_
      refine s_lif rfl (fun t3 => ?_) (fun t3 => by exfalso; omega)
      refine sx ?_
      refine s_callV rfl (dcountR_s (n := 0) (by exact rch)) ?_
      refine sx ?_
      exact s_ret1 rfl rfl ⟨rfl, rfl⟩
end Go.Sx
