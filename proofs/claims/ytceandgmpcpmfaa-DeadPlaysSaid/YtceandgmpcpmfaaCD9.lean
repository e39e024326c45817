/- Part of a proof: what is freed, by the document. -/
import Derived.Test.YtceandgmpcpmfaaCD8
namespace Go.Sx
open Go Go.Proofs
set_option maxRecDepth 10000
variable {w0 : World} {H : List Ck}
theorem freeV_snoc {xs : List Lf} {i : Nat} {x : Lf} {ss : List Int} (h : xs[i]? = some x) : freeV (xs.take (i + 1)) ss = if anyN ss x then freeV (xs.take i) ss else if (freeV (xs.take i) ss).getLast? = some x.p then freeV (xs.take i) ss else freeV (xs.take i) ss ++ [x.p] := by
  unfold freeV
  rw [outV_snoc h]
  by_cases hn : anyN ss x
  · rw [if_pos hn, if_pos hn, List.append_nil]
  · rw [if_neg hn, if_neg hn, dd_snoc, dd_last]
theorem freeV_len (xs : List Lf) (ss : List Int) : (freeV xs ss).length ≤ xs.length := Nat.le_trans (dd_len _) (outV_len xs ss)
set_option maxHeartbeats 1000000 in
theorem rfree_s {d : Nat} {a sa : Option Addr} {c sc : Nat} {xs : List Lf} {ss : List U64} (hs : RSl w0 H sa sc ss) (hl : xs.length ≤ 5864062014805) :
    FnS Try.prog w0 (.hb d 73 [.slice a xs.length c] :: ol 34 a c xs :: H) 41 #[.pointer (some ⟨d, 0, none⟩), .slice sa ss.length sc] (FreR 73 d xs (ssN ss) H) := by
  refine fns_enter Try.func41 rfl rfl rfl ?_
  refine s_kn (Kn.sl hs).tl.tl fun l0 => ?_
  simp only [maxLen] at l0
  refine sx ?_
  refine s_loop (fun i : FrI => [(0, .pointer (some ⟨d, 0, none⟩)), (1, .slice sa ss.length sc), (5, .slice i.a5 (keptV (xs.take i.i) (ssN ss)).length i.c5), (6, .slice i.a6 (freeV (xs.take i.i) (ssN ss)).length i.c6), (7, .int .i64 i.i)])
    (fun i => ol 3 i.a6 i.c6 (freeV (xs.take i.i) (ssN ss)) :: ol 34 i.a5 i.c5 (keptV (xs.take i.i) (ssN ss)) :: .hb d 73 [.slice a xs.length c] :: ol 34 a c xs :: H) (fun i => i.i ≤ xs.length) (fun i => xs.length - i.i) ⟨0, none, 0, none, 0⟩ (Nat.zero_le _) ?_ (he := Ent.nilS.trans (Ent.nilS.trans (Ent.perm (List.Perm.swap _ _ _))))
  rintro ⟨i, a5, c5, a6, c6⟩ hi
  simp only at hi ⊢
  have hl1 := keptV_len (xs.take i) (ssN ss)
  have hl2 := freeV_len (xs.take i) (ssN ss)
  rw [List.length_take] at hl1 hl2
  refine sx ?_
  refine s_if rfl (fun t1 => ?_) (fun t1 => ?_)
  · obtain ⟨x, hx⟩ := get_lt xs i (by omega)
    have h1 := keptV_snoc (ss := ssN ss) hx
    have h2 := freeV_snoc (ss := ssN ss) hx
    refine sx ?_
    refine s_loop (fun m : Nat × Bool => [(0, .pointer (some ⟨d, 0, none⟩)), (1, .slice sa ss.length sc), (5, .slice a5 (keptV (xs.take i) (ssN ss)).length c5), (6, .slice a6 (freeV (xs.take i) (ssN ss)).length c6), (7, .int .i64 i), (8, .bool m.2), (9, .int .i64 m.1)])
      (fun _ => ol 3 a6 c6 (freeV (xs.take i) (ssN ss)) :: ol 34 a5 c5 (keptV (xs.take i) (ssN ss)) :: .hb d 73 [.slice a xs.length c] :: ol 34 a c xs :: H) (fun m => m.1 ≤ ss.length ∧ m.2 = decide (anyN (ssN (ss.take m.1)) x)) (fun m => ss.length - m.1) (0, false) ⟨Nat.zero_le _, by simp [anyN]⟩ ?_
    rintro ⟨k, t⟩ ⟨hk, ht⟩
    simp only at hk ht ⊢
    refine sx ?_
    refine s_lif rfl (fun t2 => ?_) (fun t2 => ?_)
    · obtain ⟨u, hu⟩ := get_lt ss k (by omega)
      have hun := anyN_snoc (x := x) hu
      cases t
      · have hno : ¬ anyN (ssN (ss.take k)) x := of_decide_eq_false ht.symm
        refine sx ?_
        refine sx ?_; refine s_dr (.one true 0 (.one true 1 (.one true 2 (.one true 3 (.one true 4 (.one true 5 (.one true 6 (.one true 7 (.one true 8 (.one true 9 (.one true 10 (.one false 11 (.one true 12 .nil))))))))))))) mixed (by kernel_rfl) ?_; refine sx ?_
        refine s_callV rfl (rneeds_s (x := x)) ?_
        refine sx ?_
        refine s_again (k + 1, decide (x.need u.n)) ⟨by simp only; omega, ?_⟩ (by simp only; omega)
        exact decide_eq_decide.2 ⟨fun h => hun.2 (.inr h), fun h => (hun.1 h).resolve_left hno⟩
      · have hany : anyN (ssN ss) x := by
          obtain ⟨v, g1, g2⟩ := of_decide_eq_true ht.symm
          obtain ⟨u', g3, rfl⟩ := List.mem_map.1 g1
          exact ⟨_, List.mem_map.2 ⟨u', List.mem_of_mem_take g3, rfl⟩, g2⟩
        refine sx ?_
        rw [if_pos hany] at h1 h2
        refine s_bsl [x] rfl rfl fun b23 => ?_
        refine sx ?_
        refine s_app (xs := keptV (xs.take i) (ssN ss)) ?_
        intro a7 c7
        refine sx ?_
        rw [← h1, ← h2]
        exact s_again ⟨i + 1, a7, c7, a6, c6⟩ (by simp only; omega) (by simp only; omega)
    · obtain rfl : k = ss.length := by omega
      rw [List.take_length] at ht
      subst ht
      refine sx ?_
      refine s_if rfl (fun hany => ?_) (fun hany => ?_)
      · refine sx ?_
        rw [if_pos hany] at h1 h2
        refine s_bsl [x] rfl rfl fun b23 => ?_
        refine sx ?_
        refine s_app (xs := keptV (xs.take i) (ssN ss)) ?_
        intro a7 c7
        refine sx ?_
        rw [← h1, ← h2]
        exact s_again ⟨i + 1, a7, c7, a6, c6⟩ (by simp only; omega) (by simp only; omega)
      · rw [if_neg hany] at h1 h2
        rw [List.append_nil] at h1
        by_cases hz : (freeV (xs.take i) (ssN ss)).length = 0
        · have hz0 := List.eq_nil_of_length_eq_zero hz
          rw [if_neg (by rw [hz0]; simp)] at h2
          refine sx ?_; refine s_dr (.one true 0 (.one true 1 (.one true 2 (.one true 3 (.one true 4 (.one true 5 (.one true 6 (.one true 7 (.one true 8 (.one true 9 (.one true 10 (.one true 11 (.one true 12 (.one true 13 (.one true 14 (.one true 15 (.one true 16 (.one true 17 (.one true 18 (.one true 19 .nil)))))))))))))))))))) mixed (by kernel_rfl) ?_; refine sx ?_
          refine s_lif rfl (fun t3 => ?_) (fun t3 => absurd (by omega) t3)
          refine sx ?_
          refine s_bsl [x.p] rfl rfl fun b23 => ?_
          refine sx ?_
          refine s_app (xs := freeV (xs.take i) (ssN ss)) ?_
          intro a7 c7
          refine sx ?_
          rw [← h1, ← h2]
          exact s_again ⟨i + 1, a5, c5, a7, c7⟩ (by simp only; omega) (by simp only; omega)
        · obtain ⟨z, hzl⟩ := get_lt (freeV (xs.take i) (ssN ss)) ((freeV (xs.take i) (ssN ss)).length - 1) (by omega)
          have hgl : (freeV (xs.take i) (ssN ss)).getLast? = some z := by rw [List.getLast?_eq_getElem?]; exact hzl
          rw [hgl] at h2
          refine s_kn (φ := ∃ ad, a6 = some ad) (fun w hw => own_gA (c := c6) (Sat.ownOf (c' := ol 3 a6 c6 (freeV (xs.take i) (ssN ss))) .hd hw) (by omega)) ?_
          rintro ⟨ad, rfl⟩
          refine s_kn (φ := ∃ ad, a = some ad) (fun w hw => own_gA (c := c) (Sat.ownOf (c' := ol 34 a c xs) (.tl (.tl (.tl .hd))) hw) (by omega)) ?_
          rintro ⟨ad2, rfl⟩
          refine sx ?_; refine s_dr (.one true 0 (.one true 1 (.one true 2 (.one true 3 (.one true 4 (.one true 5 (.one true 6 (.one true 7 (.one true 8 (.one true 9 (.one true 10 (.one true 11 (.one true 12 (.one true 13 (.one true 14 (.one true 15 (.one true 16 (.one true 17 (.one true 18 (.one true 19 .nil)))))))))))))))))))) mixed (by kernel_rfl) ?_; refine sx ?_
          refine s_lif rfl (fun t3 => absurd t3 (by omega)) (fun t3 => ?_)
          refine sx ?_
          refine s_ifn rfl (fun t4 => ?_) (fun t4 => ?_)
          · rw [if_neg (by simpa using t4)] at h2
            refine sx ?_
            refine s_bsl [x.p] rfl rfl fun b23 => ?_
            refine sx ?_
            refine s_app (xs := freeV (xs.take i) (ssN ss)) ?_
            intro a7 c7
            refine sx ?_
            rw [← h1, ← h2]
            exact s_again ⟨i + 1, a5, c5, a7, c7⟩ (by simp only; omega) (by simp only; omega)
          · rw [if_pos (by rw [t4])] at h2
            refine sx ?_
            rw [← h1, ← h2]
            exact s_again ⟨i + 1, a5, c5, some ad, c6⟩ (by simp only; omega) (by simp only; omega)
  · obtain rfl : i = xs.length := by omega
    rw [List.take_length] at hl1 hl2 ⊢
    refine sx ?_
    exact s_ret1 rfl rfl ⟨a6, c6, a5, c5, rfl, rfl⟩
end Go.Sx
