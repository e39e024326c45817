/- Part of a proof: what is freed, by the program. -/
import Derived.Test.YtceandgmpcpmfaaCD5
namespace Go.Sx
open Go Go.Proofs
set_option maxRecDepth 10000
variable {w0 : World} {H : List Ck}
theorem free1_s {b : Nat} {x : Lf} {g : Int} : FnV Try.prog w0 (.hb b 34 x.cells :: H) 34 #[.int .u64 g, .pointer (some ⟨b, 0, none⟩)] (.bool (decide (x.need g))) := by
  refine fns_enter Try.func34 rfl rfl rfl ?_
  refine sx ?_
  refine s_callV rfl (dneeds_s (x := x)) ?_
  refine sx ?_
  exact s_ret1 rfl rfl ⟨rfl, rfl⟩
abbrev ssN (ss : List U64) : List Int := ss.map U64.n
theorem anyN_snoc {ss : List U64} {i : Nat} {s : U64} {x : Lf} (h : ss[i]? = some s) : anyN (ssN (ss.take (i + 1))) x ↔ anyN (ssN (ss.take i)) x ∨ x.need s.n := by
  rw [snocT h]
  simp only [ssN, List.map_append, List.map_cons, List.map_nil, anyN, List.mem_append, List.mem_singleton]
  constructor
  · rintro ⟨t, h1 | rfl, h2⟩
    · exact .inl ⟨t, h1, h2⟩
    · exact .inr h2
  · rintro (⟨t, h1, h2⟩ | h)
    · exact ⟨t, .inl h1, h2⟩
    · exact ⟨_, .inr rfl, h⟩
theorem idxf_s {a : Option Addr} {c b : Nat} {ss : List U64} {x : Lf} (hs : RSl w0 H a c ss) :
    FnS Try.prog w0 (.hb b 34 x.cells :: H) 43 #[.slice a ss.length c, .func (.func 34) #[] #[.pointer (some ⟨b, 0, none⟩)]] (fun v H' => ∃ r : Int, v = .int .i64 r ∧ (0 ≤ r ↔ anyN (ssN ss) x) ∧ H' = .hb b 34 x.cells :: H) := by
  refine fns_enter Try.func43 rfl rfl rfl ?_
  refine s_kn (Kn.sl hs).tl fun l1 => ?_
  simp only [maxLen] at l1
  refine sx ?_
  refine s_loop (fun i : Nat => [(0, .slice a ss.length c), (1, .func (.func 34) #[] #[.pointer (some ⟨b, 0, none⟩)]), (7, .int .i64 ss.length), (8, .int .i64 i)]) (fun _ => .hb b 34 x.cells :: H) (fun i => i ≤ ss.length ∧ ¬ anyN (ssN (ss.take i)) x) (fun i => ss.length - i) 0 ⟨Nat.zero_le _, by simp [anyN]⟩ ?_
  rintro i ⟨hi, hn⟩
  refine sx ?_
  refine s_if rfl (fun t1 => ?_) (fun t1 => ?_)
  · obtain ⟨s, hsi⟩ := get_lt ss i (by omega)
    have h1 := anyN_snoc (x := x) hsi
    have hs' := hs.tl (d := .hb b 34 x.cells)
    refine sx ?_
    refine s_callFV (cap := [.pointer (some ⟨b, 0, none⟩)]) rfl rfl free1_s ?_
    refine sx ?_
    refine s_if rfl (fun t2 => ?_) (fun t2 => ?_)
    · refine sx ?_
      refine s_ret1 rfl rfl ⟨(i : Int), rfl, ⟨fun _ => ?_, fun _ => by omega⟩, rfl⟩
      obtain ⟨s', h2, h3⟩ := h1.2 (.inr t2)
      refine ⟨s', ?_, h3⟩
      obtain ⟨u, h4, rfl⟩ := List.mem_map.1 h2
      exact List.mem_map.2 ⟨u, List.mem_of_mem_take h4, rfl⟩
    · refine sx ?_
      exact s_again (i + 1) ⟨by omega, fun h => (h1.1 h).elim hn t2⟩ (by omega)
  · obtain rfl : i = ss.length := by omega
    rw [List.take_length] at hn
    refine sx ?_
    exact s_ret1 rfl rfl ⟨-1, rfl, ⟨fun h => by omega, fun h => absurd h hn⟩, rfl⟩
theorem conf_s {a : Option Addr} {c b : Nat} {ss : List U64} {x : Lf} (hs : RSl w0 H a c ss) :
    FnV Try.prog w0 (.hb b 34 x.cells :: H) 33 #[.slice a ss.length c, .func (.func 34) #[] #[.pointer (some ⟨b, 0, none⟩)]] (.bool (decide (anyN (ssN ss) x))) := by
  refine fns_enter Try.func33 rfl rfl rfl ?_
  refine sx ?_
  refine s_call rfl (idxf_s hs) ?_
  rintro _ _ ⟨r, rfl, hr, rfl⟩
  refine ⟨chk_seq, ?_⟩
  refine sx ?_
  exact s_ret1 rfl rfl ⟨by rw [decide_eq_decide.2 hr], rfl⟩
/-! ### Compact -/
theorem dd_step {xs : List Int} {k : Nat} {x y : Int} (hy : xs[k]? = some y) (hx : xs[k + 1]? = some x) : dd (xs.take (k + 1 + 1)) = if y = x then dd (xs.take (k + 1)) else dd (xs.take (k + 1)) ++ [x] := by
  have h1 : (xs.take (k + 1)).getLast? = some y := by rw [snocT hy]; simp
  rw [snocT hx, dd_snoc, h1]
  by_cases e : y = x
  · rw [if_pos e, if_pos (by rw [e])]
  · rw [if_neg e, if_neg (by simpa using e)]
theorem dd_one {xs : List Int} : dd (xs.take 1) = xs.take 1 := by
  cases xs <;> simp [dd]
abbrev CmpR (xs : List Int) (H : List Ck) : Value → List Ck → Prop := fun v H' => ∃ a' c', v = .slice a' (dd xs).length c' ∧ H' = ol 3 a' c' (dd xs) :: H
theorem compact_s {a : Option Addr} {c : Nat} {xs : List Int} (hl : xs.length ≤ 5864062014805) :
    FnS Try.prog w0 (ol 3 a c xs :: H) 35 #[.slice a xs.length c] (CmpR xs H) := by
  refine fns_enter Try.func35 rfl rfl rfl ?_
  refine s_kn (Kn.sl (RSl.hd : RSl w0 (ol 3 a c xs :: H) a c xs)) fun l1 => ?_
  refine sx ?_
  refine s_if rfl (fun t1 => ?_) (fun t1 => ?_)
  · have e : dd xs = xs := by
      match xs, t1 with
      | [], _ => rfl
      | [_], _ => rfl
      | _ :: _ :: r, h => simp only [List.length_cons] at h; omega
    refine sx ?_
    refine s_ret1 rfl rfl ⟨a, c, ?_, rfl⟩ ?_
    · rw [e]
    · rw [e]; exact Ent.refl
  refine s_kn (φ := ∃ ad, a = some ad) (fun w hw => own_gA (c := c) (Sat.ownOf (c' := ol 3 a c xs) .hd hw) (by omega)) ?_
  rintro ⟨ad, rfl⟩
  refine sx ?_
  refine s_loop (fun k : Nat => [(0, .slice (some ad) xs.length c), (3, .int .i64 k)]) (fun _ => ol 3 (some ad) c xs :: H) (fun k => 1 ≤ k ∧ k ≤ xs.length ∧ dd (xs.take k) = xs.take k) (fun k => xs.length - k) 1 ⟨Nat.le_refl _, by omega, dd_one⟩ ?_
  rintro k ⟨hk1, hk2, hk⟩
  refine sx ?_
  refine s_if rfl (fun t2 => ?_) (fun t2 => ?_)
  · obtain ⟨x, hx⟩ := get_lt xs k (by omega)
    obtain ⟨y, hy⟩ := get_lt xs (k - 1) (by omega)
    have hst := dd_step hy (by rw [Nat.sub_add_cancel hk1]; exact hx)
    rw [Nat.sub_add_cancel hk1] at hst
    refine sx ?_; refine s_dr (.one true 0 (.one true 1 (.one true 2 (.one true 3 (.one true 4 (.one true 5 (.one true 6 (.one true 7 (.one true 8 (.one true 9 .nil)))))))))) mixed (by kernel_rfl) ?_; refine sx ?_
    refine s_if rfl (fun t3 => ?_) (fun t3 => ?_)
    · rw [if_pos t3.symm, hk] at hst
      refine sx ?_
      have hne : c ≠ k := by omega
      refine s_loop (fun m : Nat × Nat × List Int => [(0, .slice (some ad) xs.length c), (3, .int .i64 m.1), (4, .slice (Sx.sl (some ad) c k 1) (xs.length - k) (c - k)), (5, .int .i64 m.2.1)]) (fun m => ol 3 (some ad) c m.2.2 :: H)
        (fun m => m.2.2.length = xs.length ∧ 1 ≤ m.2.1 ∧ m.2.1 ≤ xs.length - k ∧ k ≤ m.1 ∧ m.1 ≤ k + m.2.1 - 1 ∧ m.2.2.take m.1 = dd (xs.take (k + m.2.1)) ∧ m.2.2.drop (k + m.2.1 - 1) = xs.drop (k + m.2.1 - 1)) (fun m => xs.length - m.2.1) (k, 1, xs) ⟨rfl, Nat.le_refl _, by simp only; omega, Nat.le_refl _, by simp only; omega, hst.symm, rfl⟩ ?_
      rintro ⟨k', j, ys⟩ ⟨g0, g1, g2, g3, g4, g5, g6⟩
      simp only at g0 g1 g2 g3 g4 g5 g6 ⊢
      have r2 : RSl w0 (ol 3 (some ad) c ys :: H) (Sx.sl (some ad) c k 1) (c - k) (ys.drop k) := RSl.drop RSl.hd (by omega)
      have hdl : (ys.drop k).length = xs.length - k := by rw [List.length_drop, g0]
      refine s_rwC (t := 4) (v' := .slice (Sx.sl (some ad) c k 1) (ys.drop k).length (c - k)) rfl (by rw [hdl]) ?_
      refine sx ?_
      refine s_if rfl (fun t4 => ?_) (fun t4 => ?_)
      · have t4' : j < xs.length - k := by omega
        obtain ⟨u, hu⟩ := get_lt xs (k + j) (by omega)
        obtain ⟨z, hz⟩ := get_lt xs (k + j - 1) (by omega)
        have hst2 := dd_step hz (by rw [show k + j - 1 + 1 = k + j by omega]; exact hu)
        rw [show k + j - 1 + 1 = k + j by omega] at hst2
        have hyx : ∀ m, k + j - 1 ≤ m → ys[m]? = xs[m]? := fun m hm => by
          have e1 : (ys.drop (k + j - 1))[m - (k + j - 1)]? = ys[m]? := by rw [List.getElem?_drop, show k + j - 1 + (m - (k + j - 1)) = m by omega]
          have e2 : (xs.drop (k + j - 1))[m - (k + j - 1)]? = xs[m]? := by rw [List.getElem?_drop, show k + j - 1 + (m - (k + j - 1)) = m by omega]
          rw [← e1, g6, e2]
        have hu2 : (ys.drop k)[j]? = some u := by rw [List.getElem?_drop, hyx _ (by omega), hu]
        have hz2 : (ys.drop k)[j - 1]? = some z := by rw [List.getElem?_drop, show k + (j - 1) = k + j - 1 by omega, hyx _ (by omega), hz]
        refine sx ?_; refine s_dr (.one true 0 (.one true 1 (.one true 2 (.one true 3 (.one true 4 (.one true 5 (.one true 6 (.one true 7 (.one true 8 (.one true 9 .nil)))))))))) mixed (by kernel_rfl) ?_; refine sx ?_
        refine s_ifn rfl (fun t5 => ?_) (fun t5 => ?_)
        · rw [if_neg (fun e => t5 e.symm)] at hst2
          refine sx ?_
          refine s_set1 (y := u) (i := k') rfl rfl (by exact at_) rfl (by omega) ?_
          refine sx ?_
          refine s_rwQ (t := 4) (v' := .slice (Sx.sl (some ad) c k 1) (xs.length - k) (c - k)) rfl (by rw [hdl]) ?_
          refine s_again (k' + 1, j + 1, ys.set k' u) ⟨by simp only [List.length_set]; exact g0, by simp only; omega, by simp only; omega, by simp only; omega, by simp only; omega, ?_, ?_⟩ (by simp only; omega)
          · simp only
            rw [show k + (j + 1) = k + j + 1 by omega, hst2, ← g5, snocT (i := k') (e := u) (by rw [List.getElem?_set_self (by omega)]), List.take_set_of_le (Nat.le_refl _)]
          · simp only
            rw [show k + (j + 1) - 1 = k + j by omega, List.drop_set_of_lt (by omega)]
            have := congrArg (List.drop 1) g6
            rw [List.drop_drop, List.drop_drop, show k + j - 1 + 1 = k + j by omega] at this
            exact this
        · rw [if_pos t5.symm] at hst2
          refine sx ?_
          refine s_rwQ (t := 4) (v' := .slice (Sx.sl (some ad) c k 1) (xs.length - k) (c - k)) rfl (by rw [hdl]) ?_
          refine s_again (k', j + 1, ys) ⟨g0, by simp only; omega, by simp only; omega, g3, by simp only; omega, ?_, ?_⟩ (by simp only; omega)
          · simp only
            rw [show k + (j + 1) = k + j + 1 by omega, hst2, ← g5]
          · simp only
            rw [show k + (j + 1) - 1 = k + j by omega]
            have := congrArg (List.drop 1) g6
            rw [List.drop_drop, List.drop_drop, show k + j - 1 + 1 = k + j by omega] at this
            exact this
      · have hj : k + j = xs.length := by omega
        rw [hj, List.take_length] at g5
        have hdk : (dd xs).length = k' := by rw [← g5, List.length_take]; omega
        refine sx ?_
        refine s_clearP (α := Int) (p := k') (xs := ys) rfl rfl ?_
        refine sx ?_
        refine s_ret1 rfl rfl ⟨some ad, c, ?_, rfl⟩ ?_
        · rw [hdk]
        · refine Ent.trans (Ent.shr (k := k')) ?_
          have e : (putL ys k' (List.replicate (xs.length - k') (0 : Int))).take k' = dd xs := by
            rw [putL, List.append_assoc, List.take_left' (by rw [List.length_take]; omega), g5]
          rw [e]
          exact Ent.refl
    · refine sx ?_
      refine s_again (k + 1) ⟨by omega, by omega, ?_⟩ (by omega)
      rw [hst, if_neg (fun e => t3 e.symm), hk, snocT hx]
  · obtain rfl : k = xs.length := by omega
    rw [List.take_length] at hk
    refine sx ?_
    refine s_ret1 rfl rfl ⟨some ad, c, ?_, rfl⟩ ?_
    · rw [hk]
    · rw [hk]; exact Ent.refl
end Go.Sx
