/- Part of a proof: lists of lives, by the program: their order, one more, what is freed, what is held. -/
import Derived.Test.YtceandgmpcpmfaaCD2
import Derived.Test.YtceandgmpcpmfaaCKB
namespace Go.Sx
open Go Go.Proofs
set_option maxRecDepth 10000
variable {w0 : World} {H : List Ck}
instance : EqT Try.prog 34 Lf := ⟨eqLf_run, by kernel_rfl⟩
instance : OvT Try.prog 47 39 := ⟨4, fun args w => run_callFunc_extern Try.func47 (by kernel_rfl) (by kernel_rfl) (by kernel_rfl) (by kernel_rfl) args w⟩
theorem dneeds_s {g : Int} {x : Lf} : FnV Try.prog w0 H 32 #[.int .u64 g, .agg x.cells.toArray] (.bool (decide (x.need g))) := by
  refine fns_enter Try.func32 rfl rfl rfl ?_
  refine sx ?_
  refine s_boxA rfl fun b => ?_
  refine sx ?_
  refine s_lif rfl (fun t1 => ?_) (fun t1 => ?_)
  · refine sx ?_
    exact s_ret1 rfl rfl ⟨by simp [t1], rfl⟩
  · refine sx ?_
    exact s_ret1 rfl rfl ⟨by simp [t1], rfl⟩
theorem rneeds_s {g : Int} {x : Lf} : FnV Try.prog w0 H 42 #[.int .u64 g, .agg x.cells.toArray] (.bool (decide (x.need g))) := by
  refine fns_enter Try.func42 rfl rfl rfl ?_
  refine sx ?_
  refine s_boxA rfl fun b => ?_
  refine sx ?_
  refine s_lif rfl (fun t1 => ?_) (fun t1 => ?_)
  · refine sx ?_
    exact s_ret1 rfl rfl ⟨by simp [t1], rfl⟩
  · refine sx ?_
    exact s_ret1 rfl rfl ⟨by simp [t1], rfl⟩
theorem lneeds_s {g : Int} {x : Lf} : FnV Try.prog w0 H 15 #[.int .u64 g, .agg x.cells.toArray] (.bool (decide (x.need g))) := by
  refine fns_enter Try.func15 rfl rfl rfl ?_
  refine sx ?_
  refine s_boxA rfl fun b => ?_
  refine sx ?_
  refine s_lif rfl (fun t1 => ?_) (fun t1 => ?_)
  · refine sx ?_
    exact s_ret1 rfl rfl ⟨by simp [t1], rfl⟩
  · refine sx ?_
    exact s_ret1 rfl rfl ⟨by simp [t1], rfl⟩
theorem nan_i64_s {a : Int} : FnV Try.prog w0 H 49 #[.int .i64 a] (.bool false) := by
  refine fns_enter Try.func49 rfl rfl rfl ?_
  refine sx ?_
  exact s_ret1 rfl rfl ⟨rfl, rfl⟩
theorem cmp_i64_s {a b : Int} : FnV Try.prog w0 H 45 #[.int .i64 a, .int .i64 b] (.int .i64 (sgn a b)) := by
  refine fns_enter Try.func45 rfl rfl rfl ?_
  refine sx ?_
  refine s_callV rfl nan_i64_s ?_
  refine sx ?_
  refine s_callV rfl nan_i64_s ?_
  refine sx ?_
  refine s_if rfl (fun t1 => ?_) (fun t1 => ?_)
  · refine sx ?_
    refine s_ret1 rfl rfl ⟨?_, rfl⟩
    rw [sgn, if_pos t1]
  refine sx ?_
  refine s_if rfl (fun t2 => ?_) (fun t2 => ?_)
  · refine sx ?_
    refine s_ret1 rfl rfl ⟨?_, rfl⟩
    rw [sgn, if_neg t1, if_pos t2]
  · refine sx ?_
    refine s_ret1 rfl rfl ⟨?_, rfl⟩
    rw [sgn, if_neg t1, if_neg t2]
theorem nan_u64_s {a : Int} : FnV Try.prog w0 H 50 #[.int .u64 a] (.bool false) := by
  refine fns_enter Try.func50 rfl rfl rfl ?_
  refine sx ?_
  exact s_ret1 rfl rfl ⟨rfl, rfl⟩
theorem cmp_u64_s {a b : Int} : FnV Try.prog w0 H 46 #[.int .u64 a, .int .u64 b] (.int .i64 (sgn a b)) := by
  refine fns_enter Try.func46 rfl rfl rfl ?_
  refine sx ?_
  refine s_callV rfl nan_u64_s ?_
  refine sx ?_
  refine s_callV rfl nan_u64_s ?_
  refine sx ?_
  refine s_if rfl (fun t1 => ?_) (fun t1 => ?_)
  · refine sx ?_
    refine s_ret1 rfl rfl ⟨?_, rfl⟩
    rw [sgn, if_pos t1]
  refine sx ?_
  refine s_if rfl (fun t2 => ?_) (fun t2 => ?_)
  · refine sx ?_
    refine s_ret1 rfl rfl ⟨?_, rfl⟩
    rw [sgn, if_neg t1, if_pos t2]
  · refine sx ?_
    refine s_ret1 rfl rfl ⟨?_, rfl⟩
    rw [sgn, if_neg t1, if_neg t2]
/-- The first that is not nought. -/
def orL (l : List Int) : Int := (l.find? fun x => decide (x ≠ 0)).getD 0
theorem or_s {a : Option Addr} {c : Nat} {xs : List Int} (hx : RSl w0 H a c xs) (hl : xs.length ≤ 1000) : FnV Try.prog w0 H 44 #[.slice a xs.length c] (.int .i64 (orL xs)) := by
  refine fns_enter Try.func44 rfl rfl rfl ?_
  refine sx ?_
  refine s_loop (fun i : Nat => [(3, .int .i64 0), (6, .slice a xs.length c), (7, .int .i64 xs.length), (8, .int .i64 i)]) (fun _ => H) (fun i => i ≤ xs.length ∧ orL xs = orL (xs.drop i)) (fun i => xs.length - i) 0 ⟨Nat.zero_le _, rfl⟩ ?_
  rintro i ⟨hi, he⟩
  refine sx ?_
  refine s_if rfl (fun t1 => ?_) (fun t1 => ?_)
  · obtain ⟨x, hxi⟩ := get_lt xs i (by omega)
    rw [dropG hxi] at he
    refine sx ?_
    refine s_ifn rfl (fun t2 => ?_) (fun t2 => ?_)
    · refine sx ?_
      refine s_ret1 rfl rfl ⟨?_, rfl⟩
      rw [he, orL, List.find?_cons_of_pos (by simpa using t2)]
      rfl
    · refine sx ?_
      refine s_again (i + 1) ⟨by omega, ?_⟩ (by omega)
      rw [he, orL, List.find?_cons_of_neg (by simpa using t2)]
      rfl
  · have h0 : xs.drop i = [] := List.drop_of_length_le (by omega)
    rw [h0] at he
    refine sx ?_
    exact s_ret1 rfl rfl ⟨by rw [he]; rfl, rfl⟩
theorem orL_3 (a b c : Int) : orL [a, b, c] = if a ≠ 0 then a else if b ≠ 0 then b else c := by
  unfold orL
  by_cases h1 : a = 0
  · subst h1
    by_cases h2 : b = 0
    · subst h2
      by_cases h3 : c = 0
      · subst h3; rfl
      · simp [h3]
    · simp [h2]
  · simp [h1]
theorem order_s {x y : Lf} : FnS Try.prog w0 H 37 #[.agg x.cells.toArray, .agg y.cells.toArray] (fun v H' => v = .int .i64 (Lf.cmp x y) ∧ H' = H) := by
  refine fns_enter Try.func37 rfl rfl rfl ?_
  refine sx ?_
  refine s_boxA rfl fun b2 => ?_
  refine sx ?_
  refine s_boxA rfl fun b3 => ?_
  refine sx ?_
  refine s_yS rfl rfl rfl (y_eqA x y rfl rfl rfl rfl) ?_
  refine sx ?_
  refine s_if rfl (fun t1 => ?_) (fun t1 => ?_)
  · refine sx ?_
    exact s_ret1 rfl rfl ⟨by rw [Lf.cmp, if_pos t1], rfl⟩
  · refine sx ?_; refine s_dr (.one true 0 (.one true 1 (.one true 2 (.one true 3 (.one true 5 (.one true 6 (.one true 7 (.one true 8 (.one true 10 (.one true 11 (.one true 12 (.one true 13 (.one false 4 (.one false 9 (.one false 14 (.one false 15 (.one false 16 (.one true 17 .nil)))))))))))))))))) mixed (by kernel_rfl) ?_; refine sx ?_
    refine s_callV rfl cmp_i64_s ?_
    refine sx ?_
    refine s_callV rfl cmp_u64_s ?_
    refine sx ?_
    refine s_callV rfl cmp_u64_s ?_
    refine sx ?_
    refine s_bsl [sgn x.p y.p, sgn x.b y.b, sgn x.d y.d] rfl rfl fun b23 => ?_
    refine sx ?_
    refine s_callV rfl (or_s (xs := [sgn x.p y.p, sgn x.b y.b, sgn x.d y.d]) (by exact rsl) (by simp)) ?_
    refine sx ?_
    refine s_ret1 rfl rfl ⟨?_, rfl⟩
    rw [orL_3, Lf.cmp, if_neg t1]
theorem orderV_s {x y : Lf} : FnV Try.prog w0 H 37 #[.agg x.cells.toArray, .agg y.cells.toArray] (.int .i64 (Lf.cmp x y)) := order_s
/-- Where a life is, or would be. -/
theorem bsf_s {a : Option Addr} {c : Nat} {xs : List Lf} {x : Lf} (hx : RSl w0 H a c xs) (hs : Srt xs) (hl : xs.length ≤ 5864062014805) :
    FnS Try.prog w0 H 36 #[.slice a xs.length c, .agg x.cells.toArray, .func (.func 37) #[] #[]] (fun v H' => ∃ i : Nat, ∃ is : Bool, v = .tuple #[.int .i64 i, .bool is] ∧ H' = H ∧
      i ≤ xs.length ∧ (∀ k y, k < i → xs[k]? = some y → Lf.cmp y x < 0) ∧ (∀ k y, i ≤ k → xs[k]? = some y → 0 ≤ Lf.cmp y x) ∧ (is = true → x ∈ xs)) := by
  have mono : ∀ (k m : Nat) (y z : Lf), k < m → xs[k]? = some y → xs[m]? = some z → Lf.cmp z x < 0 → Lf.cmp y x < 0 := by
    intro k m y z hkm hy hz h
    obtain ⟨ha, ea⟩ := List.getElem?_eq_some_iff.1 hy
    obtain ⟨hb, eb⟩ := List.getElem?_eq_some_iff.1 hz
    have h1 := (List.pairwise_iff_getElem.1 hs.1) k m ha hb hkm
    rw [ea, eb] at h1
    have h2 := hs.2 y (List.mem_of_getElem? hy)
    rw [Lf.cmp_neg] at h ⊢
    unfold Ahead at h1
    simp only [Lf.bad] at h2
    omega
  refine fns_enter Try.func36 rfl rfl rfl ?_
  refine sx ?_
  refine s_boxA rfl fun b4 => ?_
  refine sx ?_
  refine s_loop (fun i : Nat × Nat => [(0, .slice a xs.length c), (2, .func (.func 37) #[] #[]), (4, .pointer (some ⟨b4, 0, none⟩)), (8, .int .i64 xs.length), (9, .int .i64 i.1), (10, .int .i64 i.2)]) (fun _ => .hb b4 34 x.cells :: H)
    (fun i => i.1 ≤ i.2 ∧ i.2 ≤ xs.length ∧ (∀ k y, k < i.1 → xs[k]? = some y → Lf.cmp y x < 0) ∧ (∀ k y, i.2 ≤ k → xs[k]? = some y → 0 ≤ Lf.cmp y x)) (fun i => i.2 - i.1) (0, xs.length) ⟨Nat.zero_le _, Nat.le_refl _, fun k y h => absurd h (Nat.not_lt_zero _), fun k y h hy => by have := get_lt' hy; omega⟩ ?_
  rintro ⟨i, j⟩ ⟨h1, h2, h3, h4⟩
  simp only at h1 h2 h3 h4 ⊢
  refine sx ?_
  refine s_if rfl (fun t1 => ?_) (fun t1 => ?_)
  · refine sx ?_
    have hm : (i + j) / 2 < xs.length := by omega
    obtain ⟨e, hke⟩ := get_lt xs ((i + j) / 2) hm
    refine s_rwC (t := 11) rfl (ci (by omega : _ = (((i + j) / 2 : Nat) : Int))) ?_
    refine sx ?_; refine s_dr (.one true 0 (.one true 1 (.one true 2 (.one true 3 (.one true 4 (.one true 5 (.one false 6 (.one true 7 .nil)))))))) mixed (by kernel_rfl) ?_; refine sx ?_
    refine s_callFV (cap := []) rfl rfl (orderV_s (x := e) (y := x)) ?_
    refine sx ?_
    refine s_if rfl (fun t2 => ?_) (fun t2 => ?_)
    · refine sx ?_
      refine s_again ((i + j) / 2 + 1, j) ⟨by simp only; omega, h2, fun k y hk hy => ?_, h4⟩ (by simp only; omega)
      rcases Nat.lt_or_eq_of_le (Nat.lt_succ_iff.1 hk) with h | h
      · exact mono k _ y e h hy hke t2
      · rw [h, hke] at hy; cases hy; exact t2
    · refine sx ?_
      refine s_again (i, (i + j) / 2) ⟨by simp only; omega, by simp only; omega, h3, fun k y hk hy => ?_⟩ (by simp only; omega)
      rcases Nat.lt_or_eq_of_le hk with h | h
      · rcases Int.lt_or_le (Lf.cmp y x) 0 with g | g
        · exact absurd (mono _ k e y h hke hy g) t2
        · exact g
      · have h : (i + j) / 2 = k := h
        rw [← h, hke] at hy; cases hy; omega
  · obtain rfl : i = j := by omega
    refine sx ?_; refine s_dr (.one true 0 (.one true 1 (.one true 2 (.one true 3 (.one true 4 (.one true 5 (.one true 6 (.one true 7 (.one true 8 (.one true 9 (.one true 10 (.one false 11 (.one true 12 (.one true 13 (.one true 14 (.one true 15 .nil)))))))))))))))) mixed (by kernel_rfl) ?_; refine sx ?_
    refine s_lif rfl (fun t2 => ?_) (fun t2 => ?_)
    · obtain ⟨e, hke⟩ := get_lt xs i (by omega)
      refine sx ?_
      refine s_callFV (cap := []) rfl rfl (orderV_s (x := e) (y := x)) ?_
      refine sx ?_
      refine s_ret2 rfl rfl rfl ⟨i, _, rfl, rfl, h2, h3, h4, fun h => ?_⟩
      have := Lf.cmp_zero.1 (of_decide_eq_true h)
      rw [← this]
      exact List.mem_of_getElem? hke
    · refine sx ?_
      exact s_ret2 rfl rfl rfl ⟨i, false, rfl, rfl, h2, h3, h4, fun h => by cases h⟩
/-- Does the life at a place meet one? -/
def meetB (xs : List Lf) (x : Lf) (k : Int) : Bool := if 0 ≤ k then (match xs[k.toNat]? with | some y => decide (y.ov x) | none => false) else false
@[reducible] def oL (d : Nat) (a : Option Addr) (c : Nat) (xs : List Lf) : List Ck := [.hb d 63 [.slice a xs.length c], ol 34 a c xs]
theorem meets_s {d bl bx : Nat} {a : Option Addr} {c : Nat} {xs : List Lf} {x : Lf} {k : Int} :
    FnV Try.prog w0 (.hb bx 34 x.cells :: .hb bl 40 [.pointer (some ⟨d, 0, none⟩)] :: .hb d 63 [.slice a xs.length c] :: ol 34 a c xs :: H) 38 #[.int .i64 k, .pointer (some ⟨bl, 0, none⟩), .pointer (some ⟨bx, 0, none⟩)] (.bool (meetB xs x k)) := by
  refine fns_enter Try.func38 rfl rfl rfl ?_
  refine sx ?_
  by_cases hk : 0 ≤ k ∧ k < xs.length
  · obtain ⟨i, rfl⟩ := Int.eq_ofNat_of_zero_le hk.1
    obtain ⟨y, hy⟩ := get_lt xs i (by omega)
    refine s_kn (φ := ∃ ad, a = some ad) (fun w hw => own_gA (c := c) (Sat.ownOf (c' := ol 34 a c xs) (.tl (.tl (.tl .hd))) hw) (by omega)) ?_
    rintro ⟨ad, rfl⟩
    have e1 : meetB xs x (i : Int) = decide (y.ov x) := by
      unfold meetB
      rw [if_pos hk.1, Int.toNat_natCast, hy]
    rw [e1]
    refine sx ?_; refine s_dr (.one true 0 (.one true 1 (.one true 2 (.one true 3 (.one true 4 (.one true 5 (.one true 6 (.one true 7 (.one true 8 (.one true 9 (.one true 10 (.one true 11 (.one true 12 (.one true 13 (.one true 14 (.one true 15 (.one true 16 (.one true 17 (.one true 18 (.one true 19 (.one true 20 (.one true 21 (.one true 22 (.one true 23 (.one true 24 (.one true 25 (.one true 26 (.one true 27 (.one true 28 (.one true 29 (.one true 30 (.one true 31 (.one true 32 (.one true 33 (.one true 34 (.one true 35 (.one true 36 (.one true 37 (.one true 38 (.one true 39 (.one true 40 (.one true 41 (.one true 42 (.one true 43 (.one true 44 (.one true 45 (.one true 46 (.one true 47 (.one true 48 (.one true 49 (.one true 50 .nil))))))))))))))))))))))))))))))))))))))))))))))))))) mixed (by kernel_rfl) ?_; refine sx ?_
    refine s_lif rfl (fun t2 => ?_) (fun t2 => absurd hk.2 t2)
    refine sx ?_
    refine s_lif rfl (fun t3 => ?_) (fun t3 => ?_)
    · refine sx ?_
      refine s_lif rfl (fun t4 => ?_) (fun t4 => ?_)
      · refine sx ?_
        exact s_ret1 rfl rfl ⟨by simp [t3, t4], rfl⟩
      · refine sx ?_
        exact s_ret1 rfl rfl ⟨by simp [t3, t4], rfl⟩
    · refine sx ?_
      exact s_ret1 rfl rfl ⟨by simp [t3], rfl⟩
  · have e1 : meetB xs x k = false := by
      unfold meetB
      split
      · rename_i h
        rw [List.getElem?_eq_none (by omega)]
      · rfl
    rw [e1]
    refine sx ?_; refine s_dr (.one true 0 (.one true 1 (.one true 2 (.one true 3 (.one true 4 (.one true 5 (.one true 6 (.one true 7 (.one true 8 (.one true 9 (.one true 10 (.one true 11 (.one true 12 (.one true 13 (.one true 14 (.one true 15 (.one true 16 (.one true 17 (.one true 18 (.one true 19 (.one true 20 (.one true 21 (.one true 22 (.one true 23 (.one true 24 (.one true 25 (.one true 26 (.one true 27 (.one true 28 (.one true 29 (.one true 30 (.one true 31 (.one true 32 (.one true 33 (.one true 34 (.one true 35 (.one true 36 (.one true 37 (.one true 38 (.one true 39 (.one true 40 (.one true 41 (.one true 42 (.one true 43 (.one true 44 (.one true 45 (.one true 46 (.one true 47 (.one true 48 (.one true 49 (.one true 50 .nil))))))))))))))))))))))))))))))))))))))))))))))))))) mixed (by kernel_rfl) ?_; refine sx ?_
    refine s_lif rfl (fun t1 => ?_) (fun t1 => ?_)
    · refine sx ?_
      refine s_lif rfl (fun t2 => absurd ⟨t1, t2⟩ hk) (fun t2 => ?_)
      refine sx ?_
      exact s_ret1 rfl rfl ⟨rfl, rfl⟩
    · refine sx ?_
      exact s_ret1 rfl rfl ⟨rfl, rfl⟩
end Go.Sx
