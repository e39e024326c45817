/- Part of a proof: branch.Check, by the program. -/
import Derived.Test.YtkcabddbeclokaaGreatCB1
import Derived.ChangeBookTie2
namespace Go.Sx
open Go Go.Proofs
set_option maxRecDepth 10000
variable {w0 : World} {H : List Ck}
/-- Pages that may be children. -/
abbrev PgOk (ps : List Int) : Prop := ps.Nodup ∧ ∀ n ∈ ps, 2 ≤ n ∧ n < 65536
abbrev KyOk (size : Int) (ks : List Bs) : Prop := ∀ x ∈ ks, 1 ≤ x.length ∧ (x.length : Int) ≤ size / 16
def risK : List Bs → Bool
  | x :: y :: r => decide (cmp x y < 0) && risK (y :: r)
  | _ => true
theorem risK_iff : ∀ {ks : List Bs}, risK ks = true ↔ ∀ i x y, ks[i]? = some x → ks[i + 1]? = some y → cmp x y < 0
  | [] => by simp [risK]
  | [x] => by
    simp only [risK, true_iff]
    intro i a b h1 h2
    simp at h2
  | x :: y :: r => by
    simp only [risK, Bool.and_eq_true, decide_eq_true_eq, risK_iff (ks := y :: r)]
    constructor
    · rintro ⟨h1, h2⟩ i a b ha hb
      cases i with
      | zero => simp at ha hb; subst ha; subst hb; exact h1
      | succ i => exact h2 i a b (by simpa using ha) (by simpa using hb)
    · intro h
      exact ⟨h 0 x y rfl rfl, fun i a b ha hb => h (i + 1) a b (by simpa using ha) (by simpa using hb)⟩
def chkK (size : Int) (d : List Int × List Bs) : Int :=
  if sizedB size = false then 1
  else if ¬ (d.2.length + 1 = d.1.length ∧ 2 ≤ d.1.length ∧ PgOk d.1) then 61
  else if ¬ KyOk size d.2 then 62
  else if risK d.2 = false then 63
  else if size - 32 < (bytesK d : Int) then 64
  else 0
theorem chkK_1 {size : Int} {d : List Int × List Bs} (h : sizedB size = false) : chkK size d = 1 := by rw [chkK, if_pos h]
theorem chkK_61 {size : Int} {d : List Int × List Bs} (h : sizedB size = true) (h1 : ¬ (d.2.length + 1 = d.1.length ∧ 2 ≤ d.1.length ∧ PgOk d.1)) : chkK size d = 61 := by
  rw [chkK, if_neg (by simp [h]), if_pos h1]
theorem chkK_62 {size : Int} {d : List Int × List Bs} (h : sizedB size = true) (h1 : d.2.length + 1 = d.1.length ∧ 2 ≤ d.1.length ∧ PgOk d.1) (h2 : ¬ KyOk size d.2) : chkK size d = 62 := by
  rw [chkK, if_neg (by simp [h]), if_neg (by simpa using h1), if_pos h2]
theorem chkK_63 {size : Int} {d : List Int × List Bs} (h : sizedB size = true) (h1 : d.2.length + 1 = d.1.length ∧ 2 ≤ d.1.length ∧ PgOk d.1) (h2 : KyOk size d.2) (h3 : risK d.2 = false) : chkK size d = 63 := by
  rw [chkK, if_neg (by simp [h]), if_neg (by simpa using h1), if_neg (fun h => h h2), if_pos h3]
theorem chkK_e {size : Int} {d : List Int × List Bs} (h : sizedB size = true) (h1 : d.2.length + 1 = d.1.length ∧ 2 ≤ d.1.length ∧ PgOk d.1) (h2 : KyOk size d.2) (h3 : risK d.2 = true) : chkK size d = if size - 32 < (bytesK d : Int) then 64 else 0 := by
  rw [chkK, if_neg (by simp [h]), if_neg (by simpa using h1), if_neg (fun h => h h2), if_neg (by simp [h3])]
theorem chkK_0 {size : Int} {d : List Int × List Bs} (h : chkK size d = 0) : sizedB size = true ∧ (d.2.length + 1 = d.1.length ∧ 2 ≤ d.1.length ∧ PgOk d.1) ∧ KyOk size d.2 ∧ risK d.2 = true ∧ (bytesK d : Int) ≤ size - 32 := by
  unfold chkK at h
  split at h
  · cases h
  split at h
  · cases h
  split at h
  · cases h
  split at h
  · cases h
  split at h
  · cases h
  rename_i a b c d e
  exact ⟨by simpa using a, Decidable.not_not.1 b, Decidable.not_not.1 c, by simpa using d, by omega⟩
/-- Of how many bytes keys are that are good. -/
theorem ky_bd {size : Int} (hs : sizedB size = true) : ∀ {ks : List Bs}, KyOk size ks → keysB ks ≤ 258 * ks.length
  | [], _ => by simp [keysB]
  | x :: r, h => by
    have h1 := h x (by simp)
    have h2 := ky_bd hs (ks := r) (fun y hy => h y (by simp [hy]))
    have h3 := sizedB_bd hs
    simp only [keysB, List.map_cons, List.sum_cons, List.length_cons] at *
    omega
theorem pg_bd {ps : List Int} (h : PgOk ps) : ps.length ≤ 65536 := by
  have h1 : (ps.map Int.toNat).Nodup := List.pairwise_map.2 (h.1.imp_of_mem fun ha hb hne e => hne (by have := h.2 _ ha; have := h.2 _ hb; omega))
  have := nodup_lt_length 65536 _ h1 (fun x hx => by
    obtain ⟨n, hn, rfl⟩ := List.mem_map.1 hx
    have := h.2 n hn
    omega)
  rwa [List.length_map] at this
theorem nodup_snoc {ps : List Int} {i : Nat} {a : Int} (h : (ps.take i).Nodup) (ha : ps[i]? = some a) (hn : a ∉ ps.take i) : (ps.take (i + 1)).Nodup := by
  rw [snocT ha]
  exact List.nodup_append.2 ⟨h, by simp, fun x hx y hy => by rw [List.mem_singleton.1 hy]; exact fun e => hn (by rw [← e]; exact hx)⟩
theorem nodup_take {ps : List Int} (h : ps.Nodup) (i : Nat) : (ps.take i).Nodup := List.Pairwise.sublist (List.take_sublist _ _) h
/-- How often a page came. -/
def cntF (ps : List Int) (i : Nat) : Int → Value := fun n => .int .i64 (((ps.take i).count n : Nat) : Int)
theorem cntF_succ {ps : List Int} {i : Nat} {a : Int} (h : ps[i]? = some a) : (fun j => if j = a then Value.int .i64 ((((ps.take i).count a : Nat) : Int) + 1) else cntF ps i j) = cntF ps (i + 1) := by
  funext j
  by_cases e : j = a
  · subst e
    simp only [if_true, cntF, snocT h, List.count_append]
    exact ci (by simp)
  · simp only [if_neg e, cntF, snocT h, List.count_append]
    exact ci (by simp [Ne.symm e])
theorem bcheck_s {k : Kd} {size : Int} (hk : RKd w0 H k) (hI : ∀ n ∈ k.ps, I64 n) : FnV Tryz.prog w0 H 42 #[.int .i64 size, .agg k.cells.toArray] (.int .i64 (chkK size k.d)) := by
  refine fns_enter Tryz.func42 rfl rfl rfl ?_
  refine s_kn (Kn.kp hk) fun l1 => s_kn (Kn.kk hk) fun l2 => ?_
  simp only [maxLen] at l1 l2
  have hps := hk.ps
  have hks := hk.ks
  have hkl : k.keys.length = k.ks.length := by simp
  refine sx ?_
  refine s_boxA rfl fun b => ?_
  refine sx ?_
  refine s_callV rfl bsized_s ?_
  refine sx ?_
  refine s_cond rfl (fun t1 => ?_) (fun t1 => ?_)
  · refine sx ?_
    exact s_ret1 rfl rfl ⟨by rw [chkK_1 (by simpa using t1)], rfl⟩
  have hs : sizedB size = true := by simpa using t1
  refine sx ?_
  refine s_callV rfl (bfits_s (k := k) (by exact rkd)) ?_
  refine sx ?_
  refine s_lifn rfl (fun t2 => ?_) (fun t2 => ?_)
  · refine sx ?_
    exact s_ret1 rfl rfl ⟨by rw [chkK_61 hs (fun h => t2 (by rw [← hkl]; exact h.1))], rfl⟩
  refine sx ?_
  refine s_if rfl (fun t3 => ?_) (fun t3 => ?_)
  · refine sx ?_
    exact s_ret1 rfl rfl ⟨by rw [chkK_61 hs (fun h => by have := h.2.1; simp only at this; omega)], rfl⟩
  refine sx ?_
  refine s_mkmap (z := .int .i64 0) fun m => ?_
  refine sx ?_
  refine s_loop (fun i : Nat => [(0, .int .i64 size), (3, .pointer (some ⟨b, 0, none⟩)), (5, .map (some m)), (25, .slice k.pa k.ps.length k.pc), (26, .int .i64 k.ps.length), (27, .int .i64 i)]) (fun i => .mp Tryz.prog 3 m i (.int .i64 0) (cntF k.ps i) :: .hb b 25 k.cells :: H) (fun i => i ≤ k.ps.length ∧ PgOk (k.ps.take i)) (fun i => k.ps.length - i) 0 ⟨Nat.zero_le _, List.Pairwise.nil, fun n h => by simp at h⟩ ?_
  rintro i ⟨hi, hn, hr⟩
  refine sx ?_
  refine s_if rfl (fun t4 => ?_) (fun t4 => ?_)
  · obtain ⟨a, ha⟩ := get_lt k.ps i (by omega)
    have hia := hI a (List.mem_of_getElem? ha)
    have hc := List.count_le_length (a := a) (l := k.ps.take i)
    have hc2 : (k.ps.take i).length ≤ i := List.length_take_le _ _
    refine sx ?_
    refine s_yL (y_mlook rfl rfl (by exact rmp) hia) ?_
    refine s_rw (t := 33) (v' := .int .i64 (((k.ps.take i).count a : Nat) : Int)) rfl rfl ?_
    refine sx ?_
    refine s_mupd rfl rfl rfl (by exact at_) hia (by simp only [maxLen]; omega) ?_
    rw [cntF_succ ha]
    refine sx ?_
    refine s_lif rfl (fun t5 => ?_) (fun t5 => ?_)
    · refine sx ?_
      exact s_ret1 rfl rfl ⟨by rw [chkK_61 hs (fun h => by have := h.2.2.2 a (List.mem_of_getElem? ha); omega)], rfl⟩
    refine sx ?_
    refine s_lif rfl (fun t6 => ?_) (fun t6 => ?_)
    · refine sx ?_
      exact s_ret1 rfl rfl ⟨by rw [chkK_61 hs (fun h => by have := h.2.2.2 a (List.mem_of_getElem? ha); omega)], rfl⟩
    refine sx ?_
    refine s_yL (y_mlook rfl rfl (by exact rmp) hia) ?_
    refine s_rw (t := 44) (v' := .int .i64 (((k.ps.take i).count a + 1 : Nat) : Int)) rfl (by show cntF k.ps (i + 1) a = _; simp only [cntF, snocT ha, List.count_append]; exact ci (by simp)) ?_
    refine sx ?_
    refine s_if rfl (fun t7 => ?_) (fun t7 => ?_)
    · have hm : a ∈ k.ps.take i := List.count_pos_iff.1 (by omega)
      refine sx ?_
      refine s_ret1 rfl rfl ⟨?_, rfl⟩
      rw [chkK_61 hs (fun h => ?_)]
      have h1 := nodup_take h.2.2.1 (i + 1)
      rw [snocT ha] at h1
      exact (List.nodup_append.1 h1).2.2 a hm a (by simp) rfl
    · have hm : a ∉ k.ps.take i := fun h => by have := List.count_pos_iff.2 h; omega
      refine sx ?_
      refine s_again (i + 1) ⟨by omega, nodup_snoc hn ha hm, fun n hn' => ?_⟩ (by omega)
      rw [snocT ha] at hn'
      rcases List.mem_append.1 hn' with h | h
      · exact hr n h
      · rw [List.mem_singleton.1 h]; omega
  obtain rfl : i = k.ps.length := by omega
  rw [List.take_length] at hn hr
  have hP : k.d.2.length + 1 = k.d.1.length ∧ 2 ≤ k.d.1.length ∧ PgOk k.d.1 := ⟨by simp only [hkl]; omega, by simp only; omega, hn, hr⟩
  have hb := sizedB_bd hs
  refine sx ?_
  refine s_loop (fun i : Nat => [(0, .int .i64 size), (3, .pointer (some ⟨b, 0, none⟩)), (49, .slice k.ka k.ks.length k.kc), (50, .int .i64 k.ks.length), (51, .int .i64 i)]) (fun _ => .hb b 25 k.cells :: H) (fun i => i ≤ k.ks.length ∧ KyOk size (k.keys.take i)) (fun i => k.ks.length - i) 0 ⟨Nat.zero_le _, fun x h => by simp at h⟩ ?_
  rintro i ⟨hi, hy⟩
  refine sx ?_
  refine s_if rfl (fun t8 => ?_) (fun t8 => ?_)
  · obtain ⟨p, hp⟩ := get_lt k.ks i (by omega)
    have hpm := List.mem_of_getElem? (Kd.kget hp)
    refine sx ?_
    refine s_lif rfl (fun t9 => ?_) (fun t9 => ?_)
    · refine sx ?_
      exact s_ret1 rfl rfl ⟨by rw [chkK_62 hs hP (fun h => by have := h p.xs hpm; omega)], rfl⟩
    refine sx ?_
    refine s_if rfl (fun t10 => ?_) (fun t10 => ?_)
    · refine sx ?_
      exact s_ret1 rfl rfl ⟨by rw [chkK_62 hs hP (fun h => by have := h p.xs hpm; omega)], rfl⟩
    · refine sx ?_
      refine s_again (i + 1) ⟨by omega, fun x hx => ?_⟩ (by omega)
      rw [snocT (Kd.kget hp)] at hx
      rcases List.mem_append.1 hx with h | h
      · exact hy x h
      · rw [List.mem_singleton.1 h]; omega
  obtain rfl : i = k.ks.length := by omega
  rw [← hkl, List.take_length] at hy
  have hbb := ky_bd hs hy
  have hpl := pg_bd ⟨hn, hr⟩
  refine sx ?_
  refine s_loop (fun i : Nat => [(0, .int .i64 size), (3, .pointer (some ⟨b, 0, none⟩)), (10, .int .i64 i)]) (fun _ => .hb b 25 k.cells :: H) (fun i => 1 ≤ i ∧ (i ≤ k.ks.length ∨ i = 1) ∧ ∀ j x y, j + 1 < i → k.keys[j]? = some x → k.keys[j + 1]? = some y → cmp x y < 0) (fun i => k.ks.length - i) 1 ⟨Nat.le_refl _, .inr rfl, fun j x y h => absurd h (by omega)⟩ ?_
  rintro i ⟨hi1, hi2, hl⟩
  refine sx ?_
  refine s_if rfl (fun t11 => ?_) (fun t11 => ?_)
  · obtain ⟨i, rfl⟩ : ∃ m, i = m + 1 := ⟨i - 1, by omega⟩
    obtain ⟨p, hp⟩ := get_lt k.ks i (by omega)
    obtain ⟨q, hq⟩ := get_lt k.ks (i + 1) (by omega)
    have hpb := hk.el p (List.mem_of_getElem? hp)
    have hqb := hk.el q (List.mem_of_getElem? hq)
    refine sx ?_; refine s_dr (.one true 0 (.one true 1 (.one true 2 (.one true 3 (.one true 4 (.one true 5 (.one true 6 (.one true 7 (.one true 8 (.one true 9 (.one true 10 (.one false 11 (.one true 12 .nil))))))))))))) mixed (by kernel_rfl) ?_; refine sx ?_
    refine s_rw (t := 76) rfl (ci (by omega : _ = ((i : Nat) : Int))) ?_
    refine sx ?_
    refine s_callV rfl (compare_s (xs := p.xs) (ys := q.xs) (by exact rby) (by exact rby)) ?_
    refine sx ?_
    refine s_if rfl (fun t12 => ?_) (fun t12 => ?_)
    · refine sx ?_
      refine s_ret1 rfl rfl ⟨?_, rfl⟩
      rw [chkK_63 hs hP hy]
      rw [← Bool.not_eq_true]
      intro h
      have := risK_iff.1 h i p.xs q.xs (Kd.kget hp) (Kd.kget hq)
      omega
    · refine sx ?_
      refine s_again (i + 1 + 1) ⟨by omega, .inl (by omega), fun j x y hj hx hy' => ?_⟩ (by omega)
      rcases Nat.lt_or_eq_of_le (Nat.lt_succ_iff.1 hj) with h | h
      · exact hl j x y h hx hy'
      · obtain rfl : j = i := by omega
        rw [Kd.kget hp] at hx
        rw [Kd.kget hq] at hy'
        cases hx; cases hy'
        omega
  have hR : risK k.keys = true := risK_iff.2 fun j x y hx hy' => hl j x y (by have := get_lt' hy'; omega) hx hy'
  refine sx ?_
  refine s_callV rfl (bbytes_s (k := k) (by exact rkd) (by simp only [bytesK]; omega)) ?_
  refine sx ?_
  refine s_if rfl (fun t13 => ?_) (fun t13 => ?_)
  · refine sx ?_
    refine s_ret1 rfl rfl ⟨?_, rfl⟩
    rw [chkK_e hs hP hy hR, if_pos t13]
  · refine sx ?_
    refine s_ret1 rfl rfl ⟨?_, rfl⟩
    rw [chkK_e hs hP hy hR, if_neg t13]
end Go.Sx
