/- Part of a proof: where a branch is split: both ways. -/
import Derived.Test.YtolnmecncilpeaaCBE
import Derived.Test.YtolnmecncilpeaaCBC
namespace Go.Sx
open Go Go.Proofs
set_option maxRecDepth 10000
variable {w0 : World} {H : List Ck}
/-- The first of the least, of 2 .. m + 1. -/
def bst (L : Nat → Int) : Nat → Nat × Int
  | 0 => (0, 0)
  | m + 1 => if (bst L m).1 = 0 ∨ L (m + 2) < (bst L m).2 then (m + 2, L (m + 2)) else bst L m
theorem bst_ok (L : Nat → Int) : ∀ m, 0 < m → 2 ≤ (bst L m).1 ∧ (bst L m).1 < m + 2 ∧ (bst L m).2 = L (bst L m).1 ∧ ∀ n, 2 ≤ n → n < m + 2 → (bst L m).2 ≤ L n ∧ (n < (bst L m).1 → (bst L m).2 < L n)
  | 0, h => absurd h (Nat.lt_irrefl _)
  | m + 1, _ => by
    rcases Nat.eq_zero_or_pos m with rfl | hm
    · have e : bst L 1 = (2, L 2) := by simp [bst]
      rw [e]
      refine ⟨Nat.le_refl _, by omega, rfl, fun n h1 h2 => ?_⟩
      obtain rfl : n = 2 := by omega
      exact ⟨Int.le_refl _, fun h => by omega⟩
    · obtain ⟨h1, h2, h3, h4⟩ := bst_ok L m hm
      rw [bst]
      split
      · rename_i h
        have h5 : L (m + 2) < (bst L m).2 := by
          rcases h with h | h
          · omega
          · exact h
        refine ⟨by simp only; omega, by simp only; omega, rfl, fun n g1 g2 => ?_⟩
        simp only
        by_cases g : n = m + 2
        · subst g
          exact ⟨Int.le_refl _, fun h => by omega⟩
        · have := (h4 n g1 (by omega)).1
          exact ⟨by omega, fun _ => by omega⟩
      · rename_i h
        refine ⟨h1, by omega, h3, fun n g1 g2 => ?_⟩
        by_cases g : n = m + 2
        · subst g
          exact ⟨by omega, fun h => by omega⟩
        · exact h4 n g1 (by omega)
theorem bst_congr {L M : Nat → Int} : ∀ m, (∀ n, 2 ≤ n → n < m + 2 → L n = M n) → bst L m = bst M m
  | 0, _ => rfl
  | m + 1, h => by
    have e := bst_congr (L := L) (M := M) m (fun n h1 h2 => h n h1 (by omega))
    rw [bst, bst, e, h (m + 2) (by omega) (by omega)]
def cutD (d : List Int × List Bs) (i j : Nat) : List Int × List Bs := ((d.1.take j).drop i, (d.2.take (j - 1)).drop i)
/-- How long the longer part is, as a machine counts. -/
def lngD (d : List Int × List Bs) (n : Nat) : Int := max (IntKind.i64.wrap (bytesK (cutD d 0 n))) (IntKind.i64.wrap (bytesK (cutD d n d.1.length)))
abbrev splOk (size : Int) (d : List Int × List Bs) : Prop := sizedB size = true ∧ d.2.length + 1 = d.1.length ∧ 4 ≤ d.1.length
def splE (size : Int) (d : List Int × List Bs) : Int := if splOk size d then if size - 32 < (bst (lngD d) (d.1.length - 3)).2 then 64 else 0 else 1
def splN (size : Int) (d : List Int × List Bs) : Nat := if splE size d = 0 then (bst (lngD d) (d.1.length - 3)).1 else 0
theorem wrapA (a b : Int) : IntKind.i64.wrap (IntKind.i64.wrap a + IntKind.i64.wrap b) = IntKind.i64.wrap (a + b) := by
  simp only [IntKind.wrap, IntKind.bits, IntKind.signed, Bool.true_and, ge_iff_le, decide_eq_true_eq]
  have e1 : (2 : Int) ^ 64 = 18446744073709551616 := by decide
  have e2 : (2 : Int) ^ (64 - 1) = 9223372036854775808 := by decide
  rw [e1, e2]
  split <;> split <;> split <;> split <;> omega
theorem bbytesW_s {k : Kd} (hk : RKd w0 H k) (hp : k.ps.length ≤ 140737488355328) : FnV Try.prog w0 H 29 #[.agg k.cells.toArray] (.int .i64 (IntKind.i64.wrap (bytesK k.d : Nat))) := by
  refine fns_enter Try.func29 rfl rfl rfl ?_
  refine s_kn (Kn.kp hk) fun l1 => s_kn (Kn.kk hk) fun l2 => ?_
  simp only [maxLen] at l1 l2
  simp only [bytesK]
  have hks := hk.ks
  refine sx ?_
  refine s_boxA rfl fun b => ?_
  refine sx ?_
  refine s_loop (fun i : Nat => [(3, .int .i64 (IntKind.i64.wrap ((2 + 4 * k.ps.length + keysB (k.keys.take i) : Nat) : Int))), (12, .slice k.ka k.ks.length k.kc), (13, .int .i64 k.ks.length), (14, .int .i64 i)]) (fun _ => .hb b 31 k.cells :: H) (fun i => i ≤ k.ks.length) (fun i => k.ks.length - i) 0 (Nat.zero_le _) ?_ (h0 := by
    refine ⟨congrArg some (ci ?_), rfl, rfl, rfl, trivial⟩
    rw [IntWalk.i64_in _ (by simp [keysB]; omega)]
    simp [keysB])
  intro i hi
  refine sx ?_
  refine s_if rfl (fun t1 => ?_) (fun t1 => ?_)
  · obtain ⟨p, hp⟩ := get_lt k.ks i (by omega)
    have hg := keysB_get (Kd.kget hp)
    have h1 := keysB_take k.keys (i + 1)
    refine sx ?_
    refine s_yS rfl rfl rfl (y_addW rfl rfl) ?_
    refine sx ?_
    refine s_yS rfl rfl rfl (y_addW rfl rfl) ?_
    refine sx ?_
    refine s_rwQ (t := 3) (v' := .int .i64 (IntKind.i64.wrap ((2 + 4 * k.ps.length + keysB (k.keys.take (i + 1)) : Nat) : Int))) rfl (ci ?_) ?_
    · rw [wrapA, hg]
      congr 1
      omega
    exact s_again (i + 1) (by omega) (by omega)
  · obtain rfl : i = k.ks.length := by omega
    refine sx ?_
    refine s_ret1 rfl rfl ⟨?_, rfl⟩
    rw [List.take_of_length_le (by simp)]
def Kd.part (k : Kd) (i j : Nat) : Kd := ⟨Sx.sl k.pa j i 1, j - i, (k.ps.take j).drop i, Sx.sl k.ka (j - 1) i 1, j - 1 - i, (k.ks.take (j - 1)).drop i⟩
theorem Kd.part_d (k : Kd) (i j : Nat) : (k.part i j).d = cutD k.d i j := by simp [Kd.part, cutD, Kd.keys, Kd.d]
theorem RKd.part {k : Kd} {i j : Nat} (h : RKd w0 H k) (h1 : i < j) (h2 : j ≤ k.ps.length) (h3 : k.ks.length + 1 = k.ps.length) (h4 : k.ps.length ≤ k.pc) (h5 : k.ks.length ≤ k.kc) : RKd w0 H (k.part i j) := by
  refine ⟨?_, ?_, fun p hp => h.el p (List.mem_of_mem_take (List.mem_of_mem_drop hp))⟩
  · have := ((h.ps.take (k := j) h2).capt (c' := j) (by rw [List.length_take]; omega) (by omega)).drop (j := i) (by rw [List.length_take]; omega)
    exact this
  · have := ((h.ks.take (k := j - 1) (by omega)).capt (c' := j - 1) (by rw [List.length_take]; omega) (by omega)).drop (j := i) (by rw [List.length_take]; omega)
    exact this
theorem part_s {k : Kd} {i j : Nat} (hk : RKd w0 H k) (h1 : i < j) (h2 : j ≤ k.ps.length) (h3 : k.ks.length + 1 = k.ps.length) : FnV Try.prog w0 H 60 #[.agg k.cells.toArray, .int .i64 i, .int .i64 j] (.agg (k.part i j).cells.toArray) := by
  refine fns_enter Try.func60 rfl rfl rfl ?_
  refine s_kn (Kn.kp hk) fun l1 => s_kn (Kn.kk hk) fun l2 => ?_
  simp only [maxLen] at l1 l2
  refine sx ?_
  refine s_boxA rfl fun b => ?_
  refine sx ?_
  refine s_alloc fun b6 => ?_
  refine sx ?_
  refine sx ?_; refine s_drH (.hb b 31 k.cells :: H) (.one true 0 (.one true 1 (.one true 2 (.one true 3 (.one true 4 (.one true 5 (.one true 6 (.one true 7 (.one true 8 (.one true 9 (.one true 10 (.one true 11 (.one true 12 (.one true 13 (.one true 14 (.one false 15 .nil)))))))))))))))) mixed (by kernel_rfl) ?_; refine sx ?_
  refine s_yH rfl rfl rfl (y_slV rfl rfl rfl rfl ⟨by omega, by omega, by omega⟩) ?_
  refine sx ?_
  refine s_rw (t := 17) rfl (ci (by omega : _ = ((j - 1 : Nat) : Int))) ?_
  refine sx ?_
  refine s_rw (t := 19) rfl (ci (by omega : _ = ((j - 1 : Nat) : Int))) ?_
  refine sx ?_
  refine s_yH rfl rfl rfl (y_slV rfl rfl rfl rfl ⟨by omega, by omega, by omega⟩) ?_
  refine sx ?_
  refine s_retc rfl rfl (by exact at_) (by exact rfl) ⟨?_, rfl⟩
  have e1 : (k.part i j).ps.length = j - i := by simp only [Kd.part, List.length_drop, List.length_take]; omega
  have e2 : (k.part i j).ks.length = j - 1 - i := by simp only [Kd.part, List.length_drop, List.length_take]; omega
  rw [Kd.cells, e1, e2]
  rfl
theorem spl_1 {size : Int} {d : List Int × List Bs} (h : ¬ splOk size d) : splE size d = 1 ∧ splN size d = 0 := by
  have e : splE size d = 1 := by rw [splE, if_neg h]
  exact ⟨e, by rw [splN, e]; rfl⟩
theorem spl_64 {size : Int} {d : List Int × List Bs} (h : splOk size d) (h1 : size - 32 < (bst (lngD d) (d.1.length - 3)).2) : splE size d = 64 ∧ splN size d = 0 := by
  have e : splE size d = 64 := by rw [splE, if_pos h, if_pos h1]
  exact ⟨e, by rw [splN, e]; rfl⟩
theorem spl_0 {size : Int} {d : List Int × List Bs} (h : splOk size d) (h1 : ¬ size - 32 < (bst (lngD d) (d.1.length - 3)).2) : splE size d = 0 ∧ splN size d = (bst (lngD d) (d.1.length - 3)).1 := by
  have e : splE size d = 0 := by rw [splE, if_pos h, if_neg h1]
  exact ⟨e, by rw [splN, e]; rfl⟩
theorem spl_e {size : Int} {d : List Int × List Bs} {e n : Int} (h : splE size d = e ∧ (splN size d : Int) = n) : Value.tuple #[.int .i64 n, .int .i64 e] = .tuple #[.int .i64 (splN size d), .int .i64 (splE size d)] := by
  rw [h.1, h.2]
theorem bst_1 {L : Nat → Int} {m : Nat} (h : (bst L m).1 = 0 ∨ L (m + 2) < (bst L m).2) : bst L (m + 1) = (m + 2, L (m + 2)) := by rw [bst, if_pos h]
theorem bst_2 {L : Nat → Int} {m : Nat} (h : ¬ ((bst L m).1 = 0 ∨ L (m + 2) < (bst L m).2)) : bst L (m + 1) = bst L m := by rw [bst, if_neg h]
theorem bsplit_s {k : Kd} {size : Int} (hk : RKd w0 H k) (hp : k.ps.length ≤ 140737488355328) : FnV Try.prog w0 H 35 #[.int .i64 size, .agg k.cells.toArray] (.tuple #[.int .i64 (splN size k.d), .int .i64 (splE size k.d)]) := by
  refine fns_enter Try.func35 rfl rfl rfl ?_
  refine s_kn (Kn.kp hk) fun l1 => s_kn (Kn.kk hk) fun l2 => ?_
  simp only [maxLen] at l1 l2
  have hkd : k.d.2.length = k.ks.length := by simp
  have hkp : k.d.1.length = k.ps.length := rfl
  refine sx ?_
  refine s_boxA rfl fun b3 => ?_
  refine sx ?_
  refine s_callV rfl bsized_s ?_
  refine sx ?_
  refine s_lsp rfl (fun t1 => ?_) (fun t1 => ?_)
  · have hn := spl_1 (size := size) (d := k.d) (fun h => by rw [h.1] at t1; cases t1)
    refine sx ?_
    exact s_ret2 rfl rfl rfl ⟨spl_e ⟨hn.1, by rw [hn.2]; rfl⟩, rfl⟩
  have t1 : sizedB size = true := by simpa using t1
  have hsz := sizedB_bd t1
  refine sx ?_
  refine s_callV rfl (bfits_s (k := k) (by exact rkd)) ?_
  refine sx ?_
  refine s_lifn rfl (fun t2 => ?_) (fun t2 => ?_)
  · refine sx ?_
    exact s_ret2 rfl rfl rfl ⟨spl_e ⟨(spl_1 (fun h => t2 (by have := h.2.1; omega))).1, by rw [(spl_1 (fun h => t2 (by have := h.2.1; omega))).2]; rfl⟩, rfl⟩
  refine sx ?_
  refine s_if rfl (fun t3 => ?_) (fun t3 => ?_)
  · refine sx ?_
    exact s_ret2 rfl rfl rfl ⟨spl_e ⟨(spl_1 (fun h => by have := h.2.2; omega)).1, by rw [(spl_1 (fun h => by have := h.2.2; omega)).2]; rfl⟩, rfl⟩
  have hok : splOk size k.d := ⟨t1, by omega, by omega⟩
  refine sx ?_
  refine s_loop (fun m : Nat => [(0, .int .i64 size), (3, .pointer (some ⟨b3, 0, none⟩)), (6, .int .i64 ((bst (lngD k.d) m).1 : Nat)), (7, .int .i64 (bst (lngD k.d) m).2), (8, .int .i64 ((m + 2 : Nat) : Int))]) (fun _ => .hb b3 31 k.cells :: H) (fun m => m ≤ k.ps.length - 3) (fun m => k.ps.length - 3 - m) 0 (Nat.zero_le _) ?_
  intro m hm
  refine sx ?_
  refine s_if rfl (fun t4 => ?_) (fun t4 => ?_)
  · refine sx ?_; refine s_dr (.one true 0 (.one true 1 (.one true 4 (.one true 5 (.one true 6 (.one true 7 (.one true 8 (.one false 2 (.one false 3 (.one false 9 (.one false 10 (.one true 11 (.one true 12 .nil))))))))))))) mixed (by kernel_rfl) ?_; refine sx ?_
    refine s_callV rfl (part_s (k := k) (i := 0) (j := m + 2) (by exact rkd) (by omega) (by omega) (by omega)) ?_
    refine sx ?_
    refine s_callV rfl (bbytesW_s (k := k.part 0 (m + 2)) (RKd.part (by exact rkd) (by omega) (by omega) (by omega) l1.1 l2.1) (by simp only [Kd.part, List.length_drop, List.length_take]; omega)) ?_
    refine sx ?_
    refine s_callV rfl (part_s (k := k) (i := m + 2) (j := k.ps.length) (by exact rkd) (by omega) (by omega) (by omega)) ?_
    refine sx ?_
    refine s_callV rfl (bbytesW_s (k := k.part (m + 2) k.ps.length) (RKd.part (by exact rkd) (by omega) (by omega) (by omega) l1.1 l2.1) (by simp only [Kd.part, List.length_drop, List.length_take]; omega)) ?_
    refine sx ?_
    have hL : max (IntKind.i64.wrap (bytesK (k.part 0 (m + 2)).d : Nat)) (IntKind.i64.wrap (bytesK (k.part (m + 2) k.ps.length).d : Nat)) = lngD k.d (m + 2) := by
      rw [Kd.part_d, Kd.part_d]
      rfl
    refine s_rw (t := 9) (v' := .int .i64 (lngD k.d (m + 2))) rfl (ci hL) ?_
    clear hL
    generalize hB : bst (lngD k.d) m = B
    refine s_lif rfl (fun t5 => ?_) (fun t5 => ?_)
    · have hb := bst_1 (L := lngD k.d) (m := m) (.inl (by rw [hB]; omega))
      refine sx ?_
      refine s_rwQ (t := 6) (v' := .int .i64 ((bst (lngD k.d) (m + 1)).1 : Nat)) rfl (by rw [hb]) ?_
      refine s_rwQ (t := 7) (v' := .int .i64 (bst (lngD k.d) (m + 1)).2) rfl (by rw [hb]) ?_
      exact s_again (m + 1) (by omega) (by omega)
    refine sx ?_
    refine s_if rfl (fun t6 => ?_) (fun t6 => ?_)
    · have hb := bst_1 (L := lngD k.d) (m := m) (.inr (by rw [hB]; exact t6))
      refine sx ?_
      refine s_rwQ (t := 6) (v' := .int .i64 ((bst (lngD k.d) (m + 1)).1 : Nat)) rfl (by rw [hb]) ?_
      refine s_rwQ (t := 7) (v' := .int .i64 (bst (lngD k.d) (m + 1)).2) rfl (by rw [hb]) ?_
      exact s_again (m + 1) (by omega) (by omega)
    · have hb := bst_2 (L := lngD k.d) (m := m) (by rw [hB]; rintro (h | h); exact t5 (by omega); exact t6 h)
      refine sx ?_
      refine s_rwQ (t := 6) (v' := .int .i64 ((bst (lngD k.d) (m + 1)).1 : Nat)) rfl (by rw [hb, hB]) ?_
      refine s_rwQ (t := 7) (v' := .int .i64 (bst (lngD k.d) (m + 1)).2) rfl (by rw [hb, hB]) ?_
      exact s_again (m + 1) (by omega) (by omega)
  · obtain rfl : m = k.ps.length - 3 := by omega
    refine sx ?_
    have hd3 : k.d.1.length - 3 = k.ps.length - 3 := rfl
    refine s_if rfl (fun t5 => ?_) (fun t5 => ?_)
    · have hn := spl_64 hok (by rw [hd3]; omega)
      refine sx ?_
      exact s_ret2 rfl rfl rfl ⟨spl_e ⟨hn.1, by rw [hn.2]; rfl⟩, rfl⟩
    · have hn := spl_0 hok (by rw [hd3]; omega)
      refine sx ?_
      exact s_ret2 rfl rfl rfl ⟨spl_e ⟨hn.1, by rw [hn.2]⟩, rfl⟩
theorem wrap_id {n : Int} (h : 0 ≤ n ∧ n < 9223372036854775808) : IntKind.i64.wrap n = n := IntWalk.i64_in _ (by omega)
/-- Nothing is so long that it would be counted wrong. -/
theorem lngD_eq {d : List Int × List Bs} (h1 : d.1.length ≤ 2147483647) (h2 : keysB d.2 ≤ 4294967294) (h3 : d.2.length + 1 = d.1.length) {n : Nat} (hn : 1 ≤ n ∧ n ≤ d.1.length) :
    lngD d n = ((max (2 + 4 * n + keysB (d.2.take (n - 1))) (2 + 4 * (d.1.length - n) + keysB (d.2.drop n)) : Nat) : Int) := by
  have e1 : bytesK (cutD d 0 n) = 2 + 4 * n + keysB (d.2.take (n - 1)) := by
    simp only [cutD, bytesK, List.drop_zero, List.length_take]
    rw [Nat.min_eq_left hn.2]
  have e2 : bytesK (cutD d n d.1.length) = 2 + 4 * (d.1.length - n) + keysB (d.2.drop n) := by
    simp only [cutD, bytesK, List.take_length, List.length_drop]
    rw [List.take_of_length_le (by omega)]
  have k1 := keysB_take d.2 (n - 1)
  have k2 : keysB (d.2.drop n) ≤ keysB d.2 := by
    conv => rhs; rw [← List.take_append_drop n d.2, keysB_app]
    omega
  rw [lngD, e1, e2, wrap_id (by omega), wrap_id (by omega)]
  omega
theorem rsplit_s {k : Kd} {size : Int} (hk : RKd w0 H k) (hs : ksm9 k) : FnV Try.prog w0 H 54 #[.int .i64 size, .agg k.cells.toArray] (.tuple #[.int .i64 (splN size k.d), .int .i64 (splE size k.d)]) := by
  obtain ⟨hs1, hs2⟩ := hs
  refine fns_enter Try.func54 rfl rfl rfl ?_
  refine s_kn (Kn.kp hk) fun l1 => s_kn (Kn.kk hk) fun l2 => ?_
  simp only [maxLen] at l1 l2
  have hkd : k.d.2.length = k.ks.length := by simp
  have hkp : k.d.1.length = k.ps.length := rfl
  have hks := hk.ks
  refine sx ?_
  refine s_boxA rfl fun b3 => ?_
  refine sx ?_
  refine s_callV rfl rsized_s ?_
  refine sx ?_
  refine s_lsp rfl (fun t1 => ?_) (fun t1 => ?_)
  · have hn := spl_1 (size := size) (d := k.d) (fun h => by rw [h.1] at t1; cases t1)
    refine sx ?_
    exact s_ret2 rfl rfl rfl ⟨spl_e ⟨hn.1, by rw [hn.2]; rfl⟩, rfl⟩
  have t1 : sizedB size = true := by simpa using t1
  have hsz := sizedB_bd t1
  refine sx ?_
  refine s_callV rfl (rfit_s (k := k) (by exact rkd)) ?_
  refine sx ?_
  refine s_lifn rfl (fun t2 => ?_) (fun t2 => ?_)
  · have hn := spl_1 (size := size) (d := k.d) (fun h => t2 (by have := h.2.1; omega))
    refine sx ?_
    exact s_ret2 rfl rfl rfl ⟨spl_e ⟨hn.1, by rw [hn.2]; rfl⟩, rfl⟩
  refine sx ?_
  refine s_if rfl (fun t3 => ?_) (fun t3 => ?_)
  · have hn := spl_1 (size := size) (d := k.d) (fun h => by have := h.2.2; omega)
    refine sx ?_
    exact s_ret2 rfl rfl rfl ⟨spl_e ⟨hn.1, by rw [hn.2]; rfl⟩, rfl⟩
  have hok : splOk size k.d := ⟨t1, by omega, by omega⟩
  obtain ⟨p0, hp0⟩ := get_lt k.ks 0 (by omega)
  have h01 := keysB_get (Kd.kget hp0)
  have h02 := keysB_take k.keys 1
  simp only [List.take_zero, Nat.zero_add] at h01
  have h00 : keysB ([] : List Bs) = 0 := rfl
  rw [h00] at h01
  have hall : bytesK k.d = 2 + 4 * k.ps.length + keysB k.keys := rfl
  refine sx ?_
  refine s_callV rfl (rbytes_s (k := k) (by exact rkd) (by rw [hall]; omega)) ?_
  refine sx ?_
  refine s_loop (fun m : Nat => [(0, .int .i64 size), (3, .pointer (some ⟨b3, 0, none⟩)), (6, .int .i64 ((2 + 4 * (m + 2) + keysB (k.keys.take (m + 1)) : Nat) : Int)), (7, .int .i64 (bytesK k.d : Nat)), (8, .int .i64 ((bst (lngD k.d) m).1 : Nat)), (9, .int .i64 (bst (lngD k.d) m).2), (10, .int .i64 ((m + 2 : Nat) : Int))]) (fun _ => .hb b3 31 k.cells :: H) (fun m => m ≤ k.ps.length - 3) (fun m => k.ps.length - 3 - m) 0 (Nat.zero_le _) ?_ (h0 := by
    refine ⟨rfl, rfl, congrArg some (ci ?_), rfl, rfl, rfl, rfl, trivial⟩
    simp only [Nat.zero_add]
    omega)
  intro m hm
  refine sx ?_
  refine s_if rfl (fun t4 => ?_) (fun t4 => ?_)
  · obtain ⟨p, hp⟩ := get_lt k.ks (m + 1) (by omega)
    have hg : keysB (k.keys.take (m + 2)) = keysB (k.keys.take (m + 1)) + (2 + p.xs.length) := keysB_get (Kd.kget hp)
    have hgt := keysB_take k.keys (m + 2)
    have hga := keysB_app (k.keys.take (m + 2)) (k.keys.drop (m + 2))
    rw [List.take_append_drop] at hga
    have hL := lngD_eq (d := k.d) (by omega) hs2 (by omega) (n := m + 2) (by omega)
    refine sx ?_
    refine s_rw (t := 12) (v' := .int .i64 (lngD k.d (m + 2))) rfl (ci (by
      rw [hL]
      show _ = ((max (2 + 4 * (m + 2) + keysB (k.keys.take (m + 1))) (2 + 4 * (k.ps.length - (m + 2)) + keysB (k.keys.drop (m + 2))) : Nat) : Int)
      omega)) ?_
    clear hL
    generalize hB : bst (lngD k.d) m = B
    refine s_lif rfl (fun t5 => ?_) (fun t5 => ?_)
    · have hb := bst_1 (L := lngD k.d) (m := m) (.inl (by rw [hB]; omega))
      refine sx ?_
      refine s_rwQ (t := 6) (v' := .int .i64 ((2 + 4 * (m + 1 + 2) + keysB (k.keys.take (m + 1 + 1)) : Nat) : Int)) rfl (ci (by show _ = ((2 + 4 * (m + 1 + 2) + keysB (k.keys.take (m + 2)) : Nat) : Int); omega)) ?_
      refine s_rwQ (t := 8) (v' := .int .i64 ((bst (lngD k.d) (m + 1)).1 : Nat)) rfl (by rw [hb]) ?_
      refine s_rwQ (t := 9) (v' := .int .i64 (bst (lngD k.d) (m + 1)).2) rfl (by rw [hb]) ?_
      exact s_again (m + 1) (by omega) (by omega)
    refine sx ?_
    refine s_if rfl (fun t6 => ?_) (fun t6 => ?_)
    · have hb := bst_1 (L := lngD k.d) (m := m) (.inr (by rw [hB]; exact t6))
      refine sx ?_
      refine s_rwQ (t := 6) (v' := .int .i64 ((2 + 4 * (m + 1 + 2) + keysB (k.keys.take (m + 1 + 1)) : Nat) : Int)) rfl (ci (by show _ = ((2 + 4 * (m + 1 + 2) + keysB (k.keys.take (m + 2)) : Nat) : Int); omega)) ?_
      refine s_rwQ (t := 8) (v' := .int .i64 ((bst (lngD k.d) (m + 1)).1 : Nat)) rfl (by rw [hb]) ?_
      refine s_rwQ (t := 9) (v' := .int .i64 (bst (lngD k.d) (m + 1)).2) rfl (by rw [hb]) ?_
      exact s_again (m + 1) (by omega) (by omega)
    · have hb := bst_2 (L := lngD k.d) (m := m) (by rw [hB]; rintro (h | h); exact t5 (by omega); exact t6 h)
      refine sx ?_
      refine s_rwQ (t := 6) (v' := .int .i64 ((2 + 4 * (m + 1 + 2) + keysB (k.keys.take (m + 1 + 1)) : Nat) : Int)) rfl (ci (by show _ = ((2 + 4 * (m + 1 + 2) + keysB (k.keys.take (m + 2)) : Nat) : Int); omega)) ?_
      refine s_rwQ (t := 8) (v' := .int .i64 ((bst (lngD k.d) (m + 1)).1 : Nat)) rfl (by rw [hb, hB]) ?_
      refine s_rwQ (t := 9) (v' := .int .i64 (bst (lngD k.d) (m + 1)).2) rfl (by rw [hb, hB]) ?_
      exact s_again (m + 1) (by omega) (by omega)
  · obtain rfl : m = k.ps.length - 3 := by omega
    have hd3 : k.d.1.length - 3 = k.ps.length - 3 := rfl
    refine sx ?_
    refine s_callV rfl (room_s t1) ?_
    refine sx ?_
    refine s_if rfl (fun t5 => ?_) (fun t5 => ?_)
    · have hn := spl_64 hok (by rw [hd3]; omega)
      refine sx ?_
      exact s_ret2 rfl rfl rfl ⟨spl_e ⟨hn.1, by rw [hn.2]; rfl⟩, rfl⟩
    · have hn := spl_0 hok (by rw [hd3]; omega)
      refine sx ?_
      exact s_ret2 rfl rfl rfl ⟨spl_e ⟨hn.1, by rw [hn.2]⟩, rfl⟩
theorem ksm_of {k k' : Kd} (h : ksm9 k) (hd : k'.d = k.d) : Ksm k' := by
  have e1 : k'.ps = k.ps := congrArg Prod.fst hd
  have e2 : k'.keys = k.keys := congrArg Prod.snd hd
  obtain ⟨h1, h2⟩ := h
  exact ⟨by rw [e1]; omega, by rw [e2]; omega⟩
theorem ksm_up {L : Bl} (h : ksm9 L.k) : ksm9 L.k' := by
  obtain ⟨h1, h2⟩ := h
  refine ⟨by simpa [Bl.k', Bl.k] using h1, ?_⟩
  rw [keysB_eq] at h2 ⊢
  have e := L.len'
  have el := congrArg List.length e
  simp only [List.length_map] at el
  rw [e]
  simp only [Kd.keys, List.length_map] at h2 ⊢
  omega
theorem ksm9_d {k k' : Kd} (h : ksm9 k) (hd : k'.d = k.d) : ksm9 k' := by
  have e1 : k'.ps = k.ps := congrArg Prod.fst hd
  have e2 : k'.keys = k.keys := congrArg Prod.snd hd
  exact ⟨by rw [e1]; exact h.1, by rw [e2]; exact h.2⟩
end Go.Sx
