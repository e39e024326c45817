/- Part of a proof: walks through functions of the program, in the words of the calculus of the texts Sx. -/
import Derived.Test.YtbkaabjjmoaijaaCL11
import Derived.Test.YtbkaabjjmoaijaaCKB
namespace Go.Sx
open Go Go.Proofs
set_option maxRecDepth 10000

/-- What weight adds up, till it is beyond the bound. -/
def wB : Nat → Ps → Nat
  | s, [] => s
  | s, e :: r => if s ≤ 2147483647 then wB (s + 1 + e.1.length + e.2.length) r else s
theorem wB_le : ∀ (s : Nat) (ps : Ps), wB s ps ≤ 2147483647 ↔ s + wt ps ≤ 2147483647
  | s, [] => by simp [wB, wt]
  | s, e :: r => by
    unfold wB
    split
    · rw [wB_le]; simp only [wt]; omega
    · simp only [wt]; omega
theorem wB_eq : ∀ (s : Nat) (ps : Ps), s + wt ps ≤ 2147483647 → wB s ps = s + wt ps
  | s, [], _ => rfl
  | s, e :: r, h => by
    simp only [wt] at h
    unfold wB
    rw [if_pos (by omega), wB_eq _ _ (by omega)]
    simp only [wt]; omega
theorem wB_gt (s : Nat) (ps : Ps) (h : 2147483647 < s) : wB s ps = s := by
  cases ps with
  | nil => rfl
  | cons e r => rw [wB, if_neg (by omega)]

theorem wB_cons (s : Nat) (e : Bs × Bs) (r : Ps) (h : s ≤ 2147483647) : wB s (e :: r) = wB (s + 1 + e.1.length + e.2.length) r := by rw [wB, if_pos h]
theorem wB_nil (s : Nat) : wB s [] = s := rfl
theorem weight_go (w : World) (a : Option Addr) (c : Nat) (es : List KV) (hs : En w a c es) (hz : ∀ e, e ∈ es → e.k.length ≤ 140737488351232 ∧ e.v.length ≤ 140737488351232) :
    Fn Try.prog 14 #[.slice a es.length c] w (fun v w' => v = .int .i64 (wB 0 (es.map KV.p) : Nat) ∧ Ex w w') := by
  have hl := hs.len
  refine fn_enter Try.func14 rfl rfl rfl ?_
  refine sxo ?_
  refine c_loop (fun x : Nat × Nat => [(0, .slice a es.length c), (3, .int .i64 x.2), (4, .int .i64 x.1)])
    (fun x w' => Ex w w' ∧ x.1 ≤ es.length ∧ wB 0 (es.map KV.p) = wB x.2 ((es.map KV.p).drop x.1)) (fun x => es.length - x.1) (0, 0) (by exact ⟨rfl, rfl, rfl, trivial⟩) ⟨Ext.refl w, Nat.zero_le _, rfl⟩ ?_
  rintro ⟨k, s⟩ w1 ⟨hE, hk, hsum⟩
  simp only at hk hsum ⊢
  refine sxo ?_
  refine l_if rfl (fun hlt => ?_) (fun hge => ?_)
  · obtain ⟨e, he⟩ := get_lt es k (by omega)
    obtain ⟨ad, rfl⟩ := hs.some (by omega)
    have hs1 := hs.ex hE
    have hze := hz e (List.mem_of_getElem? he)
    have hd : (es.map KV.p).drop k = KV.p e :: (es.map KV.p).drop (k + 1) := by
      rw [List.drop_eq_getElem_cons (by simp; omega)]
      congr 1
      have := (List.getElem?_eq_some_iff.1 (map_get he)).2
      rw [this]; rfl
    refine sxo ?_
    refine c_if rfl (fun hb => ?_) (fun hb => ?_)
    · rw [hd, wB_cons _ _ _ (by omega)] at hsum
      refine sxo ?_
      refine c_dr (fun _ => False) (.one true 0 (.one true 1 (.one true 2 (.one true 3 (.one true 4 (.one true 5 (.one true 6 (.one true 7 (.one true 8 (.one true 9 (.one true 10 (.one true 11 (.one true 12 (.one true 13 (.one true 14 (.one true 15 (.one true 16 .nil))))))))))))))))) mixed (by kernel_rfl) ?_
      intro w2 hE2 hh
      refine sxo ?_
      refine q_again (k + 1, s + 1 + e.k.length + e.v.length) ⟨rfl, ?_, rfl, trivial⟩ ⟨hE.trans hE2, by simp only; omega, hsum⟩ (by simp only; omega)
      exact congrArg some (ci (by simp only; omega))
    · rw [wB_gt s _ (by omega)] at hsum
      refine sxo ?_
      exact q_ret1 rfl rfl ⟨by rw [hsum], hE⟩
  · have : k = es.length := by omega
    subst this
    rw [List.drop_eq_nil_of_le (by simp), wB_nil] at hsum
    refine sxo ?_
    exact q_ret1 rfl rfl ⟨by rw [hsum], hE⟩

/-- Which of n things a raw number speaks of. -/
def pickL (c : Int) (n : Nat) : Nat := ((if c < 0 then -(c + 1) else c) % (n : Int)).toNat
theorem pickL_lt (c : Int) {n : Nat} (h : 0 < n) : pickL c n < n := by
  have h1 := Int.emod_lt_of_pos (if c < 0 then -(c + 1) else c) (by omega : 0 < (n : Int))
  have h2 := Int.emod_nonneg (if c < 0 then -(c + 1) else c) (by omega : (n : Int) ≠ 0)
  unfold pickL
  omega
theorem pick_go (w : World) (c : Int) (hc : -9223372036854775808 ≤ c ∧ c ≤ 9223372036854775807) (n : Nat) (hn : 0 < n) :
    Fn Try.prog 27 #[.int .i64 c, .int .i64 n] w (fun v w' => v = .int .i64 (pickL c n) ∧ w' = w) := by
  have hnn : ∀ x : Int, (n : Int) ≠ 0 → ((x % (n : Int)).toNat : Int) = x % (n : Int) := fun x h => Int.toNat_of_nonneg (Int.emod_nonneg x h)
  refine fn_enter Try.func27 rfl rfl rfl ?_
  refine sxo ?_
  refine c_if rfl (fun h => ?_) (fun h => ?_)
  · refine sxo ?_
    refine q_ret1 rfl rfl ⟨ci ?_, rfl⟩
    rw [pickL, if_pos h, hnn _ (by omega)]
  · refine sxo ?_
    refine q_ret1 rfl rfl ⟨ci ?_, rfl⟩
    rw [pickL, if_neg h, hnn _ (by omega)]
def sizeL (c : Int) : Int := ((512 * 2 ^ pickL c 4 : Nat) : Int)
theorem sizeL_sized (c : Int) : sizedL (sizeL c) = true := by
  have := pickL_lt c (n := 4) (by omega)
  unfold sizeL
  generalize pickL c 4 = k at *
  match k, this with
  | 0, _ => rfl
  | 1, _ => rfl
  | 2, _ => rfl
  | 3, _ => rfl
theorem sizes_go (w : World) (c : Int) (hc : -9223372036854775808 ≤ c ∧ c ≤ 9223372036854775807) : Fn Try.prog 25 #[.int .i64 c] w (fun v w' => v = .int .i64 (sizeL c) ∧ w' = w) := by
  refine fn_enter Try.func25 rfl rfl rfl ?_
  have h4 := pickL_lt c (n := 4) (by omega)
  have h8 : 2 ^ pickL c 4 ≤ 8 := Nat.pow_le_pow_right (n := 2) (by omega) (by omega : pickL c 4 ≤ 3)
  refine sxo ?_
  refine l_call rfl rfl rfl rfl (pick_go w c hc 4 (by omega)) ?_
  rintro _ wz ⟨rfl, hwz⟩
  rw [hwz]
  refine ⟨trivial, ?_⟩
  refine l_y rfl rfl (y_shlv (a := 512) rfl rfl (by omega) (by omega)) ?_
  refine sxo ?_
  exact q_ret1 rfl rfl ⟨rfl, rfl⟩
end Go.Sx
