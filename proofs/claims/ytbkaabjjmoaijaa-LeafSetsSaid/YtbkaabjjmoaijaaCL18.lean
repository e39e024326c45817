/- Part of a proof: walks through functions of the program, in the words of the calculus of the texts Sx. -/
import Derived.Test.YtbkaabjjmoaijaaCL15
namespace Go.Sx
open Go Go.Proofs
set_option maxRecDepth 10000

theorem marked_go (w : World) (a : Option Addr) (c : Nat) (xs : Bs) (ha : By w a c xs) (hx : xs.length + 2 ≤ 140737488355328) :
    Fn Try.prog 20 #[.slice a xs.length c] w (CopyPost w (xs ++ [167, 168])) := by
  refine fn_enter Try.func20 rfl rfl rfl ?_
  refine sxo ?_
  refine l_bsl rfl rfl rfl rfl (by rfl) (by rfl) (by rfl) ?_
  intro b w1 hN
  refine ⟨trivial, ?_⟩
  have hO : OwB w1 w.heap.size 5 (some ⟨b, 0, none⟩) 0 [] := Own.mk (rest := []) (by have := hN.at_; omega) hN.hb rfl (Nat.le_refl _) (Nat.zero_le _) rfl
  refine sxo ?_
  refine l_appB rfl rfl rfl rfl rfl rfl hO (ha.ex hN.ex).src ha.nil rfl (by simp; omega) hN.ex.size ?_
  intro a2 c2 w2 hO2 hG2
  refine ⟨trivial, ?_⟩
  have hE2 : Ex w w2 := hG2.ex0 hN.ex hO (Nat.le_refl _)
  rw [List.nil_append] at hO2 ⊢
  refine l_bsl rfl rfl rfl rfl (by rfl) (by rfl) (by rfl) ?_
  intro b3 w3 hN3
  refine ⟨trivial, ?_⟩
  have hE3 := hE2.trans hN3.ex
  have hB3 : By w3 (some ⟨b3, 0, none⟩) 2 [167, 168] := cells_by (xs := [167, 168]) (HB.cells hN3.hb) (by simp [maxLen])
  refine l_appB rfl rfl rfl rfl rfl rfl (hO2.ex hN3.ex) hB3.src hB3.nil rfl (by simp; omega) hE3.size ?_
  intro a4 c4 w4 hO4 hG4
  refine ⟨trivial, ?_⟩
  refine sxo ?_
  exact q_ret1 rfl rfl ⟨a4, c4, rfl, hG4.ex0 hE3 (hO2.ex hN3.ex) (Nat.le_refl _), hO4⟩

/-- Of a list, a mark. -/
def markL (i : Nat) : UInt8 := UInt8.ofNat (1 + i % 251)
theorem mark_go (w : World) (i : Nat) (hi : i ≤ 9223372036854775807) : Fn Try.prog 45 #[.int .i64 i] w (fun v w' => v = bv (markL i) ∧ w' = w) := by
  refine fn_enter Try.func45 rfl rfl rfl ?_
  refine sxo ?_
  exact q_ret1 rfl rfl ⟨bv_of (1 + i % 251) _ (by omega), rfl⟩
theorem full_go (w : World) (a : Option Addr) (c : Nat) (xs : Bs) (ha : By w a c xs) (m : UInt8) :
    Fn Try.prog 46 #[.slice a xs.length c, bv m] w (fun v w' => v = .bool (xs.all (· == m)) ∧ w' = w) := by
  have hl := ha.len
  refine fn_enter Try.func46 rfl rfl rfl ?_
  refine sxo ?_
  refine c_loop (fun k : Nat => [(0, .slice a xs.length c), (1, bv m), (5, .int .i64 k)]) (fun k w' => w' = w ∧ k ≤ xs.length ∧ ((xs.take k).all (· == m)) = true) (fun k => xs.length - k) 0 (by exact ⟨rfl, rfl, rfl, trivial⟩) ⟨rfl, Nat.zero_le _, rfl⟩ ?_
  rintro k w' ⟨hw, hk, hall⟩
  subst hw
  refine sxo ?_
  refine c_if rfl (fun hlt => ?_) (fun hge => ?_)
  · obtain ⟨ad, rfl⟩ := ha.some (by omega)
    have hk' : k < xs.length := by omega
    have hg : xs.getD k 0 = xs[k] := by simp [List.getD, hk']
    refine sxo ?_
    refine c_ifn rfl (fun hne => ?_) (fun heq => ?_)
    · refine sxo ?_
      refine q_ret1 rfl rfl ⟨?_, rfl⟩
      have : xs.all (· == m) = false := by
        rw [List.all_eq_false]
        exact ⟨xs[k], List.getElem_mem hk', by rw [hg] at hne; simpa using hne⟩
      rw [this]
    · refine sxo ?_
      refine q_again (k + 1) ⟨rfl, rfl, rfl, trivial⟩ ⟨rfl, by omega, ?_⟩ (by omega)
      rw [List.take_add_one, List.all_append, hall]
      rw [hg] at heq
      simp [hk', heq]
  · have : k = xs.length := by omega
    subst this
    rw [List.take_of_length_le (Nat.le_refl _)] at hall
    refine sxo ?_
    exact q_ret1 rfl rfl ⟨by rw [hall], rfl⟩
end Go.Sx
