/- Part of a proof: ranges put in order by their first keys, by Go's own sort. -/
import Derived.Test.YtimakbpghggdfaaCO2
import Derived.Test.YtimakbpghggdfaaCKB
import Derived.Shelf.SlSortCmp.WholeK
namespace Go.Proofs
open Go.Shelf Go.RowKit Go.Lib Go.Sort
def Try.sortRg_ren : Go.Shelf.Ren := ⟨fun | 6 => 48 | 15 => 52 | 14 => 56 | 28 => 65 | 29 => 66 | 20 => 68 | 21 => 69 | 22 => 70 | 23 => 71 | 24 => 72 | 25 => 73 | 26 => 74 | 27 => 75 | 46 => 81 | 47 => 77 | 48 => 78 | 49 => 82 | 50 => 83 | 57 => 85 | n => n, fun | 22 => 58 | 24 => 39 | 25 => 93 | 3 => 3 | 39 => 97 | 0 => 0 | 53 => 111 | 55 => 29 | 4 => 4 | 46 => 104 | 45 => 103 | 50 => 108 | 5 => 5 | 9 => 9 | 66 => 119 | 70 => 123 | 76 => 127 | 77 => 128 | n => n, fun | n => n⟩
theorem Try.sortRg : Go.Proofs.SlLaysF0.n6 Try.prog Try.sortRg_ren := {
  mixed := by kernel_rfl,
  f6 := ⟨Try.f48.name, by decide, Try.func48.trans (congrArg some (by kernel_rfl))⟩,
  f14 := ⟨Try.f56.name, by decide, Try.func56.trans (congrArg some (by kernel_rfl))⟩,
  f15 := Try.func52.trans (congrArg some (by kernel_rfl)),
  f20 := ⟨Try.f68.name, by decide, Try.func68.trans (congrArg some (by kernel_rfl))⟩,
  f21 := ⟨Try.f69.name, by decide, Try.func69.trans (congrArg some (by kernel_rfl))⟩,
  f22 := ⟨Try.f70.name, by decide, Try.func70.trans (congrArg some (by kernel_rfl))⟩,
  f23 := ⟨Try.f71.name, by decide, Try.func71.trans (congrArg some (by kernel_rfl))⟩,
  f24 := ⟨Try.f72.name, by decide, Try.func72.trans (congrArg some (by kernel_rfl))⟩,
  f25 := ⟨Try.f73.name, by decide, Try.func73.trans (congrArg some (by kernel_rfl))⟩,
  f26 := ⟨Try.f74.name, by decide, Try.func74.trans (congrArg some (by kernel_rfl))⟩,
  f27 := ⟨Try.f75.name, by decide, Try.func75.trans (congrArg some (by kernel_rfl))⟩,
  f28 := Try.func65.trans (congrArg some (by kernel_rfl)),
  f29 := Try.func66.trans (congrArg some (by kernel_rfl)),
  f46 := ⟨Try.f81.name, by decide, Try.func81.trans (congrArg some (by kernel_rfl))⟩,
  f47 := Try.func77.trans (congrArg some (by kernel_rfl)),
  f48 := Try.func78.trans (congrArg some (by kernel_rfl)),
  f49 := ⟨Try.f82.name, by decide, Try.func82.trans (congrArg some (by kernel_rfl))⟩,
  f50 := ⟨Try.f83.name, by decide, Try.func83.trans (congrArg some (by kernel_rfl))⟩,
  f57 := ⟨Try.f85.name, by decide, Try.func85.trans (congrArg some (by kernel_rfl))⟩,
  t0 := Try.underlying0,
  a0 := Try.isAgg0,
  z0 := Try.sizeOf0,
  v0 := Try.zeroValue0,
  t3 := Try.underlying3,
  a3 := Try.isAgg3,
  z3 := Try.sizeOf3,
  v3 := Try.zeroValue3,
  t4 := Try.underlying4,
  a4 := Try.isAgg4,
  z4 := Try.sizeOf4,
  v4 := Try.zeroValue4,
  t5 := Try.underlying5,
  a5 := Try.isAgg5,
  z5 := Try.sizeOf5,
  v5 := Try.zeroValue5,
  t9 := Try.underlying9,
  a9 := Try.isAgg9,
  z9 := Try.sizeOf9,
  v9 := Try.zeroValue9,
  t22 := Try.underlying58,
  a22 := Try.isAgg58,
  z22 := Try.sizeOf58,
  v22 := Try.zeroValue58,
  t25 := Try.underlying93,
  a25 := Try.isAgg93,
  z25 := Try.sizeOf93,
  v25 := Try.zeroValue93,
  t39 := Try.underlying97,
  a39 := Try.isAgg97,
  z39 := Try.sizeOf97,
  v39 := Try.zeroValue97,
  t45 := Try.underlying103,
  a45 := Try.isAgg103,
  z45 := Try.sizeOf103,
  v45 := Try.zeroValue103,
  t46 := Try.underlying104,
  a46 := Try.isAgg104,
  z46 := Try.sizeOf104,
  v46 := Try.zeroValue104,
  t50 := Try.underlying108,
  a50 := Try.isAgg108,
  z50 := Try.sizeOf108,
  v50 := Try.zeroValue108,
  t53 := Try.underlying111,
  a53 := Try.isAgg111,
  z53 := Try.sizeOf111,
  v53 := Try.zeroValue111,
  t55 := Try.underlying29,
  a55 := Try.isAgg29,
  z55 := Try.sizeOf29,
  v55 := Try.zeroValue29,
  t66 := Try.underlying119,
  a66 := Try.isAgg119,
  z66 := Try.sizeOf119,
  v66 := Try.zeroValue119,
  t70 := Try.underlying123,
  a70 := Try.isAgg123,
  z70 := Try.sizeOf123,
  v70 := Try.zeroValue123,
  t76 := Try.underlying127,
  a76 := Try.isAgg127,
  z76 := Try.sizeOf127,
  v76 := Try.zeroValue127,
  t77 := Try.underlying128,
  a77 := Try.isAgg128,
  z77 := Try.sizeOf128,
  v77 := Try.zeroValue128 }

end Go.Proofs
namespace Go.Sx
open Go Go.Proofs
set_option maxRecDepth 10000
theorem ex_drewN (w : World) (q : Nat) : Ex w (w.drewN q) := ⟨rfl, rfl, rfl, Nat.le_refl _, fun _ _ _ => rfl⟩
theorem common_x (w : World) (a a' : Option Addr) (c c' : Nat) (xs ys : List UInt8) (ha : By w a c xs) (hb : By w a' c' ys) :
    Fn Try.prog 34 #[.slice a xs.length c, .slice a' ys.length c'] w (fun v w' => v = .int .i64 (common xs ys) ∧ ∃ q, w' = w.drewN q) := by
  have l1 := ha.len
  have l2 := hb.len
  refine fn_enter Try.func34 rfl rfl rfl ?_
  refine sxo ?_
  refine c_loop (fun k : Nat => [(0, .slice a xs.length c), (1, .slice a' ys.length c'), (5, .int .i64 ((min xs.length ys.length : Nat) : Int)), (12, .int .i64 ((min xs.length ys.length : Nat) : Int)), (13, .int .i64 k)])
    (fun k w1 => (∃ q, w1 = w.drewN q) ∧ k ≤ xs.length ∧ k ≤ ys.length ∧ ∀ i, i < k → xs.getD i 0 = ys.getD i 0) (fun k => xs.length - k) 0 (by exact ⟨rfl, rfl, rfl, rfl, rfl, trivial⟩) ⟨⟨0, rfl⟩, Nat.zero_le _, Nat.zero_le _, fun i hi => absurd hi (by omega)⟩ ?_
  rintro k w1 ⟨⟨q, rfl⟩, hk1, hk2, hk⟩
  refine sxo ?_
  refine c_if rfl (fun hlt => ?_) (fun hge => ?_)
  · obtain ⟨ad, rfl⟩ := ha.some (by omega)
    obtain ⟨ad', rfl⟩ := hb.some (by omega)
    have ha1 : By (w.drewN q).drew (some ad) c xs := ha.ex (ex_drewN w (q + 1))
    have hb1 : By (w.drewN q).drew (some ad') c' ys := hb.ex (ex_drewN w (q + 1))
    refine sxo ?_
    refine c_draw (fun w' => w' = (w.drewN q).drew) (.one true 0 (.one true 1 (.one true 2 (.one true 3 (.one true 4 (.one true 5 (.one true 6 (.one true 7 (.one true 8 .nil))))))))) mixed (by kernel_rfl) rfl ?_
    refine sxo ?_
    refine c_ifn rfl (fun hne => ?_) (fun heq => ?_)
    · refine sxo ?_
      refine q_ret1 rfl rfl ⟨?_, q + 1, rfl⟩
      rw [common_eq xs ys k (by omega) (by omega) hk (.inr (.inr hne))]
    · refine sxo ?_
      refine q_again (k + 1) ⟨rfl, rfl, rfl, rfl, rfl, trivial⟩ ⟨⟨q + 1, rfl⟩, by omega, by omega, fun i hi => ?_⟩ (by omega)
      rcases Nat.lt_or_eq_of_le (Nat.lt_succ_iff.1 hi) with h | rfl
      · exact hk i h
      · exact heq
  · refine sxo ?_
    refine q_ret1 rfl rfl ⟨?_, q, rfl⟩
    rw [common_eq xs ys (min xs.length ys.length) (by omega) (by omega) (fun i hi => hk i (by omega)) (by omega)]
theorem compare_x (w : World) (a a' : Option Addr) (c c' : Nat) (xs ys : List UInt8) (ha : By w a c xs) (hb : By w a' c' ys) :
    Fn Try.prog 13 #[.slice a xs.length c, .slice a' ys.length c'] w (fun v w' => v = .int .i64 (cmp xs ys) ∧ ∃ q, w' = w.drewN q) := by
  have l1 := ha.len
  have l2 := hb.len
  have hcl := common_le xs ys
  refine fn_enter Try.func13 rfl rfl rfl ?_
  refine sxo ?_
  refine l_call rfl rfl rfl rfl (common_x w a a' c c' xs ys ha hb) ?_
  rintro _ w2 ⟨rfl, q, rfl⟩
  refine ⟨trivial, ?_⟩
  have ha2 : By (w.drewN q).drew a c xs := ha.ex (ex_drewN w (q + 1))
  have hb2 : By (w.drewN q).drew a' c' ys := hb.ex (ex_drewN w (q + 1))
  refine sxo ?_
  have hc := cmp_common xs ys
  refine l_if rfl (fun h1 => ?_) (fun h1 => ?_)
  · have h1' : common xs ys = xs.length := by omega
    refine sxo ?_
    refine c_if rfl (fun h2 => ?_) (fun h2 => ?_)
    · have h2' : common xs ys = ys.length := by omega
      refine sxo ?_
      exact q_ret1 rfl rfl ⟨by rw [hc, if_pos ⟨h1', h2'⟩], q, rfl⟩
    · refine sxo ?_
      refine c_if rfl (fun _ => ?_) (fun h3 => absurd h1 h3)
      refine sxo ?_
      exact q_ret1 rfl rfl ⟨by rw [hc, if_neg (by omega), if_pos h1'], q, rfl⟩
  · have h1' : ¬ common xs ys = xs.length := by omega
    refine sxo ?_
    refine c_if rfl (fun h3 => absurd h3 h1) (fun _ => ?_)
    refine sxo ?_
    refine c_draw (fun w' => w' = (w.drewN q).drew) (.one true 0 (.one true 1 (.one true 2 (.one true 3 (.one true 4 (.one true 5 (.one true 6 (.one true 7 (.one true 8 (.one true 9 (.one true 10 (.one true 11 (.one true 12 (.one true 13 (.one true 14 (.one true 15 .nil)))))))))))))))) mixed (by kernel_rfl) rfl ?_
    refine sxo ?_
    refine l_if rfl (fun h2 => ?_) (fun h2 => ?_)
    · refine sxo ?_
      exact q_ret1 rfl rfl ⟨by rw [hc, if_neg (by omega), if_neg h1', if_pos (.inl (by omega))], q + 1, rfl⟩
    · obtain ⟨ad, rfl⟩ := ha.some (by omega)
      obtain ⟨ad', rfl⟩ := hb.some (by omega)
      refine sxo ?_
      refine c_if rfl (fun h4 => ?_) (fun h4 => ?_)
      · refine sxo ?_
        exact q_ret1 rfl rfl ⟨by rw [hc, if_neg (by omega), if_neg h1', if_pos (.inr h4)], q + 1, rfl⟩
      · refine sxo ?_
        exact q_ret1 rfl rfl ⟨by rw [hc, if_neg (by omega), if_neg h1', if_neg (by rintro (h | h); omega; exact h4 h)], q + 1, rfl⟩
end Go.Sx
