/- Part of a proof: ranges put in order by their first keys, by Go's own sort. -/
import Derived.Test.YtpnhoafmlhlfgaaCO2
import Derived.Test.YtpnhoafmlhlfgaaCKB
import Derived.Shelf.SlSortCmp.WholeK
namespace Go.Proofs
open Go.Shelf Go.RowKit Go.Lib Go.Sort
def Try.sortRg_ren : Go.Shelf.Ren := ⟨fun | 6 => 67 | 15 => 71 | 14 => 73 | 28 => 82 | 29 => 83 | 20 => 84 | 21 => 85 | 22 => 86 | 23 => 87 | 24 => 88 | 25 => 89 | 26 => 90 | 27 => 91 | 46 => 97 | 47 => 93 | 48 => 94 | 49 => 98 | 50 => 99 | 57 => 101 | n => n, fun | 22 => 89 | 24 => 82 | 25 => 114 | 3 => 3 | 39 => 118 | 0 => 0 | 53 => 129 | 55 => 62 | 4 => 4 | 46 => 122 | 45 => 121 | 50 => 126 | 5 => 5 | 9 => 9 | 66 => 136 | 70 => 140 | 76 => 144 | 77 => 145 | n => n, fun | n => n⟩
theorem Try.sortRg : Go.Proofs.SlLaysF0.n6 Try.prog Try.sortRg_ren := {
  mixed := by kernel_rfl,
  f6 := ⟨Try.f67.name, by decide, Try.func67.trans (congrArg some (by kernel_rfl))⟩,
  f14 := ⟨Try.f73.name, by decide, Try.func73.trans (congrArg some (by kernel_rfl))⟩,
  f15 := Try.func71.trans (congrArg some (by kernel_rfl)),
  f20 := ⟨Try.f84.name, by decide, Try.func84.trans (congrArg some (by kernel_rfl))⟩,
  f21 := ⟨Try.f85.name, by decide, Try.func85.trans (congrArg some (by kernel_rfl))⟩,
  f22 := ⟨Try.f86.name, by decide, Try.func86.trans (congrArg some (by kernel_rfl))⟩,
  f23 := ⟨Try.f87.name, by decide, Try.func87.trans (congrArg some (by kernel_rfl))⟩,
  f24 := ⟨Try.f88.name, by decide, Try.func88.trans (congrArg some (by kernel_rfl))⟩,
  f25 := ⟨Try.f89.name, by decide, Try.func89.trans (congrArg some (by kernel_rfl))⟩,
  f26 := ⟨Try.f90.name, by decide, Try.func90.trans (congrArg some (by kernel_rfl))⟩,
  f27 := ⟨Try.f91.name, by decide, Try.func91.trans (congrArg some (by kernel_rfl))⟩,
  f28 := Try.func82.trans (congrArg some (by kernel_rfl)),
  f29 := Try.func83.trans (congrArg some (by kernel_rfl)),
  f46 := ⟨Try.f97.name, by decide, Try.func97.trans (congrArg some (by kernel_rfl))⟩,
  f47 := Try.func93.trans (congrArg some (by kernel_rfl)),
  f48 := Try.func94.trans (congrArg some (by kernel_rfl)),
  f49 := ⟨Try.f98.name, by decide, Try.func98.trans (congrArg some (by kernel_rfl))⟩,
  f50 := ⟨Try.f99.name, by decide, Try.func99.trans (congrArg some (by kernel_rfl))⟩,
  f57 := ⟨Try.f101.name, by decide, Try.func101.trans (congrArg some (by kernel_rfl))⟩,
  t0 := Try.underlying0,
  a0 := Try.isAgg0,
  z0 := Try.sizeOf0,
  v0 := Try.zeroValue0,
  t3 := Try.underlying3,
  a3 := Try.isAgg3,
  z3 := Try.sizeOf3,
  v3 := Try.zeroValue3,
  t4 := Try.underlying4,
  a4 := Try.isAgg4,
  z4 := Try.sizeOf4,
  v4 := Try.zeroValue4,
  t5 := Try.underlying5,
  a5 := Try.isAgg5,
  z5 := Try.sizeOf5,
  v5 := Try.zeroValue5,
  t9 := Try.underlying9,
  a9 := Try.isAgg9,
  z9 := Try.sizeOf9,
  v9 := Try.zeroValue9,
  t22 := Try.underlying89,
  a22 := Try.isAgg89,
  z22 := Try.sizeOf89,
  v22 := Try.zeroValue89,
  t25 := Try.underlying114,
  a25 := Try.isAgg114,
  z25 := Try.sizeOf114,
  v25 := Try.zeroValue114,
  t39 := Try.underlying118,
  a39 := Try.isAgg118,
  z39 := Try.sizeOf118,
  v39 := Try.zeroValue118,
  t45 := Try.underlying121,
  a45 := Try.isAgg121,
  z45 := Try.sizeOf121,
  v45 := Try.zeroValue121,
  t46 := Try.underlying122,
  a46 := Try.isAgg122,
  z46 := Try.sizeOf122,
  v46 := Try.zeroValue122,
  t50 := Try.underlying126,
  a50 := Try.isAgg126,
  z50 := Try.sizeOf126,
  v50 := Try.zeroValue126,
  t53 := Try.underlying129,
  a53 := Try.isAgg129,
  z53 := Try.sizeOf129,
  v53 := Try.zeroValue129,
  t55 := Try.underlying62,
  a55 := Try.isAgg62,
  z55 := Try.sizeOf62,
  v55 := Try.zeroValue62,
  t66 := Try.underlying136,
  a66 := Try.isAgg136,
  z66 := Try.sizeOf136,
  v66 := Try.zeroValue136,
  t70 := Try.underlying140,
  a70 := Try.isAgg140,
  z70 := Try.sizeOf140,
  v70 := Try.zeroValue140,
  t76 := Try.underlying144,
  a76 := Try.isAgg144,
  z76 := Try.sizeOf144,
  v76 := Try.zeroValue144,
  t77 := Try.underlying145,
  a77 := Try.isAgg145,
  z77 := Try.sizeOf145,
  v77 := Try.zeroValue145 }

end Go.Proofs
namespace Go.Sx
open Go Go.Proofs
set_option maxRecDepth 10000
theorem ex_drewN (w : World) (q : Nat) : Ex w (w.drewN q) := ⟨rfl, rfl, rfl, Nat.le_refl _, fun _ _ _ => rfl⟩
theorem common_x (w : World) (a a' : Option Addr) (c c' : Nat) (xs ys : List UInt8) (ha : By w a c xs) (hb : By w a' c' ys) :
    Fn Try.prog 36 #[.slice a xs.length c, .slice a' ys.length c'] w (fun v w' => v = .int .i64 (common xs ys) ∧ ∃ q, w' = w.drewN q) := by
  have l1 := ha.len
  have l2 := hb.len
  refine fn_enter Try.func36 rfl rfl rfl ?_
  refine sxo ?_
  refine c_loop (fun k : Nat => [(0, .slice a xs.length c), (1, .slice a' ys.length c'), (5, .int .i64 ((min xs.length ys.length : Nat) : Int)), (12, .int .i64 ((min xs.length ys.length : Nat) : Int)), (13, .int .i64 k)])
    (fun k w1 => (∃ q, w1 = w.drewN q) ∧ k ≤ xs.length ∧ k ≤ ys.length ∧ ∀ i, i < k → xs.getD i 0 = ys.getD i 0) (fun k => xs.length - k) 0 (by exact ⟨rfl, rfl, rfl, rfl, rfl, trivial⟩) ⟨⟨0, rfl⟩, Nat.zero_le _, Nat.zero_le _, fun i hi => absurd hi (by omega)⟩ ?_
  rintro k w1 ⟨⟨q, rfl⟩, hk1, hk2, hk⟩
  refine sxo ?_
  refine c_if rfl (fun hlt => ?_) (fun hge => ?_)
  · obtain ⟨ad, rfl⟩ := ha.some (by omega)
    obtain ⟨ad', rfl⟩ := hb.some (by omega)
    have ha1 : By (w.drewN q).drew (some ad) c xs := ha.ex (ex_drewN w (q + 1))
    have hb1 : By (w.drewN q).drew (some ad') c' ys := hb.ex (ex_drewN w (q + 1))
    refine sxo ?_
    refine c_draw (fun w' => w' = (w.drewN q).drew) (.one true 0 (.one true 1 (.one true 2 (.one true 3 (.one true 4 (.one true 5 (.one true 6 (.one true 7 (.one true 8 .nil))))))))) mixed (by kernel_rfl) rfl ?_
    refine sxo ?_
    refine c_ifn rfl (fun hne => ?_) (fun heq => ?_)
    · refine sxo ?_
      refine q_ret1 rfl rfl ⟨?_, q + 1, rfl⟩
      rw [common_eq xs ys k (by omega) (by omega) hk (.inr (.inr hne))]
    · refine sxo ?_
      refine q_again (k + 1) ⟨rfl, rfl, rfl, rfl, rfl, trivial⟩ ⟨⟨q + 1, rfl⟩, by omega, by omega, fun i hi => ?_⟩ (by omega)
      rcases Nat.lt_or_eq_of_le (Nat.lt_succ_iff.1 hi) with h | rfl
      · exact hk i h
      · exact heq
  · refine sxo ?_
    refine q_ret1 rfl rfl ⟨?_, q, rfl⟩
    rw [common_eq xs ys (min xs.length ys.length) (by omega) (by omega) (fun i hi => hk i (by omega)) (by omega)]
theorem compare_x (w : World) (a a' : Option Addr) (c c' : Nat) (xs ys : List UInt8) (ha : By w a c xs) (hb : By w a' c' ys) :
    Fn Try.prog 12 #[.slice a xs.length c, .slice a' ys.length c'] w (fun v w' => v = .int .i64 (cmp xs ys) ∧ ∃ q, w' = w.drewN q) := by
  have l1 := ha.len
  have l2 := hb.len
  have hcl := common_le xs ys
  refine fn_enter Try.func12 rfl rfl rfl ?_
  refine sxo ?_
  refine l_call rfl rfl rfl rfl (common_x w a a' c c' xs ys ha hb) ?_
  rintro _ w2 ⟨rfl, q, rfl⟩
  refine ⟨trivial, ?_⟩
  have ha2 : By (w.drewN q).drew a c xs := ha.ex (ex_drewN w (q + 1))
  have hb2 : By (w.drewN q).drew a' c' ys := hb.ex (ex_drewN w (q + 1))
  refine sxo ?_
  have hc := cmp_common xs ys
  refine l_if rfl (fun h1 => ?_) (fun h1 => ?_)
  · have h1' : common xs ys = xs.length := by omega
    refine sxo ?_
    refine c_if rfl (fun h2 => ?_) (fun h2 => ?_)
    · have h2' : common xs ys = ys.length := by omega
      refine sxo ?_
      exact q_ret1 rfl rfl ⟨by rw [hc, if_pos ⟨h1', h2'⟩], q, rfl⟩
    · refine sxo ?_
      refine c_if rfl (fun _ => ?_) (fun h3 => absurd h1 h3)
      refine sxo ?_
      exact q_ret1 rfl rfl ⟨by rw [hc, if_neg (by omega), if_pos h1'], q, rfl⟩
  · have h1' : ¬ common xs ys = xs.length := by omega
    refine sxo ?_
    refine c_if rfl (fun h3 => absurd h3 h1) (fun _ => ?_)
    refine sxo ?_
    refine c_draw (fun w' => w' = (w.drewN q).drew) (.one true 0 (.one true 1 (.one true 2 (.one true 3 (.one true 4 (.one true 5 (.one true 6 (.one true 7 (.one true 8 (.one true 9 (.one true 10 (.one true 11 (.one true 12 (.one true 13 (.one true 14 (.one true 15 .nil)))))))))))))))) mixed (by kernel_rfl) rfl ?_
    refine sxo ?_
    refine l_if rfl (fun h2 => ?_) (fun h2 => ?_)
    · refine sxo ?_
      exact q_ret1 rfl rfl ⟨by rw [hc, if_neg (by omega), if_neg h1', if_pos (.inl (by omega))], q + 1, rfl⟩
    · obtain ⟨ad, rfl⟩ := ha.some (by omega)
      obtain ⟨ad', rfl⟩ := hb.some (by omega)
      refine sxo ?_
      refine c_if rfl (fun h4 => ?_) (fun h4 => ?_)
      · refine sxo ?_
        exact q_ret1 rfl rfl ⟨by rw [hc, if_neg (by omega), if_neg h1', if_pos (.inr h4)], q + 1, rfl⟩
      · refine sxo ?_
        exact q_ret1 rfl rfl ⟨by rw [hc, if_neg (by omega), if_neg h1', if_neg (by rintro (h | h); omega; exact h4 h)], q + 1, rfl⟩
end Go.Sx
