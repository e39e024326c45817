/- Part of a proof: ranges put in order by their first keys, by Go's own sort. -/
import Derived.Test.YtimakbpghggdfaaGreatCO2
import Derived.Test.YtimakbpghggdfaaGreatCKB
import Derived.Shelf.SlSortCmp.WholeK
namespace Go.Proofs
open Go.Shelf Go.RowKit Go.Lib Go.Sort
def Tryz.sortRg_ren : Go.Shelf.Ren := ⟨fun | 6 => 83 | 15 => 86 | 14 => 107 | 28 => 116 | 29 => 117 | 20 => 137 | 21 => 138 | 22 => 139 | 23 => 140 | 24 => 141 | 25 => 142 | 26 => 143 | 27 => 144 | 46 => 163 | 47 => 146 | 48 => 147 | 49 => 164 | 50 => 165 | 57 => 167 | n => n, fun | 22 => 104 | 24 => 53 | 25 => 132 | 3 => 3 | 39 => 135 | 0 => 0 | 53 => 152 | 55 => 32 | 4 => 4 | 46 => 146 | 45 => 145 | 50 => 92 | 5 => 5 | 9 => 9 | 66 => 169 | 70 => 173 | 76 => 184 | 77 => 185 | n => n, fun | n => n⟩
theorem Tryz.sortRg : Go.Proofs.SlLaysF0.n6 Tryz.prog Tryz.sortRg_ren := {
  mixed := by kernel_rfl,
  f6 := ⟨Tryz.f83.name, by decide, Tryz.func83.trans (congrArg some (by kernel_rfl))⟩,
  f14 := ⟨Tryz.f107.name, by decide, Tryz.func107.trans (congrArg some (by kernel_rfl))⟩,
  f15 := Tryz.func86.trans (congrArg some (by kernel_rfl)),
  f20 := ⟨Tryz.f137.name, by decide, Tryz.func137.trans (congrArg some (by kernel_rfl))⟩,
  f21 := ⟨Tryz.f138.name, by decide, Tryz.func138.trans (congrArg some (by kernel_rfl))⟩,
  f22 := ⟨Tryz.f139.name, by decide, Tryz.func139.trans (congrArg some (by kernel_rfl))⟩,
  f23 := ⟨Tryz.f140.name, by decide, Tryz.func140.trans (congrArg some (by kernel_rfl))⟩,
  f24 := ⟨Tryz.f141.name, by decide, Tryz.func141.trans (congrArg some (by kernel_rfl))⟩,
  f25 := ⟨Tryz.f142.name, by decide, Tryz.func142.trans (congrArg some (by kernel_rfl))⟩,
  f26 := ⟨Tryz.f143.name, by decide, Tryz.func143.trans (congrArg some (by kernel_rfl))⟩,
  f27 := ⟨Tryz.f144.name, by decide, Tryz.func144.trans (congrArg some (by kernel_rfl))⟩,
  f28 := Tryz.func116.trans (congrArg some (by kernel_rfl)),
  f29 := Tryz.func117.trans (congrArg some (by kernel_rfl)),
  f46 := ⟨Tryz.f163.name, by decide, Tryz.func163.trans (congrArg some (by kernel_rfl))⟩,
  f47 := Tryz.func146.trans (congrArg some (by kernel_rfl)),
  f48 := Tryz.func147.trans (congrArg some (by kernel_rfl)),
  f49 := ⟨Tryz.f164.name, by decide, Tryz.func164.trans (congrArg some (by kernel_rfl))⟩,
  f50 := ⟨Tryz.f165.name, by decide, Tryz.func165.trans (congrArg some (by kernel_rfl))⟩,
  f57 := ⟨Tryz.f167.name, by decide, Tryz.func167.trans (congrArg some (by kernel_rfl))⟩,
  t0 := Tryz.underlying0,
  a0 := Tryz.isAgg0,
  z0 := Tryz.sizeOf0,
  v0 := Tryz.zeroValue0,
  t3 := Tryz.underlying3,
  a3 := Tryz.isAgg3,
  z3 := Tryz.sizeOf3,
  v3 := Tryz.zeroValue3,
  t4 := Tryz.underlying4,
  a4 := Tryz.isAgg4,
  z4 := Tryz.sizeOf4,
  v4 := Tryz.zeroValue4,
  t5 := Tryz.underlying5,
  a5 := Tryz.isAgg5,
  z5 := Tryz.sizeOf5,
  v5 := Tryz.zeroValue5,
  t9 := Tryz.underlying9,
  a9 := Tryz.isAgg9,
  z9 := Tryz.sizeOf9,
  v9 := Tryz.zeroValue9,
  t22 := Tryz.underlying104,
  a22 := Tryz.isAgg104,
  z22 := Tryz.sizeOf104,
  v22 := Tryz.zeroValue104,
  t25 := Tryz.underlying132,
  a25 := Tryz.isAgg132,
  z25 := Tryz.sizeOf132,
  v25 := Tryz.zeroValue132,
  t39 := Tryz.underlying135,
  a39 := Tryz.isAgg135,
  z39 := Tryz.sizeOf135,
  v39 := Tryz.zeroValue135,
  t45 := Tryz.underlying145,
  a45 := Tryz.isAgg145,
  z45 := Tryz.sizeOf145,
  v45 := Tryz.zeroValue145,
  t46 := Tryz.underlying146,
  a46 := Tryz.isAgg146,
  z46 := Tryz.sizeOf146,
  v46 := Tryz.zeroValue146,
  t50 := Tryz.underlying92,
  a50 := Tryz.isAgg92,
  z50 := Tryz.sizeOf92,
  v50 := Tryz.zeroValue92,
  t53 := Tryz.underlying152,
  a53 := Tryz.isAgg152,
  z53 := Tryz.sizeOf152,
  v53 := Tryz.zeroValue152,
  t55 := Tryz.underlying32,
  a55 := Tryz.isAgg32,
  z55 := Tryz.sizeOf32,
  v55 := Tryz.zeroValue32,
  t66 := Tryz.underlying169,
  a66 := Tryz.isAgg169,
  z66 := Tryz.sizeOf169,
  v66 := Tryz.zeroValue169,
  t70 := Tryz.underlying173,
  a70 := Tryz.isAgg173,
  z70 := Tryz.sizeOf173,
  v70 := Tryz.zeroValue173,
  t76 := Tryz.underlying184,
  a76 := Tryz.isAgg184,
  z76 := Tryz.sizeOf184,
  v76 := Tryz.zeroValue184,
  t77 := Tryz.underlying185,
  a77 := Tryz.isAgg185,
  z77 := Tryz.sizeOf185,
  v77 := Tryz.zeroValue185 }

end Go.Proofs
namespace Go.Sx
open Go Go.Proofs
set_option maxRecDepth 10000
theorem ex_drewN (w : World) (q : Nat) : Ex w (w.drewN q) := ⟨rfl, rfl, rfl, Nat.le_refl _, fun _ _ _ => rfl⟩
theorem common_x (w : World) (a a' : Option Addr) (c c' : Nat) (xs ys : List UInt8) (ha : By w a c xs) (hb : By w a' c' ys) :
    Fn Tryz.prog 46 #[.slice a xs.length c, .slice a' ys.length c'] w (fun v w' => v = .int .i64 (common xs ys) ∧ ∃ q, w' = w.drewN q) := by
  have l1 := ha.len
  have l2 := hb.len
  refine fn_enter Tryz.func46 rfl rfl rfl ?_
  refine sxo ?_
  refine c_loop (fun k : Nat => [(0, .slice a xs.length c), (1, .slice a' ys.length c'), (5, .int .i64 ((min xs.length ys.length : Nat) : Int)), (12, .int .i64 ((min xs.length ys.length : Nat) : Int)), (13, .int .i64 k)])
    (fun k w1 => (∃ q, w1 = w.drewN q) ∧ k ≤ xs.length ∧ k ≤ ys.length ∧ ∀ i, i < k → xs.getD i 0 = ys.getD i 0) (fun k => xs.length - k) 0 (by exact ⟨rfl, rfl, rfl, rfl, rfl, trivial⟩) ⟨⟨0, rfl⟩, Nat.zero_le _, Nat.zero_le _, fun i hi => absurd hi (by omega)⟩ ?_
  rintro k w1 ⟨⟨q, rfl⟩, hk1, hk2, hk⟩
  refine sxo ?_
  refine c_if rfl (fun hlt => ?_) (fun hge => ?_)
  · obtain ⟨ad, rfl⟩ := ha.some (by omega)
    obtain ⟨ad', rfl⟩ := hb.some (by omega)
    have ha1 : By (w.drewN q).drew (some ad) c xs := ha.ex (ex_drewN w (q + 1))
    have hb1 : By (w.drewN q).drew (some ad') c' ys := hb.ex (ex_drewN w (q + 1))
    refine sxo ?_
    refine c_draw (fun w' => w' = (w.drewN q).drew) (.one true 0 (.one true 1 (.one true 2 (.one true 3 (.one true 4 (.one true 5 (.one true 6 (.one true 7 (.one true 8 .nil))))))))) mixed (by kernel_rfl) rfl ?_
    refine sxo ?_
    refine c_ifn rfl (fun hne => ?_) (fun heq => ?_)
    · refine sxo ?_
      refine q_ret1 rfl rfl ⟨?_, q + 1, rfl⟩
      rw [common_eq xs ys k (by omega) (by omega) hk (.inr (.inr hne))]
    · refine sxo ?_
      refine q_again (k + 1) ⟨rfl, rfl, rfl, rfl, rfl, trivial⟩ ⟨⟨q + 1, rfl⟩, by omega, by omega, fun i hi => ?_⟩ (by omega)
      rcases Nat.lt_or_eq_of_le (Nat.lt_succ_iff.1 hi) with h | rfl
      · exact hk i h
      · exact heq
  · refine sxo ?_
    refine q_ret1 rfl rfl ⟨?_, q, rfl⟩
    rw [common_eq xs ys (min xs.length ys.length) (by omega) (by omega) (fun i hi => hk i (by omega)) (by omega)]
theorem compare_x (w : World) (a a' : Option Addr) (c c' : Nat) (xs ys : List UInt8) (ha : By w a c xs) (hb : By w a' c' ys) :
    Fn Tryz.prog 15 #[.slice a xs.length c, .slice a' ys.length c'] w (fun v w' => v = .int .i64 (cmp xs ys) ∧ ∃ q, w' = w.drewN q) := by
  have l1 := ha.len
  have l2 := hb.len
  have hcl := common_le xs ys
  refine fn_enter Tryz.func15 rfl rfl rfl ?_
  refine sxo ?_
  refine l_call rfl rfl rfl rfl (common_x w a a' c c' xs ys ha hb) ?_
  rintro _ w2 ⟨rfl, q, rfl⟩
  refine ⟨trivial, ?_⟩
  have ha2 : By (w.drewN q).drew a c xs := ha.ex (ex_drewN w (q + 1))
  have hb2 : By (w.drewN q).drew a' c' ys := hb.ex (ex_drewN w (q + 1))
  refine sxo ?_
  have hc := cmp_common xs ys
  refine l_if rfl (fun h1 => ?_) (fun h1 => ?_)
  · have h1' : common xs ys = xs.length := by omega
    refine sxo ?_
    refine c_if rfl (fun h2 => ?_) (fun h2 => ?_)
    · have h2' : common xs ys = ys.length := by omega
      refine sxo ?_
      exact q_ret1 rfl rfl ⟨by rw [hc, if_pos ⟨h1', h2'⟩], q, rfl⟩
    · refine sxo ?_
      refine c_if rfl (fun _ => ?_) (fun h3 => absurd h1 h3)
      refine sxo ?_
      exact q_ret1 rfl rfl ⟨by rw [hc, if_neg (by omega), if_pos h1'], q, rfl⟩
  · have h1' : ¬ common xs ys = xs.length := by omega
    refine sxo ?_
    refine c_if rfl (fun h3 => absurd h3 h1) (fun _ => ?_)
    refine sxo ?_
    refine c_draw (fun w' => w' = (w.drewN q).drew) (.one true 0 (.one true 1 (.one true 2 (.one true 3 (.one true 4 (.one true 5 (.one true 6 (.one true 7 (.one true 8 (.one true 9 (.one true 10 (.one true 11 (.one true 12 (.one true 13 (.one true 14 (.one true 15 .nil)))))))))))))))) mixed (by kernel_rfl) rfl ?_
    refine sxo ?_
    refine l_if rfl (fun h2 => ?_) (fun h2 => ?_)
    · refine sxo ?_
      exact q_ret1 rfl rfl ⟨by rw [hc, if_neg (by omega), if_neg h1', if_pos (.inl (by omega))], q + 1, rfl⟩
    · obtain ⟨ad, rfl⟩ := ha.some (by omega)
      obtain ⟨ad', rfl⟩ := hb.some (by omega)
      refine sxo ?_
      refine c_if rfl (fun h4 => ?_) (fun h4 => ?_)
      · refine sxo ?_
        exact q_ret1 rfl rfl ⟨by rw [hc, if_neg (by omega), if_neg h1', if_pos (.inr h4)], q + 1, rfl⟩
      · refine sxo ?_
        exact q_ret1 rfl rfl ⟨by rw [hc, if_neg (by omega), if_neg h1', if_neg (by rintro (h | h); omega; exact h4 h)], q + 1, rfl⟩
end Go.Sx
