/- Part of a proof: walks through functions of the program, in the words of the calculus of the texts Sx. -/
import Derived.Test.YtbkaabjjmoaijaaCKB
namespace Go.Sx
open Go Go.Proofs
set_option maxRecDepth 10000

theorem common_go (w : World) (a a' : Option Addr) (c c' : Nat) (xs ys : List UInt8) (ha : By w a c xs) (hb : By w a' c' ys) :
    Fn Try.prog 74 #[.slice a xs.length c, .slice a' ys.length c'] w (fun v w' => v = .int .i64 (common xs ys) ∧ Ex w w') := by
  have l1 := ha.len
  have l2 := hb.len
  refine fn_enter Try.func74 rfl rfl rfl ?_
  refine sxo ?_
  refine c_loop (fun k : Nat => [(0, .slice a xs.length c), (1, .slice a' ys.length c'), (5, .int .i64 ((min xs.length ys.length : Nat) : Int)), (12, .int .i64 ((min xs.length ys.length : Nat) : Int)), (13, .int .i64 k)])
    (fun k w1 => Ex w w1 ∧ k ≤ xs.length ∧ k ≤ ys.length ∧ ∀ i, i < k → xs.getD i 0 = ys.getD i 0) (fun k => xs.length - k) 0 (by exact ⟨rfl, rfl, rfl, rfl, rfl, trivial⟩) ⟨Ext.refl w, Nat.zero_le _, Nat.zero_le _, fun i hi => absurd hi (by omega)⟩ ?_
  rintro k w1 ⟨hE, hk1, hk2, hk⟩
  refine sxo ?_
  refine c_if rfl (fun hlt => ?_) (fun hge => ?_)
  · obtain ⟨ad, rfl⟩ := ha.some (by omega)
    obtain ⟨ad', rfl⟩ := hb.some (by omega)
    have ha1 := ha.ex hE
    have hb1 := hb.ex hE
    refine sxo ?_
    refine c_dr (fun _ => False) (.one true 0 (.one true 1 (.one true 2 (.one true 3 (.one true 4 (.one true 5 (.one true 6 (.one true 7 (.one true 8 .nil))))))))) mixed (by kernel_rfl) ?_
    intro w2 hE2 hh
    refine sxo ?_
    refine c_ifn rfl (fun hne => ?_) (fun heq => ?_)
    · refine sxo ?_
      refine q_ret1 rfl rfl ⟨?_, hE.trans hE2⟩
      rw [common_eq xs ys k (by omega) (by omega) hk (.inr (.inr hne))]
    · refine sxo ?_
      refine q_again (k + 1) ⟨rfl, rfl, rfl, rfl, rfl, trivial⟩ ⟨hE.trans hE2, by omega, by omega, fun i hi => ?_⟩ (by omega)
      rcases Nat.lt_or_eq_of_le (Nat.lt_succ_iff.1 hi) with h | rfl
      · exact hk i h
      · exact heq
  · refine sxo ?_
    refine q_ret1 rfl rfl ⟨?_, hE⟩
    rw [common_eq xs ys (min xs.length ys.length) (by omega) (by omega) (fun i hi => hk i (by omega)) (by omega)]

theorem compare_go (w : World) (a a' : Option Addr) (c c' : Nat) (xs ys : List UInt8) (ha : By w a c xs) (hb : By w a' c' ys) :
    Fn Try.prog 69 #[.slice a xs.length c, .slice a' ys.length c'] w (fun v w' => v = .int .i64 (cmp xs ys) ∧ Ex w w') := by
  have l1 := ha.len
  have l2 := hb.len
  have hcl := common_le xs ys
  refine fn_enter Try.func69 rfl rfl rfl ?_
  refine sxo ?_
  refine l_call rfl rfl rfl rfl (common_go w a a' c c' xs ys ha hb) ?_
  rintro _ w2 ⟨rfl, hE2⟩
  refine ⟨trivial, ?_⟩
  have ha2 := ha.ex hE2
  have hb2 := hb.ex hE2
  refine sxo ?_
  have hc := cmp_common xs ys
  refine l_if rfl (fun h1 => ?_) (fun h1 => ?_)
  · have h1' : common xs ys = xs.length := by omega
    refine sxo ?_
    refine c_if rfl (fun h2 => ?_) (fun h2 => ?_)
    · have h2' : common xs ys = ys.length := by omega
      refine sxo ?_
      exact q_ret1 rfl rfl ⟨by rw [hc, if_pos ⟨h1', h2'⟩], hE2⟩
    · refine sxo ?_
      refine c_if rfl (fun _ => ?_) (fun h3 => absurd h1 h3)
      refine sxo ?_
      exact q_ret1 rfl rfl ⟨by rw [hc, if_neg (by omega), if_pos h1'], hE2⟩
  · have h1' : ¬ common xs ys = xs.length := by omega
    refine sxo ?_
    refine c_if rfl (fun h3 => absurd h3 h1) (fun _ => ?_)
    refine sxo ?_
    refine c_dr (fun _ => False) (.one true 0 (.one true 1 (.one true 2 (.one true 3 (.one true 4 (.one true 5 (.one true 6 (.one true 7 (.one true 8 (.one true 9 (.one true 10 (.one true 11 (.one true 12 (.one true 13 (.one true 14 (.one true 15 .nil)))))))))))))))) mixed (by kernel_rfl) ?_
    intro w3 hE3 hh
    refine sxo ?_
    refine l_if rfl (fun h2 => ?_) (fun h2 => ?_)
    · refine sxo ?_
      exact q_ret1 rfl rfl ⟨by rw [hc, if_neg (by omega), if_neg h1', if_pos (.inl (by omega))], hE2.trans hE3⟩
    · obtain ⟨ad, rfl⟩ := ha.some (by omega)
      obtain ⟨ad', rfl⟩ := hb.some (by omega)
      refine sxo ?_
      refine c_if rfl (fun h4 => ?_) (fun h4 => ?_)
      · refine sxo ?_
        exact q_ret1 rfl rfl ⟨by rw [hc, if_neg (by omega), if_neg h1', if_pos (.inr h4)], hE2.trans hE3⟩
      · refine sxo ?_
        exact q_ret1 rfl rfl ⟨by rw [hc, if_neg (by omega), if_neg h1', if_neg (by rintro (h | h); omega; exact h4 h)], hE2.trans hE3⟩

/-- A range, as a struct's cells. -/
structure Rg where
  la : Option Addr
  lc : Nat
  lo : Bs
  ha : Option Addr
  hc : Nat
  hi : Bs
  all : Bool
def Rg.cells (r : Rg) : List Value := [.slice r.la r.lo.length r.lc, .slice r.ha r.hi.length r.hc, .bool r.all]
def Rg.v (r : Rg) : Value := .agg #[.slice r.la r.lo.length r.lc, .slice r.ha r.hi.length r.hc, .bool r.all]
structure Rg.ok (r : Rg) (w : World) : Prop where
  lo : By w r.la r.lc r.lo
  hi : By w r.ha r.hc r.hi
theorem Rg.ok.ex {r : Rg} {w w' : World} (h : r.ok w) (he : Ex w w') : r.ok w' := ⟨h.lo.ex he, h.hi.ex he⟩
def hasR (lo hi : Bs) (all : Bool) (k : Bs) : Bool := decide (0 ≤ cmp k lo) && (all || decide (cmp k hi < 0))

theorem has_go (w : World) (r : Rg) (hr : r.ok w) (a : Option Addr) (c : Nat) (ks : Bs) (ha : By w a c ks) :
    Fn Try.prog 57 #[r.v, .slice a ks.length c] w (fun v w' => v = .bool (hasR r.lo r.hi r.all ks) ∧ Ex w w') := by
  refine fn_enter Try.func57 rfl rfl rfl ?_
  refine sxo ?_
  refine l_box rfl rfl rfl rfl ?_
  intro b w1 hN
  refine ⟨trivial, ?_⟩
  have hB : HB w1 b 49 r.cells := hN.hb
  have hE1 := hN.ex
  have hr1 := hr.ex hE1
  have ha1 := ha.ex hE1
  refine sxo ?_
  refine l_call rfl rfl rfl rfl (compare_go w1 _ _ _ _ _ _ ha1 hr1.lo) ?_
  rintro _ w2 ⟨rfl, hE2⟩
  refine ⟨trivial, ?_⟩
  have hB2 := hB.ex hE2
  have hr2 := hr1.ex hE2
  have ha2 := ha1.ex hE2
  refine sxo ?_
  refine l_if rfl (fun h1 => ?_) (fun h1 => ?_)
  · refine sxo ?_
    refine l_sp rfl (fun h2 => ?_) (fun h2 => ?_)
    · refine sxo ?_
      exact q_ret1 rfl rfl ⟨by simp [hasR, h1, h2], hE1.trans hE2⟩
    · refine sxo ?_
      refine l_call rfl rfl rfl rfl (compare_go w2 _ _ _ _ _ _ ha2 hr2.hi) ?_
      rintro _ w3 ⟨rfl, hE3⟩
      refine ⟨trivial, ?_⟩
      refine sxo ?_
      refine q_ret1 rfl rfl ?_
      exact ⟨by simp [hasR, h1, h2], (hE1.trans hE2).trans hE3⟩
  · refine sxo ?_
    exact q_ret1 rfl rfl ⟨by simp [hasR, h1], hE1.trans hE2⟩

def sizedL (s : Int) : Bool := decide (s = 512) || decide (s = 1024) || decide (s = 2048) || decide (s = 4096)
theorem sized_go (w : World) (s : Int) : Fn Try.prog 48 #[.int .i64 s] w (fun v w' => v = .bool (sizedL s) ∧ w' = w) := by
  refine fn_enter Try.func48 rfl rfl rfl ?_
  refine sxo ?_
  refine l_if rfl (fun h1 => ?_) (fun h1 => ?_)
  · refine sxo ?_
    exact q_ret1 rfl rfl ⟨by simp [sizedL, h1], rfl⟩
  · refine sxo ?_
    refine l_if rfl (fun h2 => ?_) (fun h2 => ?_)
    · refine sxo ?_
      exact q_ret1 rfl rfl ⟨by simp [sizedL, h2], rfl⟩
    · refine sxo ?_
      refine l_if rfl (fun h3 => ?_) (fun h3 => ?_)
      · refine sxo ?_
        exact q_ret1 rfl rfl ⟨by simp [sizedL, h3], rfl⟩
      · refine sxo ?_
        exact q_ret1 rfl rfl ⟨by simp [sizedL, h1, h2, h3], rfl⟩
end Go.Sx
