/- Part of a proof: walks through functions of the program, in the words of the calculus of the texts Sx. -/
import Derived.Test.YtbkaabjjmoaijaaCL3
namespace Go.Sx
open Go Go.Proofs
set_option maxRecDepth 10000

theorem told_go (w : World) (a : Option Addr) (c : Nat) (xs : Bs) (ha : By w a c xs) (h2 : 2 ≤ xs.length) :
    Fn Try.prog 54 #[.slice a xs.length c] w (fun v w' => v = .int .i64 (((xs.getD 0 0).toNat * 256 + (xs.getD 1 0).toNat : Nat) : Int) ∧ Ex w w') := by
  have l1 := ha.len
  obtain ⟨ad, rfl⟩ := ha.some (by omega)
  have hb0 := (xs.getD 0 0).toNat_lt
  have hb1 := (xs.getD 1 0).toNat_lt
  refine fn_enter Try.func54 rfl rfl rfl ?_
  refine sxo ?_
  refine c_dr (fun _ => False) (.one true 0 (.one true 1 (.one true 2 (.one true 3 (.one true 4 (.one true 5 (.one true 6 (.one true 7 (.one true 8 (.one true 9 (.one true 10 .nil))))))))))) mixed (by kernel_rfl) ?_
  intro w2 hE2 hh
  refine sxo ?_
  exact q_ret1 rfl rfl ⟨ci (by omega), hE2⟩

theorem equal_go (w : World) (a a' : Option Addr) (c c' : Nat) (xs ys : Bs) (ha : By w a c xs) (hb : By w a' c' ys) :
    Fn Try.prog 52 #[.slice a xs.length c, .slice a' ys.length c'] w (fun v w' => v = .bool (decide (xs = ys)) ∧ w' = w) := by
  refine fn_enter Try.func52 rfl rfl rfl ?_
  refine sxo ?_
  exact q_ret1 rfl rfl ⟨rfl, rfl⟩

/-- A copy of bytes in new memory. -/
def CopyPost (w : World) (xs : Bs) (v : Value) (w' : World) : Prop := ∃ a c, v = .slice a xs.length c ∧ Ex w w' ∧ OwB w' w.heap.size 5 a c xs

theorem clone_go (w : World) (a : Option Addr) (c : Nat) (xs : Bs) (ha : By w a c xs) (hx : xs.length ≤ 140737488355328) :
    Fn Try.prog 73 #[.slice a xs.length c] w (CopyPost w xs) := by
  refine fn_enter Try.func73 rfl rfl rfl ?_
  refine sxo ?_
  refine c_cond rfl (fun t => ?_) (fun t => ?_)
  · obtain rfl : a = none := by simpa using t
    have := ha.nil rfl
    have := ha.le
    obtain rfl : xs = [] := List.eq_nil_of_length_eq_zero (by omega)
    refine sxo ?_
    exact q_ret1 rfl rfl ⟨none, 0, rfl, Ext.refl w, Own.nil ..⟩
  · refine sxo ?_
    refine l_bsl rfl rfl rfl rfl (by rfl) (by rfl) (by rfl) ?_
    intro b w1 hN
    refine ⟨trivial, ?_⟩
    have hO : OwB w1 w.heap.size 5 (some ⟨b, 0, none⟩) 0 [] := Own.mk (rest := []) (by have := hN.at_; omega) hN.hb rfl (Nat.le_refl _) (Nat.zero_le _) rfl
    have hS := hN.ex.size
    refine sxo ?_
    refine l_appB rfl rfl rfl rfl rfl rfl hO (ha.ex hN.ex).src ha.nil rfl (by simpa using hx) hS ?_
    intro a' c' w2 hO2 hG
    refine ⟨trivial, ?_⟩
    refine sxo ?_
    exact q_ret1 rfl rfl ⟨a', c', rfl, hG.ex0 hN.ex hO (Nat.le_refl _), hO2⟩

/-- An entry whose key and value are of one's own, in blocks of their own. -/
structure KO (w : World) (B : Nat) (e : KV) : Prop where
  k : OwB w B 5 e.ka e.kc e.k
  v : OwB w B 5 e.va e.vc e.v
  dj : ∀ i, blk e.ka = some i → blk e.va = some i → False
def EntPost (w : World) (e : KV) (v : Value) (w' : World) : Prop := ∃ e' : KV, v = .agg e'.cells.toArray ∧ e'.p = e.p ∧ Ex w w' ∧ KO w' w.heap.size e'

theorem copied_go (w : World) (e : KV) (hk : By w e.ka e.kc e.k) (hv : By w e.va e.vc e.v) (hl : e.k.length + e.v.length ≤ 140737488355328) :
    Fn Try.prog 58 #[.agg e.cells.toArray] w (EntPost w e) := by
  refine fn_enter Try.func58 rfl rfl rfl ?_
  refine sxo ?_
  refine l_box rfl rfl rfl rfl ?_
  intro b w1 hN
  refine ⟨trivial, ?_⟩
  have hB : HB w1 b 47 e.cells := hN.hb
  refine sxo ?_
  refine l_alloc rfl rfl rfl ?_
  intro b2 w2 hN2
  refine ⟨trivial, ?_⟩
  have hB2 : HB w2 b2 47 [.slice none 0 0, .slice none 0 0] := hN2.hb
  have hB' := hB.ex hN2.ex
  have hE2 := hN.ex.trans hN2.ex
  refine sxo ?_
  refine c_dr (fun i => i = b2) (.one true 0 (.one true 1 (.one true 3 (.one true 4 (.one false 2 (.one false 5 (.one true 6 (.one false 7 .nil)))))))) mixed (by kernel_rfl) ?_
  intro w3 hE3 hh
  have hs2 := hB2.lt
  have hng : ¬ b = b2 := by have := hN2.at_; have := hN.at_; have := hN.hb.lt; omega
  have hE03 := hE2.trans hE3
  refine sxo ?_
  refine l_call rfl rfl rfl rfl (clone_go w3 _ _ _ (hk.ex hE03) (by omega)) ?_
  rintro _ w4 ⟨a4, c4, rfl, hE4, hO4⟩
  refine ⟨(hE3.trans hE4).ext, ?_⟩
  have hE04 := hE03.trans hE4
  refine sxo ?_
  refine l_call rfl rfl rfl rfl (clone_go w4 _ _ _ (hv.ex hE04) (by omega)) ?_
  rintro _ w5 ⟨a5, c5, rfl, hE5, hO5⟩
  refine ⟨((hE3.trans hE4).trans hE5).ext, ?_⟩
  have hE05 := hE04.trans hE5
  refine l_y rfl rfl (y_build (cs := [.slice a4 e.k.length c4, .slice a5 e.v.length c5]) rfl (fun _ => by kernel_rfl)) ?_
  have hB5 := ((hB2.ex hE3).ex hE4).ex hE5
  refine l_storeA (o := 0) rfl rfl rfl rfl hB5 (Nat.le_refl _) rfl rfl ?_
  intro w6 hB6 hX6 hS6
  have hat := hN2.at_
  have hsz := hE2.size
  have hs1 := hN.ex.size
  have hs3 := hE3.size
  have hs4 := hE4.size
  have hE06 : Ex w w6 := hE05.fresh hX6 (by intro i hi h; subst h; omega)
  refine ⟨?_, ?_⟩
  · exact (((hE3.trans hE4).trans hE5).ext).trans hX6
  refine sxo ?_
  refine q_retc (vs := [.slice a4 e.k.length c4, .slice a5 e.v.length c5]) rfl rfl hB6 rfl ⟨⟨a4, c4, e.k, a5, c5, e.v⟩, rfl, rfl, hE06, ?_, ?_, ?_⟩
  · exact ((hO4.ex hE5).ext hX6 (fun ad h h' => by subst h; have := hO4.ge; omega)).mono (by omega)
  · exact (hO5.ext hX6 (fun ad h h' => by subst h; have := hO5.ge; have := hB5.lt; omega)).mono (by have := hE04.size; omega)
  · intro i h1 h2
    have h3 := hO5.out (i := i)
    cases a4 with
    | none => cases h1
    | some ad4 =>
      have := hO4.ge
      simp only [blk, Option.map_some, Option.some.injEq] at h1
      exact h3 (by omega) h2
end Go.Sx
