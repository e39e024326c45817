/- Lives and numbers without a sign, as a row hands them in. -/
import Derived.Test.YtceandgmpcpmfaaCKB
import Derived.Test.YtceandgmpcpmfaaCD2
namespace Go.Sx
open Go Go.ChangeShapes Go.WideShapes Go.Deep Go.RowKit
section
variable {H : Type} {enc : TypeId × Value → H} {w : World} {base : Nat} {spare : Nat → Bool} {held : Bool} {P : Program}
theorem open_u64 {T fuel : Nat} {cs : List Value} {x : DataW H × List MemPlace} (ht : P.underlying T = some (.int .u64)) (h : DataW.trod enc P w base spare held fuel T cs = some x) : ∃ n : Int, cs = [.int .u64 n] ∧ 0 ≤ n ∧ n ≤ 18446744073709551615 := by
  obtain ⟨n, rfl, _, hw⟩ := DataW.trod_int ht h
  simp only [Lit.wf, IntKind.min, IntKind.max, IntKind.signed, IntKind.bits, Bool.and_eq_true] at hw
  have h1 := hw.1
  have h2 := hw.2
  simp at h1 h2
  exact ⟨n, rfl, by omega, by omega⟩
end
theorem opc_u64 {P : Program} {T : TypeId} (h : P.underlying T = some (.int .u64)) : OpC P T U64 (fun _ n => 0 ≤ n.n ∧ n.n ≤ 18446744073709551615) := ⟨fun ht _ => by
  obtain ⟨n, rfl, h1, h2⟩ := open_u64 h ht
  exact ⟨⟨n⟩, rfl, h1, h2⟩⟩
abbrev Lf.good (_ : World) (x : Lf) : Prop := (-9223372036854775808 ≤ x.p ∧ x.p ≤ 9223372036854775807) ∧ (0 ≤ x.b ∧ x.b ≤ 18446744073709551615) ∧ (0 ≤ x.d ∧ x.d ≤ 18446744073709551615)
theorem opc_lf {P : Program} {T Ti Tu : TypeId} (hF : fieldsOf P T = [(Ti, 0), (Tu, 1), (Tu, 2)]) (hc : P.cellsOf T = 3) (hi : P.cellsOf Ti = 1) (hu : P.cellsOf Tu = 1) (ui : P.underlying Ti = some (.int .i64)) (uu : P.underlying Tu = some (.int .u64)) :
    OpC P T Lf Lf.good := ⟨fun {_ _ _ _ _ _ _ cs _} ht hw => by
  obtain ⟨hl, n, hfl⟩ := trod_fields hF (by simp) ht
  rw [hc] at hl
  match cs, hl with
  | [c0, c1, c2], _ =>
    obtain ⟨y0, t0, g0⟩ := hfl 0 _ _ rfl
    obtain ⟨y1, t1, g1⟩ := hfl 1 _ _ rfl
    obtain ⟨y2, t2, g2⟩ := hfl 2 _ _ rfl
    rw [hi] at t0
    rw [hu] at t1 t2
    obtain ⟨n0, e0, z0⟩ := open_i64 ui t0
    obtain ⟨n1, e1, z1⟩ := open_u64 uu t1
    obtain ⟨n2, e2, z2⟩ := open_u64 uu t2
    simp only [List.drop_zero, List.take_succ_cons, List.take_zero, List.drop_succ_cons] at e0 e1 e2
    cases e0
    cases e1
    cases e2
    exact ⟨⟨n0, n1, n2⟩, rfl, z0, z1, z2⟩⟩
end Go.Sx
