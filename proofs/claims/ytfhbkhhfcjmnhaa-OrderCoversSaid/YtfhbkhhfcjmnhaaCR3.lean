/- Ranges as data (seats without leaf). -/
import Derived.Test.YtfhbkhhfcjmnhaaCKB
import Derived.Test.YtfhbkhhfcjmnhaaCO2
namespace Go.Sx
open Go Go.ChangeShapes Go.WideShapes Go.Deep Go.RowKit
abbrev Rg.good (w : World) (r : Rg) : Prop := (By w r.la r.lc r.lo ∧ By w r.ha r.hc r.hi) ∧ r.lo.length ≤ Rb ∧ r.hi.length ≤ Rb
theorem opc_rg {P : Program} {T Tb Eb Bo : TypeId} (hF : fieldsOf P T = [(Tb, 0), (Tb, 1), (Bo, 2)]) (hc : P.cellsOf T = 3) (hb : P.cellsOf Tb = 1) (hbo : P.cellsOf Bo = 1) (h : P.underlying Tb = some (.slice Eb)) (he : P.underlying Eb = some (.int .u8)) (hC : P.cellsOf Eb = 1) (hY : P.bytesOf Eb = 1) (hB : P.underlying Bo = some .bool) :
    OpC P T Rg Rg.good := ⟨fun {_ _ _ _ _ _ _ cs _} ht hw => by
  obtain ⟨hl, n, hfl⟩ := trod_fields hF (by simp) ht
  rw [hc] at hl
  match cs, hl with
  | [c0, c1, c2], _ =>
    obtain ⟨y0, t0, g0⟩ := hfl 0 _ _ rfl
    obtain ⟨y1, t1, g1⟩ := hfl 1 _ _ rfl
    obtain ⟨y2, t2, g2⟩ := hfl 2 _ _ rfl
    rw [hb] at t0 t1
    rw [hbo] at t2
    obtain ⟨s0, e0, b0, z0⟩ := (opc_sb h he hC hY).opens t0 (fun m hm => hw m (g0 m hm))
    obtain ⟨s1, e1, b1, z1⟩ := (opc_sb h he hC hY).opens t1 (fun m hm => hw m (g1 m hm))
    obtain ⟨b, e2⟩ := open_bool hB t2
    simp only [List.drop_zero, List.take_succ_cons, List.take_zero, List.drop_succ_cons] at e0 e1 e2
    cases e0
    cases e1
    cases e2
    exact ⟨⟨s0.a, s0.c, s0.xs, s1.a, s1.c, s1.xs, b⟩, rfl, ⟨b0, b1⟩, z0, z1⟩⟩
end Go.Sx
