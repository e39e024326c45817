/- A script's calls, as a row hands them in. -/
import Derived.Test.YtceandgmpcpmfaaCR4
import Derived.Test.YtceandgmpcpmfaaCDI
namespace Go.Sx
open Go Go.ChangeShapes Go.WideShapes Go.Deep Go.RowKit
abbrev DOp.good (w : World) (o : DOp) : Prop := (-9223372036854775808 ≤ o.on ∧ o.on ≤ 9223372036854775807) ∧ GSl (fun _ (n : U64) => 0 ≤ n.n ∧ n.n ≤ 18446744073709551615) 8 w o.sa o.sc o.ss
theorem opc_op {P : Program} {T Ti Tl Tu Ts : TypeId} (hF : fieldsOf P T = [(Ti, 0), (Ti, 1), (Tl, 2), (Ts, 5), (Tu, 6)]) (hc : P.cellsOf T = 7) (ci : P.cellsOf Ti = 1) (cl : P.cellsOf Tl = 3) (cu : P.cellsOf Tu = 1) (cs : P.cellsOf Ts = 1)
    (ui : P.underlying Ti = some (.int .i64)) (us : P.underlying Ts = some (.slice Tu)) (uu : P.underlying Tu = some (.int .u64)) (y8 : P.bytesOf Tu = 8) (lf : OpC P Tl Lf Lf.good) : OpC P T DOp DOp.good := ⟨fun {_ _ _ _ _ _ _ cs' _} ht hw => by
  obtain ⟨hl, n, hfl⟩ := trod_fields hF (by simp) ht
  rw [hc] at hl
  match cs', hl with
  | [c0, c1, c2, c3, c4, c5, c6], _ =>
    obtain ⟨y0, t0, g0⟩ := hfl 0 _ _ rfl
    obtain ⟨y1, t1, g1⟩ := hfl 1 _ _ rfl
    obtain ⟨y2, t2, g2⟩ := hfl 2 _ _ rfl
    obtain ⟨y3, t3, g3⟩ := hfl 3 _ _ rfl
    obtain ⟨y4, t4, g4⟩ := hfl 4 _ _ rfl
    rw [ci] at t0 t1
    rw [cl] at t2
    rw [cs] at t3
    rw [cu] at t4
    obtain ⟨n0, e0, z0⟩ := open_i64 ui t0
    obtain ⟨n1, e1, z1⟩ := open_i64 ui t1
    obtain ⟨x, e2, z2⟩ := lf.opens t2 (fun m hm => hw m (g2 m hm))
    haveI := opc_u64 uu
    obtain ⟨sa, sc, ss, e3, z3⟩ := open_sl (α := U64) (good := fun _ n => 0 ≤ n.n ∧ n.n ≤ 18446744073709551615) us cu y8 t3 (fun m hm => hw m (g3 m hm))
    obtain ⟨n4, e4, z4⟩ := open_u64 uu t4
    simp only [List.drop_zero, List.take_succ_cons, List.take_zero, List.drop_succ_cons] at e0 e1 e2 e3 e4
    cases e0
    cases e1
    cases e2
    cases e3
    cases e4
    exact ⟨⟨n0, n1, x, sa, sc, ss, n4⟩, rfl, z1, z3⟩⟩
end Go.Sx
