/- A device's script, and places, as a row hands them in. -/
import Derived.Test.YtjbjblhfccddkaaCKB
import Derived.Test.YtjbjblhfccddkaaCTP
namespace Go.Sx
open Go Go.ChangeShapes Go.WideShapes Go.Deep Go.RowKit
structure VOp.good (w : World) (o : VOp) : Prop where
  a : -9223372036854775808 ≤ o.a ∧ o.a ≤ 9223372036854775807
  b : -9223372036854775808 ≤ o.b ∧ o.b ≤ 9223372036854775807
  t : By w o.ta o.tc o.t ∧ o.t.length ≤ Rb
  f : GSl (fun _ (n : Int) => -9223372036854775808 ≤ n ∧ n ≤ 9223372036854775807) 8 w o.fa o.fc o.fs
theorem opc_vo {P : Program} {T Ti Tu Tb Ts Bo : TypeId} (hF : fieldsOf P T = [(Ti, 0), (Ti, 1), (Ti, 2), (Ti, 3), (Tu, 4), (Tb, 5), (Ts, 6), (Bo, 7)]) (hc : P.cellsOf T = 8) (ci : P.cellsOf Ti = 1) (cu : P.cellsOf Tu = 1) (cb : P.cellsOf Tb = 1) (cs : P.cellsOf Ts = 1) (cbo : P.cellsOf Bo = 1)
    (ui : P.underlying Ti = some (.int .i64)) (uu : P.underlying Tu = some (.int .u8)) (ub : P.underlying Tb = some (.slice Tu)) (us : P.underlying Ts = some (.slice Ti)) (ubo : P.underlying Bo = some .bool) (y1 : P.bytesOf Tu = 1) (y8 : P.bytesOf Ti = 8) : OpC P T VOp VOp.good := ⟨fun {_ _ _ _ _ _ _ cs' _} ht hw => by
  obtain ⟨hl, n, hfl⟩ := trod_fields hF (by simp) ht
  rw [hc] at hl
  match cs', hl with
  | [c0, c1, c2, c3, c4, c5, c6, c7], _ =>
    obtain ⟨y0, t0, g0⟩ := hfl 0 _ _ rfl
    obtain ⟨y1', t1, g1⟩ := hfl 1 _ _ rfl
    obtain ⟨y2, t2, g2⟩ := hfl 2 _ _ rfl
    obtain ⟨y3, t3, g3⟩ := hfl 3 _ _ rfl
    obtain ⟨y4, t4, g4⟩ := hfl 4 _ _ rfl
    obtain ⟨y5, t5, g5⟩ := hfl 5 _ _ rfl
    obtain ⟨y6, t6, g6⟩ := hfl 6 _ _ rfl
    obtain ⟨y7, t7, g7⟩ := hfl 7 _ _ rfl
    rw [ci] at t0 t1 t2 t3
    rw [cu] at t4
    rw [cb] at t5
    rw [cs] at t6
    rw [cbo] at t7
    obtain ⟨n0, e0, z0⟩ := open_i64 ui t0
    obtain ⟨n1, e1, z1⟩ := open_i64 ui t1
    obtain ⟨n2, e2, z2⟩ := open_i64 ui t2
    obtain ⟨n3, e3, z3⟩ := open_i64 ui t3
    obtain ⟨n4, e4⟩ := byte_of uu t4
    obtain ⟨s5, e5, z5⟩ := (opc_sb ub uu cu y1).opens t5 (fun m hm => hw m (g5 m hm))
    haveI := opc_int ui
    obtain ⟨sa, sc, ss, e6, z6⟩ := open_sl (α := Int) (good := fun _ n => -9223372036854775808 ≤ n ∧ n ≤ 9223372036854775807) us ci y8 t6 (fun m hm => hw m (g6 m hm))
    obtain ⟨n7, e7⟩ := open_bool ubo t7
    simp only [List.drop_zero, List.take_succ_cons, List.take_zero, List.drop_succ_cons] at e0 e1 e2 e3 e4 e5 e6 e7
    cases e0
    cases e1
    cases e2
    cases e3
    cases e4
    cases e5
    cases e6
    cases e7
    exact ⟨⟨n0, n1, n2, n3, n4, s5.a, s5.c, s5.xs, sa, sc, ss, n7⟩, rfl, z2, z3, z5, z6⟩⟩
abbrev Pl.good (w : World) (o : Pl) : Prop := (-9223372036854775808 ≤ o.n ∧ o.n ≤ 9223372036854775807) ∧ By w o.va o.vc o.vs ∧ o.vs.length ≤ Rb
theorem opc_pl {P : Program} {T Ti Tu Tb : TypeId} (hF : fieldsOf P T = [(Ti, 0), (Tb, 1)]) (hc : P.cellsOf T = 2) (ci : P.cellsOf Ti = 1) (cu : P.cellsOf Tu = 1) (cb : P.cellsOf Tb = 1)
    (ui : P.underlying Ti = some (.int .i64)) (uu : P.underlying Tu = some (.int .u8)) (ub : P.underlying Tb = some (.slice Tu)) (y1 : P.bytesOf Tu = 1) : OpC P T Pl Pl.good := ⟨fun {_ _ _ _ _ _ _ cs' _} ht hw => by
  obtain ⟨hl, n, hfl⟩ := trod_fields hF (by simp) ht
  rw [hc] at hl
  match cs', hl with
  | [c0, c1], _ =>
    obtain ⟨y0, t0, g0⟩ := hfl 0 _ _ rfl
    obtain ⟨y1', t1, g1⟩ := hfl 1 _ _ rfl
    rw [ci] at t0
    rw [cb] at t1
    obtain ⟨n0, e0, z0⟩ := open_i64 ui t0
    obtain ⟨s1, e1, z1⟩ := (opc_sb ub uu cu y1).opens t1 (fun m hm => hw m (g1 m hm))
    simp only [List.drop_zero, List.take_succ_cons, List.take_zero, List.drop_succ_cons] at e0 e1
    cases e0
    cases e1
    exact ⟨⟨n0, s1.a, s1.c, s1.xs⟩, rfl, z0, z1⟩⟩
theorem VOp.good.r {w : World} {o : VOp} (h : VOp.good w o) : RVo w [] o := ⟨h.t.1.r0, h.f.sl.r0, h.a, h.b, by have := h.t.2; simp only [Rb] at this; omega, by have := h.f.sz; simp only [Rb] at this; omega⟩
end Go.Sx
