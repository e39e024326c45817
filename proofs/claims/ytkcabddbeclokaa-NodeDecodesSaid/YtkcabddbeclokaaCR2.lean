/- Children as a row hands them in. -/
import Derived.Test.YtkcabddbeclokaaCKB
import Derived.Test.YtkcabddbeclokaaCB0
namespace Go.Sx
open Go Go.ChangeShapes Go.WideShapes Go.Deep Go.RowKit
/-- What is good of children. -/
structure Kd.good (w : World) (k : Kd) : Prop where
  r : RKd w [] k
  n : ∀ n ∈ k.ps, I64 n
  pz : k.ps.length * 8 ≤ Rb
  kz : k.ks.length * 24 ≤ Rb
  el : ∀ p ∈ k.ks, p.xs.length ≤ Rb
theorem opc_kd {P : Program} {T Tp Tk E Tb Eb : TypeId} (hF : fieldsOf P T = [(Tp, 0), (Tk, 1)]) (hc : P.cellsOf T = 2) (hp : P.underlying Tp = some (.slice E)) (cp : P.cellsOf Tp = 1) (he : P.underlying E = some (.int .i64)) (ce : P.cellsOf E = 1) (ye : P.bytesOf E = 8)
    (hk : P.underlying Tk = some (.slice Tb)) (ck : P.cellsOf Tk = 1) (cb : P.cellsOf Tb = 1) (yb : P.bytesOf Tb = 24) (h : P.underlying Tb = some (.slice Eb)) (hb : P.underlying Eb = some (.int .u8)) (hC : P.cellsOf Eb = 1) (hY : P.bytesOf Eb = 1) : OpC P T Kd Kd.good := ⟨fun {_ _ _ _ _ _ _ cs _} ht hw => by
  obtain ⟨hl, n, hfl⟩ := trod_fields hF (by simp) ht
  rw [hc] at hl
  match cs, hl with
  | [c0, c1], _ =>
    obtain ⟨y0, t0, g0⟩ := hfl 0 _ _ rfl
    obtain ⟨y1, t1, g1⟩ := hfl 1 _ _ rfl
    rw [cp] at t0
    rw [ck] at t1
    haveI := opc_int he
    haveI := opc_sb h hb hC hY
    obtain ⟨a0, n0, ps, e0, z0⟩ := open_sl (α := Int) (good := fun _ n => -9223372036854775808 ≤ n ∧ n ≤ 9223372036854775807) hp ce ye t0 (fun m hm => hw m (g0 m hm))
    obtain ⟨a1, n1, ks, e1, z1⟩ := open_sl (α := SB) (good := fun w (y : SB) => By w y.a y.c y.xs ∧ y.xs.length ≤ Rb) hk cb yb t1 (fun m hm => hw m (g1 m hm))
    simp only [List.drop_zero, List.take_succ_cons, List.take_zero, List.drop_succ_cons] at e0 e1
    cases e0
    cases e1
    exact ⟨⟨a0, n0, ps, a1, n1, ks⟩, rfl, ⟨⟨z0.sl.r0, z1.sl.r0, fun p hp => (z1.el p hp).1.r0⟩, fun n hn => z0.el n hn, z0.sz, z1.sz, fun p hp => (z1.el p hp).2⟩⟩⟩
end Go.Sx
