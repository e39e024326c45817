/- Part of a proof: several parts of a walk, one behind the other. -/
import Derived.Test.YtkcabddbeclokaaGreatCKB
import Derived.Test.YtkcabddbeclokaaGreatCB0j
import Derived.Test.YtkcabddbeclokaaGreatCV9j
import Derived.Test.YtkcabddbeclokaaGreatCVL
namespace Go.Sx
open Go Go.ChangeShapes Go.WideShapes Go.Deep Go.RowKit
/-- What is good of children. -/
structure Kd.good (w : World) (k : Kd) : Prop where
  r : RKd w [] k
  n : ∀ n ∈ k.ps, I64 n
  pz : k.ps.length * 8 ≤ Rb
  kz : k.ks.length * 24 ≤ Rb
  el : ∀ p ∈ k.ks, p.xs.length ≤ Rb
theorem opc_kd {P : Program} {T Tp Tk E Tb Eb : TypeId} (hF : fieldsOf P T = [(Tp, 0), (Tk, 1)]) (hc : P.cellsOf T = 2) (hp : P.underlying Tp = some (.slice E)) (cp : P.cellsOf Tp = 1) (he : P.underlying E = some (.int .i64)) (ce : P.cellsOf E = 1) (ye : P.bytesOf E = 8)
    (hk : P.underlying Tk = some (.slice Tb)) (ck : P.cellsOf Tk = 1) (cb : P.cellsOf Tb = 1) (yb : P.bytesOf Tb = 24) (h : P.underlying Tb = some (.slice Eb)) (hb : P.underlying Eb = some (.int .u8)) (hC : P.cellsOf Eb = 1) (hY : P.bytesOf Eb = 1) : OpC P T Kd Kd.good := ⟨fun {_ _ _ _ _ _ _ cs _} ht hw => by
  obtain ⟨hl, n, hfl⟩ := trod_fields hF (by simp) ht
  rw [hc] at hl
  match cs, hl with
  | [c0, c1], _ =>
    obtain ⟨y0, t0, g0⟩ := hfl 0 _ _ rfl
    obtain ⟨y1, t1, g1⟩ := hfl 1 _ _ rfl
    rw [cp] at t0
    rw [ck] at t1
    haveI := opc_int he
    haveI := opc_sb h hb hC hY
    obtain ⟨a0, n0, ps, e0, z0⟩ := open_sl (α := Int) (good := fun _ n => -9223372036854775808 ≤ n ∧ n ≤ 9223372036854775807) hp ce ye t0 (fun m hm => hw m (g0 m hm))
    obtain ⟨a1, n1, ks, e1, z1⟩ := open_sl (α := SB) (good := fun w (y : SB) => By w y.a y.c y.xs ∧ y.xs.length ≤ Rb) hk cb yb t1 (fun m hm => hw m (g1 m hm))
    simp only [List.drop_zero, List.take_succ_cons, List.take_zero, List.drop_succ_cons] at e0 e1
    cases e0
    cases e1
    exact ⟨⟨a0, n0, ps, a1, n1, ks⟩, rfl, ⟨⟨z0.sl.r0, z1.sl.r0, fun p hp => (z1.el p hp).1.r0⟩, fun n hn => z0.el n hn, z0.sz, z1.sz, fun p hp => (z1.el p hp).2⟩⟩⟩
end Go.Sx
namespace Go.Sx
open Go Go.ChangeShapes Go.WideShapes Go.Deep Go.RowKit
theorem open_u64 {H : Type} {enc : TypeId × Value → H} {w : World} {base : Nat} {spare : Nat → Bool} {held : Bool} {P : Program} {T fuel : Nat} {cs : List Value} {x : DataW H × List MemPlace} (ht : P.underlying T = some (.int .u64)) (h : DataW.trod enc P w base spare held fuel T cs = some x) : ∃ n : Int, cs = [.int .u64 n] ∧ 0 ≤ n ∧ n ≤ 18446744073709551615 := by
  obtain ⟨n, rfl, _, hw⟩ := DataW.trod_int ht h
  simp only [Lit.wf, IntKind.min, IntKind.max, IntKind.signed, IntKind.bits, Bool.and_eq_true] at hw
  have h1 := hw.1
  have h2 := hw.2
  simp at h1 h2
  exact ⟨n, rfl, by omega, by omega⟩
/-- What is good of a message. -/
structure Mg.good (w : World) (m : Mg) : Prop where
  r : RMg w [] m
  st : 0 ≤ m.st ∧ m.st ≤ 18446744073709551615
  kd : I64 m.kd
  zl : m.lo.length ≤ Rb
  zh : m.hi.length ≤ Rb
  zv : m.v.length ≤ Rb
theorem opc_mg {P : Program} {T Tu Ti Tb Eb : TypeId} (hF : fieldsOf P T = [(Tu, 0), (Ti, 1), (Tb, 2), (Tb, 3), (Tb, 4)]) (hc : P.cellsOf T = 5) (cu : P.cellsOf Tu = 1) (ci : P.cellsOf Ti = 1) (cb : P.cellsOf Tb = 1) (uu : P.underlying Tu = some (.int .u64)) (ui : P.underlying Ti = some (.int .i64))
    (h : P.underlying Tb = some (.slice Eb)) (he : P.underlying Eb = some (.int .u8)) (hC : P.cellsOf Eb = 1) (hY : P.bytesOf Eb = 1) : OpC P T Mg Mg.good := ⟨fun {_ _ _ _ _ _ _ cs _} ht hw => by
  obtain ⟨hl, n, hfl⟩ := trod_fields hF (by simp) ht
  rw [hc] at hl
  match cs, hl with
  | [c0, c1, c2, c3, c4], _ =>
    obtain ⟨y0, t0, g0⟩ := hfl 0 _ _ rfl
    obtain ⟨y1, t1, g1⟩ := hfl 1 _ _ rfl
    obtain ⟨y2, t2, g2⟩ := hfl 2 _ _ rfl
    obtain ⟨y3, t3, g3⟩ := hfl 3 _ _ rfl
    obtain ⟨y4, t4, g4⟩ := hfl 4 _ _ rfl
    rw [cu] at t0
    rw [ci] at t1
    rw [cb] at t2 t3 t4
    obtain ⟨n0, e0, z0⟩ := open_u64 uu t0
    obtain ⟨n1, e1, z1⟩ := open_i64 ui t1
    obtain ⟨s2, e2, b2, z2⟩ := (opc_sb h he hC hY).opens t2 (fun m hm => hw m (g2 m hm))
    obtain ⟨s3, e3, b3, z3⟩ := (opc_sb h he hC hY).opens t3 (fun m hm => hw m (g3 m hm))
    obtain ⟨s4, e4, b4, z4⟩ := (opc_sb h he hC hY).opens t4 (fun m hm => hw m (g4 m hm))
    simp only [List.drop_zero, List.take_succ_cons, List.take_zero, List.drop_succ_cons] at e0 e1 e2 e3 e4
    cases e0
    cases e1
    cases e2
    cases e3
    cases e4
    exact ⟨⟨n0, n1, s2.a, s2.c, s2.xs, s3.a, s3.c, s3.xs, s4.a, s4.c, s4.xs⟩, rfl, ⟨b2.r0, b3.r0, b4.r0⟩, z0, z1, z2, z3, z4⟩⟩
/-- What is good of a node. -/
structure Nd.good (w : World) (n : Nd) : Prop where
  k : Kd.good w n.k
  ms : GSl Mg.good 88 w n.ma n.mc n.ms
theorem Nd.good.r {w : World} {n : Nd} (h : Nd.good w n) : RNd w [] n := ⟨h.k.r, ⟨h.ms.sl.r0, fun m hm => (h.ms.el m hm).r⟩⟩
theorem opc_nd {P : Program} {T Tk Ts Tm : TypeId} (hF : fieldsOf P T = [(Tk, 0), (Ts, 2)]) (hc : P.cellsOf T = 3) (ck : P.cellsOf Tk = 2) (cs' : P.cellsOf Ts = 1) (us : P.underlying Ts = some (.slice Tm)) (cm : P.cellsOf Tm = 5) (ym : P.bytesOf Tm = 88)
    (hk : OpC P Tk Kd Kd.good) (hm : OpC P Tm Mg Mg.good) : OpC P T Nd Nd.good := ⟨fun {_ _ _ _ _ _ _ cs _} ht hw => by
  obtain ⟨hl, n, hfl⟩ := trod_fields hF (by simp) ht
  rw [hc] at hl
  match cs, hl with
  | [c0, c1, c2], _ =>
    obtain ⟨y0, t0, g0⟩ := hfl 0 _ _ rfl
    obtain ⟨y1, t1, g1⟩ := hfl 1 _ _ rfl
    rw [ck] at t0
    rw [cs'] at t1
    obtain ⟨k, e0, z0⟩ := hk.opens t0 (fun m hm => hw m (g0 m hm))
    haveI := hm
    obtain ⟨ma, mc, ms, e1, z1⟩ := open_sl (α := Mg) (good := Mg.good) us cm ym t1 (fun m hm => hw m (g1 m hm))
    simp only [List.drop_zero, List.take_succ_cons, List.take_zero, List.drop_succ_cons] at e0 e1
    cases e1
    obtain ⟨pa, pc, ps, ka, kc, ks⟩ := k
    cases e0
    exact ⟨⟨⟨pa, pc, ps, ka, kc, ks⟩, ma, mc, ms⟩, rfl, z0, z1⟩⟩
end Go.Sx
namespace Go.Sx
open Go
theorem Nd.good.fit {w : World} {n : Nd} (h : Nd.good w n) : n.Fit := by
  refine ⟨fun p hp => ?_, fun m hm => ?_⟩
  · have := h.k.el p hp; simp only [Rb] at this; omega
  · have h1 := (h.ms.el m hm).zl
    have h2 := (h.ms.el m hm).zh
    have h3 := (h.ms.el m hm).zv
    simp only [Rb] at h1 h2 h3
    omega
end Go.Sx
