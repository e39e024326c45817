/- Part of a proof: several parts of a walk, one behind the other. -/
import Derived.Test.YtpnhoafmlhlfgaaGreatCKB
import Derived.Test.YtpnhoafmlhlfgaaGreatCMBj
import Derived.Test.YtpnhoafmlhlfgaaGreatCQCj
import Derived.Test.YtpnhoafmlhlfgaaGreatCPKj
namespace Go.Sx
open Go Go.ChangeShapes Go.WideShapes Go.Deep Go.RowKit
abbrev Rg.good (w : World) (r : Rg) : Prop := (By w r.la r.lc r.lo ∧ By w r.ha r.hc r.hi) ∧ r.lo.length ≤ Rb ∧ r.hi.length ≤ Rb
theorem opc_rg {P : Program} {T Tb Eb Bo : TypeId} (hF : fieldsOf P T = [(Tb, 0), (Tb, 1), (Bo, 2)]) (hc : P.cellsOf T = 3) (hb : P.cellsOf Tb = 1) (hbo : P.cellsOf Bo = 1) (h : P.underlying Tb = some (.slice Eb)) (he : P.underlying Eb = some (.int .u8)) (hC : P.cellsOf Eb = 1) (hY : P.bytesOf Eb = 1) (hB : P.underlying Bo = some .bool) :
    OpC P T Rg Rg.good := ⟨fun {_ _ _ _ _ _ _ cs _} ht hw => by
  obtain ⟨hl, n, hfl⟩ := trod_fields hF (by simp) ht
  rw [hc] at hl
  match cs, hl with
  | [c0, c1, c2], _ =>
    obtain ⟨y0, t0, g0⟩ := hfl 0 _ _ rfl
    obtain ⟨y1, t1, g1⟩ := hfl 1 _ _ rfl
    obtain ⟨y2, t2, g2⟩ := hfl 2 _ _ rfl
    rw [hb] at t0 t1
    rw [hbo] at t2
    obtain ⟨s0, e0, b0, z0⟩ := (opc_sb h he hC hY).opens t0 (fun m hm => hw m (g0 m hm))
    obtain ⟨s1, e1, b1, z1⟩ := (opc_sb h he hC hY).opens t1 (fun m hm => hw m (g1 m hm))
    obtain ⟨b, e2⟩ := open_bool hB t2
    simp only [List.drop_zero, List.take_succ_cons, List.take_zero, List.drop_succ_cons] at e0 e1 e2
    cases e0
    cases e1
    cases e2
    exact ⟨⟨s0.a, s0.c, s0.xs, s1.a, s1.c, s1.xs, b⟩, rfl, ⟨b0, b1⟩, z0, z1⟩⟩
end Go.Sx
namespace Go.Sx
open Go Go.ChangeShapes Go.WideShapes Go.Deep Go.RowKit
theorem open_u64 {H : Type} {enc : TypeId × Value → H} {w : World} {base : Nat} {spare : Nat → Bool} {held : Bool} {P : Program} {T fuel : Nat} {cs : List Value} {x : DataW H × List MemPlace} (ht : P.underlying T = some (.int .u64)) (h : DataW.trod enc P w base spare held fuel T cs = some x) : ∃ n : Int, cs = [.int .u64 n] ∧ 0 ≤ n ∧ n ≤ 18446744073709551615 := by
  obtain ⟨n, rfl, _, hw⟩ := DataW.trod_int ht h
  simp only [Lit.wf, IntKind.min, IntKind.max, IntKind.signed, IntKind.bits, Bool.and_eq_true] at hw
  have h1 := hw.1
  have h2 := hw.2
  simp at h1 h2
  exact ⟨n, rfl, by omega, by omega⟩
/-- What is good of a message. -/
structure Mg.good (w : World) (m : Mg) : Prop where
  r : RMg w [] m
  st : 0 ≤ m.st ∧ m.st ≤ 18446744073709551615
  kd : I64 m.kd
  zl : m.lo.length ≤ Rb
  zh : m.hi.length ≤ Rb
  zv : m.v.length ≤ Rb
theorem opc_mg {P : Program} {T Tu Ti Tb Eb : TypeId} (hF : fieldsOf P T = [(Tu, 0), (Ti, 1), (Tb, 2), (Tb, 3), (Tb, 4)]) (hc : P.cellsOf T = 5) (cu : P.cellsOf Tu = 1) (ci : P.cellsOf Ti = 1) (cb : P.cellsOf Tb = 1) (uu : P.underlying Tu = some (.int .u64)) (ui : P.underlying Ti = some (.int .i64))
    (h : P.underlying Tb = some (.slice Eb)) (he : P.underlying Eb = some (.int .u8)) (hC : P.cellsOf Eb = 1) (hY : P.bytesOf Eb = 1) : OpC P T Mg Mg.good := ⟨fun {_ _ _ _ _ _ _ cs _} ht hw => by
  obtain ⟨hl, n, hfl⟩ := trod_fields hF (by simp) ht
  rw [hc] at hl
  match cs, hl with
  | [c0, c1, c2, c3, c4], _ =>
    obtain ⟨y0, t0, g0⟩ := hfl 0 _ _ rfl
    obtain ⟨y1, t1, g1⟩ := hfl 1 _ _ rfl
    obtain ⟨y2, t2, g2⟩ := hfl 2 _ _ rfl
    obtain ⟨y3, t3, g3⟩ := hfl 3 _ _ rfl
    obtain ⟨y4, t4, g4⟩ := hfl 4 _ _ rfl
    rw [cu] at t0
    rw [ci] at t1
    rw [cb] at t2 t3 t4
    obtain ⟨n0, e0, z0⟩ := open_u64 uu t0
    obtain ⟨n1, e1, z1⟩ := open_i64 ui t1
    obtain ⟨s2, e2, b2, z2⟩ := (opc_sb h he hC hY).opens t2 (fun m hm => hw m (g2 m hm))
    obtain ⟨s3, e3, b3, z3⟩ := (opc_sb h he hC hY).opens t3 (fun m hm => hw m (g3 m hm))
    obtain ⟨s4, e4, b4, z4⟩ := (opc_sb h he hC hY).opens t4 (fun m hm => hw m (g4 m hm))
    simp only [List.drop_zero, List.take_succ_cons, List.take_zero, List.drop_succ_cons] at e0 e1 e2 e3 e4
    cases e0
    cases e1
    cases e2
    cases e3
    cases e4
    exact ⟨⟨n0, n1, s2.a, s2.c, s2.xs, s3.a, s3.c, s3.xs, s4.a, s4.c, s4.xs⟩, rfl, ⟨b2.r0, b3.r0, b4.r0⟩, z0, z1, z2, z3, z4⟩⟩
theorem gsl_ms {w : World} {a : Option Addr} {c : Nat} {ms : List Mg} (h : GSl Mg.good 88 w a c ms) : RMs w [] a c ms := ⟨h.sl.r0, fun m hm => (h.el m hm).r⟩
theorem gsl_len {w : World} {a : Option Addr} {c : Nat} {ms : List Mg} (h : GSl Mg.good 88 w a c ms) : ∀ m ∈ ms, m.lo.length ≤ 140737488355327 ∧ m.hi.length ≤ 140737488355327 ∧ m.v.length ≤ 140737488355327 := fun m hm => by
  have h1 := (h.el m hm).zl
  have h2 := (h.el m hm).zh
  have h3 := (h.el m hm).zv
  simp only [Rb] at h1 h2 h3
  omega
theorem gsl_len8 {w : World} {a : Option Addr} {c : Nat} {ms : List Mg} (h : GSl Mg.good 88 w a c ms) : ∀ m ∈ ms, m.lo.length ≤ 140737488355327 ∧ m.hi.length ≤ 140737488355328 ∧ m.v.length ≤ 140737488355328 := fun m hm => by
  have := gsl_len h m hm
  omega
end Go.Sx
namespace Go.Sx
open Go Go.ChangeShapes Go.WideShapes Go.Deep Go.RowKit
structure Stp.good (w : World) (o : Stp) : Prop where
  l : GSl (fun w (y : KV) => (By w y.ka y.kc y.k ∧ By w y.va y.vc y.v) ∧ y.k.length ≤ Rb ∧ y.v.length ≤ Rb) 48 w o.la o.lc o.ls
  m : GSl Mg.good 88 w o.ma o.mc o.ms
  r : Rg.good w o.r
theorem Stp.good.r0 {w : World} {o : Stp} (h : Stp.good w o) : RStp w [] o :=
  ⟨h.l.sl.r0, fun e he => ⟨(h.l.el e he).1.1.r0, (h.l.el e he).1.2.r0⟩, gsl_ms h.m, ⟨h.r.1.1.r0, h.r.1.2.r0⟩, fun e he => by have := (h.l.el e he).2; simp only [Rb] at this; omega, gsl_len8 h.m, by have := h.r.2; simp only [Rb] at this; omega⟩
theorem opc_stp {P : Program} {T Ti Tl Te Tm Tg Tr : TypeId} (hF : fieldsOf P T = [(Ti, 0), (Tl, 1), (Tm, 2), (Tr, 3)]) (hc : P.cellsOf T = 6) (ci : P.cellsOf Ti = 1) (cl : P.cellsOf Tl = 1) (cm : P.cellsOf Tm = 1) (cr : P.cellsOf Tr = 3)
    (ui : P.underlying Ti = some (.int .i64)) (ul : P.underlying Tl = some (.slice Te)) (ce : P.cellsOf Te = 2) (ye : P.bytesOf Te = 48) (um : P.underlying Tm = some (.slice Tg)) (cg : P.cellsOf Tg = 5) (yg : P.bytesOf Tg = 88)
    (hl : OpC P Te KV (fun w (y : KV) => (By w y.ka y.kc y.k ∧ By w y.va y.vc y.v) ∧ y.k.length ≤ Rb ∧ y.v.length ≤ Rb)) (hm : OpC P Tg Mg Mg.good) (hr : OpC P Tr Rg Rg.good) : OpC P T Stp Stp.good := ⟨fun {_ _ _ _ _ _ _ cs' _} ht hw => by
  obtain ⟨hl', n, hfl⟩ := trod_fields hF (by simp) ht
  rw [hc] at hl'
  match cs', hl' with
  | [c0, c1, c2, c3, c4, c5], _ =>
    obtain ⟨y0, t0, g0⟩ := hfl 0 _ _ rfl
    obtain ⟨y1, t1, g1⟩ := hfl 1 _ _ rfl
    obtain ⟨y2, t2, g2⟩ := hfl 2 _ _ rfl
    obtain ⟨y3, t3, g3⟩ := hfl 3 _ _ rfl
    rw [ci] at t0
    rw [cl] at t1
    rw [cm] at t2
    rw [cr] at t3
    obtain ⟨n0, e0, z0⟩ := open_i64 ui t0
    haveI := hl
    obtain ⟨la, lc, ls, e1, z1⟩ := open_sl (α := KV) (good := fun w (y : KV) => (By w y.ka y.kc y.k ∧ By w y.va y.vc y.v) ∧ y.k.length ≤ Rb ∧ y.v.length ≤ Rb) ul ce ye t1 (fun m hm => hw m (g1 m hm))
    haveI := hm
    obtain ⟨ma, mc, ms, e2, z2⟩ := open_sl (α := Mg) (good := Mg.good) um cg yg t2 (fun m hm => hw m (g2 m hm))
    obtain ⟨r, e3, z3⟩ := hr.opens t3 (fun m hm => hw m (g3 m hm))
    simp only [List.drop_zero, List.take_succ_cons, List.take_zero, List.drop_succ_cons] at e0 e1 e2 e3
    cases e0
    cases e1
    cases e2
    obtain ⟨ra, rc, rl, rha, rhc, rh, ral⟩ := r
    cases e3
    exact ⟨⟨n0, la, lc, ls, ma, mc, ms, ⟨ra, rc, rl, rha, rhc, rh, ral⟩⟩, rfl, z1, z2, z3⟩⟩
end Go.Sx

