/- Part of a proof: several parts of a walk, one behind the other. -/
import Derived.Test.YtimakbpghggdfaaGreatCRF
import Derived.Test.YtimakbpghggdfaaGreatCRG
import Derived.Test.YtimakbpghggdfaaGreatCZJj
import Derived.Test.YtimakbpghggdfaaGreatCKB
import Derived.Test.YtimakbpghggdfaaGreatCO2j
import Derived.Test.YtimakbpghggdfaaGreatCV2j
namespace Go.Sx
open Go Go.Proofs
set_option maxRecDepth 10000
variable {w0 : World} {H : List Ck}
abbrev vn7 : Value := .slice none 0 0
def ls0 : LsT := ⟨none, 0, [], none, 0, [], none, 0, []⟩
def ob7 (k : Nat) : Ob := ⟨k, ls0.sf 0, none, 0, [], none, 0, []⟩
theorem ob7_ok {k : Nat} : LsOk (ob7 k) ls0 0 0 0 := ⟨⟨rfl, Nat.le_refl _, (fun s h => by cases h)⟩, rfl, Nat.le_refl _, (fun s h => by cases h), (fun s h => by cases h), (fun s h => by cases h)⟩
theorem ob7_ent {k : Nat} : Ent (.hb k 69 [vn7, vn7, vn7, vn7, vn7, .int .i64 0] :: H) ((ob7 k).ck :: .star ls0.X :: H) := by
  refine Ent.star (L := [_, _, _, _]) (Ent.head ?_)
  refine Ent.nilS.trans (Ent.head (Ent.nilS.trans (Ent.head (fam_nil.trans (Ent.head ?_)))))
  refine Ent.star (L := [_, _, _, _, _, _]) ?_
  exact Ent.nilS.trans (Ent.head (fam_nil.trans (Ent.head (Ent.nilS.trans (Ent.head (fam_nil.trans (Ent.head (Ent.nilS.trans (Ent.head fam_nil)))))))))
/-- What a script's call is asked to be. -/
structure MOp.Lim (o : MOp) : Prop where
  l : ∀ e ∈ o.ls, e.k.length ≤ 140737488355328 ∧ e.v.length ≤ 140737488355328
  m : ∀ m ∈ o.ms, m.lo.length ≤ 140737488355328 ∧ m.hi.length ≤ 140737488355328 ∧ m.v.length ≤ 140737488355328
  k : o.key.length ≤ 140737488355328
  r : o.r.lo.length ≤ 140737488355328 ∧ o.r.hi.length ≤ 140737488355328
structure MpS where
  i : Nat
  x : Nat
  B : Ob
  L : LsT
  n : Int
  cnt : Nat
structure MpE where
  B : Ob
  L : LsT
  n : Int
  cnt : Nat
  rows : Nat
set_option maxHeartbeats 8000000 in
theorem mplays_s {a : Option Addr} {c : Nat} {ss : List MOp} (hs : RSl w0 H a c ss) (hr : ∀ o ∈ ss, RMop w0 H o) (hz : ∀ o ∈ ss, o.Lim) (hll : ss.length ≤ 977343669106) :
    FnS Tryz.prog w0 H 6 #[.slice a ss.length c] (fun v H' => v = .bool true ∧ H' = H) := by
  refine fns_enter Tryz.func6 rfl rfl rfl ?_
  refine sx ?_
  refine s_call rfl lawake_s ?_
  rintro _ H2 ⟨rfl, hH⟩
  rw [hH]
  clear hH
  refine ⟨chk_seq, ?_⟩
  refine sx ?_
  refine s_boxA (cs := [vn7, vn7, vn7, vn7, vn7, .int .i64 0]) rfl fun b4 => ?_
  refine sx ?_
  refine s_cutB (ι := MpE) (fun _ => [(3, .bool true), (4, .pointer (some ⟨b4, 0, none⟩))]) (fun q => q.B.ck :: .star q.L.X :: H) (fun q => q.B.k = b4 ∧ LsOk q.B q.L q.n q.cnt q.rows ∧ q.cnt ≤ 3000000000000 ∧ q.rows ≤ 2932031007402) ?_ ?_
  · refine s_loop (fun q : MpS => [(0, .slice a ss.length c), (3, .bool true), (4, .pointer (some ⟨b4, 0, none⟩)), (5, .int .i64 q.x), (6, .int .i64 q.i)]) (fun q => q.B.ck :: .star q.L.X :: H) (fun q => q.i ≤ ss.length ∧ q.B.k = b4 ∧ LsOk q.B q.L q.n q.cnt (3 * q.i) ∧ q.cnt ≤ 3 * q.i + 3 * q.x ∧ q.x ≤ 2147483647 ∧ (0 ≤ q.n ∧ q.n ≤ 9007199254740992)) (fun q => ss.length - q.i) ⟨0, 0, ob7 b4, ls0, 0, 0⟩ ⟨Nat.zero_le _, rfl, ob7_ok, Nat.zero_le _, Nat.zero_le _, by simp only; omega⟩ ?_ (he := ob7_ent)
    rintro ⟨i, x, B, L, n, cnt⟩ ⟨h1, hk, hok, hc, hx, hn⟩
    simp only at h1 hk hok hc hx hn ⊢
    have hsf := hok.sf
    obtain ⟨K, sf, la, lc, ls, wa, wc, ws⟩ := B
    simp only at hk hsf
    subst hk
    subst hsf
    have hout : ∀ {R : List Ck}, Ent ((Ob.ck ⟨K, L.sf n, la, lc, ls, wa, wc, ws⟩) :: R) (.hb K 69 (.slice la ls.length lc :: .slice wa ws.length wc :: L.sf n) :: .star [ol 24 la lc ls, ol 9 wa wc ws, fam 5 ls] :: R) := fun {R} => Ent.open (L := [_, _, _, _]) (Ent.head (Ent.star (L := [_, _, _]) Ent.refl))
    have hin : ∀ {R : List Ck}, Ent (.hb K 69 (.slice la ls.length lc :: .slice wa ws.length wc :: L.sf n) :: .star [ol 24 la lc ls, ol 9 wa wc ws, fam 5 ls] :: R) ((Ob.ck ⟨K, L.sf n, la, lc, ls, wa, wc, ws⟩) :: R) := fun {R} => Ent.star (L := [_, _, _, _]) (Ent.head (Ent.open (L := [_, _, _]) Ent.refl))
    refine s_ent (.hb K 69 (.slice la ls.length lc :: .slice wa ws.length wc :: L.sf n) :: .star [ol 24 la lc ls, ol 9 wa wc ws, fam 5 ls] :: .star L.X :: H) hout ?_
    obtain ⟨B, hB⟩ : ∃ B : Ob, B = ⟨K, L.sf n, la, lc, ls, wa, wc, ws⟩ := ⟨_, rfl⟩
    rw [← hB] at hok hin
    have hBk : B.k = K := by rw [hB]
    clear hout hB
    have hmid : B.k = K ∧ LsOk B L n cnt (3 * i) ∧ cnt ≤ 3000000000000 ∧ 3 * i ≤ 2932031007402 := ⟨hBk, hok, by omega, by omega⟩
    refine sx ?_
    refine s_lif rfl (fun t1 => ?_) (fun t1 => ?_)
    · obtain ⟨o, ho⟩ := get_lt ss i (by omega)
      have ro := hr o (List.mem_of_getElem? ho)
      have lo := hz o (List.mem_of_getElem? ho)
      have hs2 : RSl w0 (.hb K 69 (.slice la ls.length lc :: .slice wa ws.length wc :: L.sf n) :: .star [ol 24 la lc ls, ol 9 wa wc ws, fam 5 ls] :: .star L.X :: H) a c ss := hs.tl.tl.tl
      refine sx ?_
      refine s_if rfl (fun t2 => ?_) (fun t2 => ?_)
      · refine sx ?_
        refine s_alloc fun b7 => ?_
        refine sx ?_
        refine s_drH [.hb b7 71 (Cel.f o)] (.one true 0 (.one true 1 (.one true 2 (.one true 5 (.one true 6 (.one true 9 (.one true 10 (.one true 11 (.one true 13 (.one true 14 (.one true 15 (.one true 16 (.one true 18 (.one true 19 (.one true 20 (.one true 21 (.one false 3 (.one true 4 (.one false 7 (.one true 8 (.one true 12 (.one true 17 (.one true 22 (.one true 23 .nil)))))))))))))))))))))))) mixed (by kernel_rfl) ?_ (he := by exact ent)
        refine sx ?_
        refine s_rw (t := 47) (v' := .pointer (some ((⟨b7, 0, none⟩ : Addr).add 5))) rfl rfl ?_
        refine sx ?_
        refine s_rw (t := 52) (v' := .pointer (some ((⟨b7, 0, none⟩ : Addr).add 6))) rfl rfl ?_
        refine sx ?_
        refine s_call rfl (entries_s7 (es := o.ls) (ro.l.ent (Ent.dropL [_, _, _, _])) lo.l) ?_
        rintro _ H2 ⟨y1, rfl, hy1, hy2, hH⟩
        rw [hH]
        clear hH
        refine ⟨chk_held (by exact ent), ?_⟩
        refine sx ?_
        refine s_call rfl (lweights_s (ms := o.ms) (ro.m.ent (Ent.dropL [_, _, _, _])) lo.m) ?_
        rintro _ H3 ⟨y2, rfl, hy3, hy4, hH⟩
        rw [hH]
        clear hH
        refine ⟨chk_held (by exact ent), ?_⟩
        obtain ⟨zr1, zr2⟩ := lo.r
        have zk := lo.k
        refine sx ?_
        refine s_if rfl (fun t3 => ?_) (fun t3 => ?_)
        · refine sx ?_
          exact s_mid ⟨B, L, n, cnt, 3 * i⟩ hmid (he := Ent.tl hin)
        · have e1 := hy2 (by omega)
          have e2 := hy4 (by omega)
          have ez : szO o = sumE o.ls + sumM (o.ms.map Mg.d) + o.key.length + o.r.lo.length + o.r.hi.length := rfl
          have hx2 : x + szO o ≤ 2147483647 := by omega
          refine sx ?_
          refine s_rw (t := 58) (v' := .pointer (some ⟨B.k, 0, none⟩)) rfl (by rw [hBk]) ?_
          refine s_rw (t := 5) (v' := .int .i64 ((x + szO o : Nat) : Int)) rfl (ci (by omega)) ?_
          refine s_entL (B.ck :: .star L.X :: H) (Ent.tl hin) ?_
          refine s_call rfl (step_s hok (o := o) ro (by omega) (by omega) (by omega) ⟨by omega, by omega⟩) ?_
          rintro _ _ ⟨B2, L2, n2, cnt2, rfl, k2, ok2, f1, f2, f3, rfl⟩
          refine ⟨chk_seq, ?_⟩
          refine sx ?_
          exact s_again ⟨i + 1, x + szO o, B2, L2, n2, cnt2⟩ ⟨by simp only; omega, by show B2.k = K; rw [k2, hBk], ok2, by simp only; omega, hx2, by simp only; omega⟩ (by simp only; omega) (he := Ent.refl)
      · refine sx ?_
        exact s_mid ⟨B, L, n, cnt, 3 * i⟩ hmid (he := hin)
    · refine sx ?_
      exact s_mid ⟨B, L, n, cnt, 3 * i⟩ hmid (he := hin)
  · rintro ⟨B, L, n, cnt, rows⟩ ⟨hk, hok, hc, hrw⟩
    simp only at hk hok hc hrw ⊢
    refine sx ?_
    refine s_rw (t := 63) (v' := .pointer (some ⟨B.k, 0, none⟩)) rfl (by rw [hk]) ?_
    refine s_call rfl (lsEnds_s hok hc hrw) ?_
    rintro _ H2 ⟨rfl, hH⟩
    rw [hH]
    refine ⟨chk_seq, ?_⟩
    refine sx ?_
    exact s_ret1 rfl rfl ⟨rfl, rfl⟩
end Go.Sx
namespace Go.Sx
open Go Go.ChangeShapes Go.WideShapes Go.Deep Go.RowKit
abbrev Rg.good (w : World) (r : Rg) : Prop := (By w r.la r.lc r.lo ∧ By w r.ha r.hc r.hi) ∧ r.lo.length ≤ Rb ∧ r.hi.length ≤ Rb
theorem opc_rg {P : Program} {T Tb Eb Bo : TypeId} (hF : fieldsOf P T = [(Tb, 0), (Tb, 1), (Bo, 2)]) (hc : P.cellsOf T = 3) (hb : P.cellsOf Tb = 1) (hbo : P.cellsOf Bo = 1) (h : P.underlying Tb = some (.slice Eb)) (he : P.underlying Eb = some (.int .u8)) (hC : P.cellsOf Eb = 1) (hY : P.bytesOf Eb = 1) (hB : P.underlying Bo = some .bool) :
    OpC P T Rg Rg.good := ⟨fun {_ _ _ _ _ _ _ cs _} ht hw => by
  obtain ⟨hl, n, hfl⟩ := trod_fields hF (by simp) ht
  rw [hc] at hl
  match cs, hl with
  | [c0, c1, c2], _ =>
    obtain ⟨y0, t0, g0⟩ := hfl 0 _ _ rfl
    obtain ⟨y1, t1, g1⟩ := hfl 1 _ _ rfl
    obtain ⟨y2, t2, g2⟩ := hfl 2 _ _ rfl
    rw [hb] at t0 t1
    rw [hbo] at t2
    obtain ⟨s0, e0, b0, z0⟩ := (opc_sb h he hC hY).opens t0 (fun m hm => hw m (g0 m hm))
    obtain ⟨s1, e1, b1, z1⟩ := (opc_sb h he hC hY).opens t1 (fun m hm => hw m (g1 m hm))
    obtain ⟨b, e2⟩ := open_bool hB t2
    simp only [List.drop_zero, List.take_succ_cons, List.take_zero, List.drop_succ_cons] at e0 e1 e2
    cases e0
    cases e1
    cases e2
    exact ⟨⟨s0.a, s0.c, s0.xs, s1.a, s1.c, s1.xs, b⟩, rfl, ⟨b0, b1⟩, z0, z1⟩⟩
end Go.Sx
namespace Go.Sx
open Go Go.ChangeShapes Go.WideShapes Go.Deep Go.RowKit
theorem open_u64 {H : Type} {enc : TypeId × Value → H} {w : World} {base : Nat} {spare : Nat → Bool} {held : Bool} {P : Program} {T fuel : Nat} {cs : List Value} {x : DataW H × List MemPlace} (ht : P.underlying T = some (.int .u64)) (h : DataW.trod enc P w base spare held fuel T cs = some x) : ∃ n : Int, cs = [.int .u64 n] ∧ 0 ≤ n ∧ n ≤ 18446744073709551615 := by
  obtain ⟨n, rfl, _, hw⟩ := DataW.trod_int ht h
  simp only [Lit.wf, IntKind.min, IntKind.max, IntKind.signed, IntKind.bits, Bool.and_eq_true] at hw
  have h1 := hw.1
  have h2 := hw.2
  simp at h1 h2
  exact ⟨n, rfl, by omega, by omega⟩
/-- What is good of a message. -/
structure Mg.good (w : World) (m : Mg) : Prop where
  r : RMg w [] m
  st : 0 ≤ m.st ∧ m.st ≤ 18446744073709551615
  kd : I64 m.kd
  zl : m.lo.length ≤ Rb
  zh : m.hi.length ≤ Rb
  zv : m.v.length ≤ Rb
theorem opc_mg {P : Program} {T Tu Ti Tb Eb : TypeId} (hF : fieldsOf P T = [(Tu, 0), (Ti, 1), (Tb, 2), (Tb, 3), (Tb, 4)]) (hc : P.cellsOf T = 5) (cu : P.cellsOf Tu = 1) (ci : P.cellsOf Ti = 1) (cb : P.cellsOf Tb = 1) (uu : P.underlying Tu = some (.int .u64)) (ui : P.underlying Ti = some (.int .i64))
    (h : P.underlying Tb = some (.slice Eb)) (he : P.underlying Eb = some (.int .u8)) (hC : P.cellsOf Eb = 1) (hY : P.bytesOf Eb = 1) : OpC P T Mg Mg.good := ⟨fun {_ _ _ _ _ _ _ cs _} ht hw => by
  obtain ⟨hl, n, hfl⟩ := trod_fields hF (by simp) ht
  rw [hc] at hl
  match cs, hl with
  | [c0, c1, c2, c3, c4], _ =>
    obtain ⟨y0, t0, g0⟩ := hfl 0 _ _ rfl
    obtain ⟨y1, t1, g1⟩ := hfl 1 _ _ rfl
    obtain ⟨y2, t2, g2⟩ := hfl 2 _ _ rfl
    obtain ⟨y3, t3, g3⟩ := hfl 3 _ _ rfl
    obtain ⟨y4, t4, g4⟩ := hfl 4 _ _ rfl
    rw [cu] at t0
    rw [ci] at t1
    rw [cb] at t2 t3 t4
    obtain ⟨n0, e0, z0⟩ := open_u64 uu t0
    obtain ⟨n1, e1, z1⟩ := open_i64 ui t1
    obtain ⟨s2, e2, b2, z2⟩ := (opc_sb h he hC hY).opens t2 (fun m hm => hw m (g2 m hm))
    obtain ⟨s3, e3, b3, z3⟩ := (opc_sb h he hC hY).opens t3 (fun m hm => hw m (g3 m hm))
    obtain ⟨s4, e4, b4, z4⟩ := (opc_sb h he hC hY).opens t4 (fun m hm => hw m (g4 m hm))
    simp only [List.drop_zero, List.take_succ_cons, List.take_zero, List.drop_succ_cons] at e0 e1 e2 e3 e4
    cases e0
    cases e1
    cases e2
    cases e3
    cases e4
    exact ⟨⟨n0, n1, s2.a, s2.c, s2.xs, s3.a, s3.c, s3.xs, s4.a, s4.c, s4.xs⟩, rfl, ⟨b2.r0, b3.r0, b4.r0⟩, z0, z1, z2, z3, z4⟩⟩
theorem gsl_ms {w : World} {a : Option Addr} {c : Nat} {ms : List Mg} (h : GSl Mg.good 88 w a c ms) : RMs w [] a c ms := ⟨h.sl.r0, fun m hm => (h.el m hm).r⟩
theorem gsl_len {w : World} {a : Option Addr} {c : Nat} {ms : List Mg} (h : GSl Mg.good 88 w a c ms) : ∀ m ∈ ms, m.lo.length ≤ 140737488355327 ∧ m.hi.length ≤ 140737488355327 ∧ m.v.length ≤ 140737488355327 := fun m hm => by
  have h1 := (h.el m hm).zl
  have h2 := (h.el m hm).zh
  have h3 := (h.el m hm).zv
  simp only [Rb] at h1 h2 h3
  omega
end Go.Sx
namespace Go.Sx
open Go Go.ChangeShapes Go.WideShapes Go.Deep Go.RowKit
structure MOp.good (w : World) (o : MOp) : Prop where
  l : GSl (fun w (y : KV) => (By w y.ka y.kc y.k ∧ By w y.va y.vc y.v) ∧ y.k.length ≤ Rb ∧ y.v.length ≤ Rb) 48 w o.la o.lc o.ls
  m : GSl Mg.good 88 w o.ma o.mc o.ms
  k : By w o.ka o.kc o.key ∧ o.key.length ≤ Rb
  r : Rg.good w o.r
theorem MOp.good.r0 {w : World} {o : MOp} (h : MOp.good w o) : RMop w [] o :=
  ⟨h.l.sl.r0, fun e he => ⟨(h.l.el e he).1.1.r0, (h.l.el e he).1.2.r0⟩, gsl_ms h.m, h.k.1.r0, ⟨h.r.1.1.r0, h.r.1.2.r0⟩⟩
theorem MOp.good.lim {w : World} {o : MOp} (h : MOp.good w o) : o.Lim :=
  ⟨fun e he => by have := (h.l.el e he).2; simp only [Rb] at this; omega, fun m hm => by have := gsl_len h.m m hm; omega, by have := h.k.2; simp only [Rb] at this; omega, by have := h.r.2; simp only [Rb] at this; omega⟩
theorem opc_mop {P : Program} {T Ti Tl Te Tm Tg Tb Eb Tr : TypeId} (hF : fieldsOf P T = [(Ti, 0), (Ti, 1), (Tl, 2), (Tm, 3), (Tb, 4), (Tr, 5)]) (hc : P.cellsOf T = 8) (ci : P.cellsOf Ti = 1) (cl : P.cellsOf Tl = 1) (cm : P.cellsOf Tm = 1) (cb : P.cellsOf Tb = 1) (cr : P.cellsOf Tr = 3)
    (ui : P.underlying Ti = some (.int .i64)) (ul : P.underlying Tl = some (.slice Te)) (ce : P.cellsOf Te = 2) (ye : P.bytesOf Te = 48) (um : P.underlying Tm = some (.slice Tg)) (cg : P.cellsOf Tg = 5) (yg : P.bytesOf Tg = 88)
    (ub : P.underlying Tb = some (.slice Eb)) (he : P.underlying Eb = some (.int .u8)) (hC : P.cellsOf Eb = 1) (hY : P.bytesOf Eb = 1)
    (hl : OpC P Te KV (fun w (y : KV) => (By w y.ka y.kc y.k ∧ By w y.va y.vc y.v) ∧ y.k.length ≤ Rb ∧ y.v.length ≤ Rb)) (hm : OpC P Tg Mg Mg.good) (hr : OpC P Tr Rg Rg.good) : OpC P T MOp MOp.good := ⟨fun {_ _ _ _ _ _ _ cs' _} ht hw => by
  obtain ⟨hl', n, hfl⟩ := trod_fields hF (by simp) ht
  rw [hc] at hl'
  match cs', hl' with
  | [c0, c1, c2, c3, c4, c5, c6, c7], _ =>
    obtain ⟨y0, t0, g0⟩ := hfl 0 _ _ rfl
    obtain ⟨y1, t1, g1⟩ := hfl 1 _ _ rfl
    obtain ⟨y2, t2, g2⟩ := hfl 2 _ _ rfl
    obtain ⟨y3, t3, g3⟩ := hfl 3 _ _ rfl
    obtain ⟨y4, t4, g4⟩ := hfl 4 _ _ rfl
    obtain ⟨y5, t5, g5⟩ := hfl 5 _ _ rfl
    rw [ci] at t0 t1
    rw [cl] at t2
    rw [cm] at t3
    rw [cb] at t4
    rw [cr] at t5
    obtain ⟨n0, e0, z0⟩ := open_i64 ui t0
    obtain ⟨n1, e1, z1⟩ := open_i64 ui t1
    haveI := hl
    obtain ⟨la, lc, ls, e2, z2⟩ := open_sl (α := KV) (good := fun w (y : KV) => (By w y.ka y.kc y.k ∧ By w y.va y.vc y.v) ∧ y.k.length ≤ Rb ∧ y.v.length ≤ Rb) ul ce ye t2 (fun m hm => hw m (g2 m hm))
    haveI := hm
    obtain ⟨ma, mc, ms, e3, z3⟩ := open_sl (α := Mg) (good := Mg.good) um cg yg t3 (fun m hm => hw m (g3 m hm))
    obtain ⟨s4, e4, z4⟩ := (opc_sb ub he hC hY).opens t4 (fun m hm => hw m (g4 m hm))
    obtain ⟨r, e5, z5⟩ := hr.opens t5 (fun m hm => hw m (g5 m hm))
    simp only [List.drop_zero, List.take_succ_cons, List.take_zero, List.drop_succ_cons] at e0 e1 e2 e3 e4 e5
    cases e0
    cases e1
    cases e2
    cases e3
    cases e4
    obtain ⟨ra, rc, rl, rha, rhc, rh, ral⟩ := r
    cases e5
    exact ⟨⟨n0, n1, la, lc, ls, ma, mc, ms, s4.a, s4.c, s4.xs, ⟨ra, rc, rl, rha, rhc, rh, ral⟩⟩, rfl, z2, z3, z4, z5⟩⟩
end Go.Sx

