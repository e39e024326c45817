/- Part of a proof: several parts of a walk, one behind the other. -/
import Derived.Test.YtimakbpghggdfaaGreatCZMj
import Derived.Test.YtimakbpghggdfaaGreatCKB
import Derived.Test.YtimakbpghggdfaaGreatCO2
import Derived.Test.YtimakbpghggdfaaGreatCQ0j
namespace Go.Sx
open Go Go.Proofs
set_option maxRecDepth 10000
variable {w0 : World} {H : List Ck}
abbrev rgA : Rg := ⟨none, 0, [], none, 0, [], true⟩
theorem wz {ws : List Mg} {L : List MD} (h : ws.map Mg.d = L) (hL : ∀ x ∈ L, x.lo.length ≤ 140737488355327 ∧ x.hi.length ≤ 140737488355327 ∧ x.v.length ≤ 140737488355327) : ∀ m ∈ ws, m.lo.length ≤ 140737488355327 ∧ m.hi.length ≤ 140737488355328 ∧ m.v.length ≤ 140737488355328 := fun m hm => by
  have h1 := hL m.d (by rw [← h]; exact List.mem_map.2 ⟨m, hm, rfl⟩)
  have h2 : m.d.lo = m.lo := rfl
  have h3 : m.d.hi = m.hi := rfl
  have h4 : m.d.v = m.v := rfl
  rw [h2, h3, h4] at h1
  omega
theorem wlen {ws ms : List Mg} {r : T3} (h : ws.map Mg.d = withinL r (ms.map Mg.d)) : ws.length ≤ ms.length := by
  have h1 := congrArg List.length h
  have h2 := within_le r (ms.map Mg.d)
  simp only [List.length_map] at h1 h2
  omega
set_option maxHeartbeats 4000000 in
theorem lparts_s {a b ka : Option Addr} {c d kc : Nat} {es : List KV} {ms : List Mg} {r s : Rg} {key : Bs} (hm : RMs w0 H b d ms) (hr : RRg w0 H r) (hs : RRg w0 H s) (hk : RBy w0 H ka kc key) (hx : RSl w0 H a c es) (hre : ∀ e ∈ es, REe w0 H e)
    (hz : ∀ m ∈ ms, m.lo.length ≤ 140737488351232 ∧ m.hi.length ≤ 140737488351232 ∧ m.v.length ≤ 140737488351232) (hlr : r.lo.length ≤ 140737488351232 ∧ r.hi.length ≤ 140737488351232) (hls : s.lo.length ≤ 140737488351232 ∧ s.hi.length ≤ 140737488351232) (hy : ∀ e ∈ es, e.k.length ≤ 140737488351232 ∧ e.v.length ≤ 140737488351232) :
    FnV Tryz.prog w0 H 5 #[.slice b ms.length d, .agg r.cells.toArray, .agg s.cells.toArray, .slice ka key.length kc, .slice a es.length c] (.bool true) := by
  refine fns_enter Tryz.func5 rfl rfl rfl ?_
  have hsl := hm.sl
  have hz' : ∀ m ∈ ms, m.lo.length ≤ 140737488355327 ∧ m.hi.length ≤ 140737488355328 ∧ m.v.length ≤ 140737488355328 := fun m h => by have := hz m h; omega
  have hzd : ∀ x ∈ ms.map Mg.d, x.lo.length + 1 ≤ 140737488355327 ∧ x.hi.length ≤ 140737488355327 := fun x h => by
    obtain ⟨m, hm', rfl⟩ := List.mem_map.1 h
    have := hz m hm'
    show m.lo.length + 1 ≤ _ ∧ m.hi.length ≤ _
    omega
  have hvd : ∀ x ∈ ms.map Mg.d, x.v.length ≤ 140737488355327 := fun x h => by
    obtain ⟨m, hm', rfl⟩ := List.mem_map.1 h
    have := hz m hm'
    show m.v.length ≤ _
    omega
  have hqr : QK 140737488355327 r.d := ⟨by show r.lo.length ≤ _; omega, by show r.hi.length ≤ _; omega⟩
  have hqs : QK 140737488355327 s.d := ⟨by show s.lo.length ≤ _; omega, by show s.hi.length ≤ _; omega⟩
  have hy' : ∀ e ∈ es, e.k.length ≤ 140737488355328 ∧ e.v.length ≤ 140737488355328 := fun e h => by have := hy e h; omega
  refine sx ?_
  refine s_boxA rfl fun b6 => ?_
  refine sx ?_
  refine s_boxA rfl fun b7 => ?_
  refine sx ?_
  refine s_callV rfl lawake_s ?_
  refine sx ?_
  refine s_call rfl (entries_s7 (es := es) (by exact rsl) hy') ?_
  rintro _ _ ⟨x, rfl, hx0, hx1, rfl⟩
  refine ⟨chk_seq, ?_⟩
  refine sx ?_
  refine s_lif rfl (fun t1 => ?_) (fun t1 => ?_)
  · refine sx ?_
    exact s_ret1 rfl rfl ⟨rfl, rfl⟩
  refine sx ?_
  refine s_call rfl (lweights_s (ms := ms) (by exact rms) (fun m h => by have := hz m h; omega)) ?_
  rintro _ _ ⟨y, rfl, hy0, hy1, rfl⟩
  refine ⟨chk_seq, ?_⟩
  refine sx ?_
  refine s_if rfl (fun t2 => ?_) (fun t2 => ?_)
  · refine sx ?_
    exact s_ret1 rfl rfl ⟨rfl, rfl⟩
  have hs1 := hx1 (by omega)
  have hs2 := hy1 (by omega)
  have hl1 := sumE_len es
  have hl2 := sumM_len (ms.map Mg.d)
  rw [List.length_map] at hl2
  clear hx0 hx1 hy0 hy1
  refine sx ?_
  refine s_call rfl (mwithin_s (ms := ms) (r := r) (by exact rms) (by exact rrg) (by omega) hz' (by omega)) ?_
  rintro _ _ ⟨a12, c12, ws, rfl, hws, rfl⟩
  refine ⟨chk_seq, ?_⟩
  have hwz := wz hws (within_len (n := 140737488355327) hqr hzd hvd)
  have hwl := wlen hws
  refine sx ?_
  refine s_call rfl (mget_s (ms := ms) (key := key) (by exact rms) (by exact rby) (fun m h => by have := hz' m h; omega)) ?_
  rintro _ _ ⟨va, vc, rfl, rfl⟩
  refine ⟨chk_seq, ?_⟩
  refine sx ?_
  have hwm : RMs w0 (ol 35 a12 c12 ws :: stars oM ws :: .hb b7 53 s.cells :: .hb b6 53 r.cells :: H) a12 c12 ws := RMs.stG
  refine s_call rfl (mget_s (ms := ws) (key := key) hwm.tl (by exact rby) (fun m h => by have := hwz m h; omega)) ?_
  rintro _ _ ⟨ua, uc, rfl, rfl⟩
  refine ⟨chk_seq, ?_⟩
  refine sx ?_
  refine s_callV rfl (ohas_s (r := r) (key := key) (by exact rrg) (by exact rby)) ?_
  have stp : StopAt 8 := trivial
  refine sxs ?_
  clear stp
  refine s_cut (ι := Unit) (fun _ => [(0, .slice b ms.length d), (3, .slice ka key.length kc), (4, .slice a es.length c), (6, .pointer (some ⟨b6, 0, none⟩)), (7, .pointer (some ⟨b7, 0, none⟩)), (12, .slice a12 ws.length c12), (84, .bool false)]) (fun _ => ol 35 a12 c12 ws :: stars oM ws :: .hb b7 53 s.cells :: .hb b6 53 r.cells :: H) (fun _ => True) ?_ (fun _ _ => ?_)
  · rw [hws, getM_within]
    generalize getM (ms.map Mg.d) key = G
    cases hin : hasB r.d key
    · rw [if_neg (by decide)]
      refine sx ?_
      exact s_mid () trivial
    · rw [if_pos rfl]
      rcases G with _ | (_ | v)
      · refine sx ?_
        exact s_mid () trivial
      · refine sx ?_
        exact s_mid () trivial
      · refine sx ?_
        exact s_mid () trivial
  refine sx ?_
  refine s_call rfl (mwithin_s (ms := ws) (r := s) hwm (by exact rrg) (by omega) hwz (by omega)) ?_
  rintro _ _ ⟨a20, c20, tw, rfl, htw, rfl⟩
  refine ⟨chk_seq, ?_⟩
  rw [hws, within_within] at htw
  refine sx ?_
  refine s_call rfl (omeet_s (r := r) (q := s) (by exact rrg) (by exact rrg) (by omega) (by omega)) ?_
  rintro _ _ ⟨y, rfl, hyd, rfl⟩
  refine ⟨chk_seq, ?_⟩
  have hqy : QK 140737488355327 y.d := by rw [hyd]; exact qk_me hqr hqs
  have hqy1 : y.lo.length ≤ 140737488355327 := hqy.1
  have hqy2 : y.hi.length ≤ 140737488355327 := hqy.2
  refine sx ?_
  refine s_call rfl (mwithin_s (ms := ms) (r := y) (by exact rms) (by exact rrg) (by omega) hz' (by omega)) ?_
  rintro _ _ ⟨a21, c21, on, rfl, hon, rfl⟩
  refine ⟨chk_seq, ?_⟩
  rw [hyd] at hon
  refine sx ?_
  refine s_rw (t := 94) (v' := .agg rgA.cells.toArray) rfl rfl ?_
  refine sx ?_
  refine s_call rfl (ominus_s (r := rgA) (q := r) ⟨RBy.nil, RBy.nil⟩ (by exact rrg) ⟨by simp, by simp⟩ ⟨by omega, by omega⟩) ?_
  rintro _ _ ⟨x, z, rfl, hxd, hzd2, rfl⟩
  refine ⟨chk_seq, ?_⟩
  have hqA : QK 140737488355327 rgA.d := ⟨Nat.zero_le _, Nat.zero_le _⟩
  have hqx : QK 140737488355327 x.d := by rw [hxd]; exact (qk_mi hqA hqr).1
  have hqz : QK 140737488355327 z.d := by rw [hzd2]; exact (qk_mi hqA hqr).2
  have hqx1 : x.lo.length ≤ 140737488355327 := hqx.1
  have hqx2 : x.hi.length ≤ 140737488355327 := hqx.2
  have hqz1 : z.lo.length ≤ 140737488355327 := hqz.1
  have hqz2 : z.hi.length ≤ 140737488355327 := hqz.2
  obtain ⟨G, hG⟩ : ∃ G : List Ck, G = oR x :: oR z :: ol 35 a21 c21 on :: stars oM on :: oR y :: ol 35 a20 c20 tw :: stars oM tw :: ol 35 a12 c12 ws :: stars oM ws :: .hb b7 53 s.cells :: .hb b6 53 r.cells :: H := ⟨_, rfl⟩
  have fm : RMs w0 G b d ms := by rw [hG]; exact hm.tl.tl.tl.tl.tl.tl.tl.tl.tl.tl.tl
  have fe : RSl w0 G a c es := by rw [hG]; exact hx.tl.tl.tl.tl.tl.tl.tl.tl.tl.tl.tl
  have fr : ∀ e ∈ es, REe w0 G e := fun e he => by rw [hG]; exact (hre e he).tl.tl.tl.tl.tl.tl.tl.tl.tl.tl.tl
  have fw : RMs w0 G a12 c12 ws := by rw [hG]; exact RMs.stG.tl.tl.tl.tl.tl.tl.tl
  have ftw : RMs w0 G a20 c20 tw := by rw [hG]; exact RMs.stG.tl.tl.tl.tl.tl
  have fon : RMs w0 G a21 c21 on := by rw [hG]; exact RMs.stG.tl.tl
  have fx : RRg w0 G x := by rw [hG]; exact rrg
  have fz : RRg w0 G z := by rw [hG]; exact rrg
  have fG : Ent G H := by rw [hG]; exact Ent.tl (Ent.tl (Ent.tl (Ent.tl (Ent.tl (Ent.tl (Ent.tl (Ent.tl (Ent.tl (Ent.tl (Ent.tl (Ent.refl)))))))))))
  rw [← hG]
  clear hG
  refine sx ?_
  refine s_alloc fun b22 => ?_
  refine sx ?_
  refine s_alloc fun b23 => ?_
  refine sx ?_
  refine sx ?_; refine s_dr (.one true 0 (.one true 1 (.one true 3 (.one true 4 (.one true 7 (.one true 8 (.one false 2 (.one false 5 (.one false 6 (.one false 9 (.one false 10 (.one true 11 .nil)))))))))))) mixed (by kernel_rfl) ?_; refine sx ?_
  refine s_call rfl (apply_s (es := es) (ms := ws) fe.tl.tl (fun e he => (fr e he).tl.tl) fw.tl.tl (by omega) hwz hy') ?_
  rintro _ _ ⟨a1, o1, rfl, hi1, hl3, rfl⟩
  refine ⟨chk_held (Ent.tl (Ent.tl (Ent.refl))), ?_⟩
  refine sx ?_
  refine s_call rfl (mwithin_s (ms := ms) (r := x) fm.tl.tl.tl.tl ⟨fx.lo.tl.tl.tl.tl, fx.hi.tl.tl.tl.tl⟩ (by omega) hz' (by omega)) ?_
  rintro _ _ ⟨b1, d1, w1, rfl, hw1, rfl⟩
  refine ⟨chk_held (Ent.tl (Ent.tl (Ent.tl (Ent.tl (Ent.refl))))), ?_⟩
  have hw1z := wz hw1 (within_len (n := 140737488355327) hqx hzd hvd)
  have hw1l := wlen hw1
  have ho1y := hi1.lens (n := 140737488355328) hy' (fun m h => by
    obtain ⟨m', hm', rfl⟩ := List.mem_map.1 h
    have := hwz m' hm'
    show m'.lo.length ≤ _ ∧ m'.v.length ≤ _
    omega)
  refine sx ?_
  refine s_call rfl (apply_s (es := o1) (ms := w1) RSl.hd.tl.tl (fun e he => (REe.st he).tl.tl.tl) RMs.stG (by omega) hw1z ho1y) ?_
  rintro _ _ ⟨a2, o2, rfl, hi2, hl4, rfl⟩
  refine ⟨chk_held (Ent.tl (Ent.tl (Ent.tl (Ent.tl (Ent.tl (Ent.tl (Ent.refl))))))), ?_⟩
  refine sx ?_
  refine s_call rfl (mwithin_s (ms := ms) (r := z) fm.tl.tl.tl.tl.tl.tl.tl.tl ⟨fz.lo.tl.tl.tl.tl.tl.tl.tl.tl, fz.hi.tl.tl.tl.tl.tl.tl.tl.tl⟩ (by omega) hz' (by omega)) ?_
  rintro _ _ ⟨b2, d2, w2, rfl, hw2, rfl⟩
  refine ⟨chk_held (Ent.tl (Ent.tl (Ent.tl (Ent.tl (Ent.tl (Ent.tl (Ent.tl (Ent.tl (Ent.refl))))))))), ?_⟩
  have hw2z := wz hw2 (within_len (n := 140737488355327) hqz hzd hvd)
  have hw2l := wlen hw2
  have ho2y := hi2.lens (n := 140737488355328) ho1y (fun m h => by
    obtain ⟨m', hm', rfl⟩ := List.mem_map.1 h
    have := hw1z m' hm'
    show m'.lo.length ≤ _ ∧ m'.v.length ≤ _
    omega)
  refine sx ?_
  refine s_call rfl (apply_s (es := o2) (ms := w2) RSl.hd.tl.tl (fun e he => (REe.st he).tl.tl.tl) RMs.stG (by omega) hw2z ho2y) ?_
  rintro _ _ ⟨a3, o3, rfl, hi3, hl5, rfl⟩
  refine ⟨chk_held (Ent.tl (Ent.tl (Ent.tl (Ent.tl (Ent.tl (Ent.tl (Ent.tl (Ent.tl (Ent.tl (Ent.tl (Ent.refl))))))))))), ?_⟩
  refine sx ?_
  refine s_entL (ol 31 a3 o3.length o3 :: stars oKVs o3 :: G) (Ent.head (Ent.head (Ent.tl (Ent.tl (Ent.tl (Ent.tl (Ent.tl (Ent.tl (Ent.tl (Ent.tl (Ent.tl (Ent.tl (Ent.refl))))))))))))) ?_
  refine s_call rfl (apply_s (es := es) (ms := ms) fe.tl.tl (fun e he => (fr e he).tl.tl) fm.tl.tl (by omega) hz' hy') ?_
  rintro _ _ ⟨a4, o4, rfl, hi4, hl6, rfl⟩
  refine ⟨chk_seq, ?_⟩
  have hfin : o3.map KV.p = o4.map KV.p := hi3.uniq hi4 fun key => by
    rw [hi2.get, hi1.get, hws, hw1, hw2, hxd, hzd2]
    exact parts_app
  refine sx ?_
  refine s_callV rfl (lsameE_s (xs := o3) (ys := o4) RSl.hd.tl.tl (fun e he => (REe.st he).tl.tl.tl) RSl.hd (fun e he => (REe.st he).tl)) ?_
  rw [decide_eq_true hfin]
  refine sx ?_
  refine s_callV rfl (lsameMs_s (xs := tw) (ys := on) ftw.tl.tl.tl.tl fon.tl.tl.tl.tl) ?_
  rw [decide_eq_true (htw.trans hon.symm)]
  refine sx ?_
  exact s_ret1 rfl rfl ⟨rfl, rfl⟩ (Ent.tl (Ent.tl (Ent.tl (Ent.tl fG))))
end Go.Sx
namespace Go.Sx
open Go Go.ChangeShapes Go.WideShapes Go.Deep Go.RowKit
abbrev Rg.good (w : World) (r : Rg) : Prop := (By w r.la r.lc r.lo ∧ By w r.ha r.hc r.hi) ∧ r.lo.length ≤ Rb ∧ r.hi.length ≤ Rb
theorem opc_rg {P : Program} {T Tb Eb Bo : TypeId} (hF : fieldsOf P T = [(Tb, 0), (Tb, 1), (Bo, 2)]) (hc : P.cellsOf T = 3) (hb : P.cellsOf Tb = 1) (hbo : P.cellsOf Bo = 1) (h : P.underlying Tb = some (.slice Eb)) (he : P.underlying Eb = some (.int .u8)) (hC : P.cellsOf Eb = 1) (hY : P.bytesOf Eb = 1) (hB : P.underlying Bo = some .bool) :
    OpC P T Rg Rg.good := ⟨fun {_ _ _ _ _ _ _ cs _} ht hw => by
  obtain ⟨hl, n, hfl⟩ := trod_fields hF (by simp) ht
  rw [hc] at hl
  match cs, hl with
  | [c0, c1, c2], _ =>
    obtain ⟨y0, t0, g0⟩ := hfl 0 _ _ rfl
    obtain ⟨y1, t1, g1⟩ := hfl 1 _ _ rfl
    obtain ⟨y2, t2, g2⟩ := hfl 2 _ _ rfl
    rw [hb] at t0 t1
    rw [hbo] at t2
    obtain ⟨s0, e0, b0, z0⟩ := (opc_sb h he hC hY).opens t0 (fun m hm => hw m (g0 m hm))
    obtain ⟨s1, e1, b1, z1⟩ := (opc_sb h he hC hY).opens t1 (fun m hm => hw m (g1 m hm))
    obtain ⟨b, e2⟩ := open_bool hB t2
    simp only [List.drop_zero, List.take_succ_cons, List.take_zero, List.drop_succ_cons] at e0 e1 e2
    cases e0
    cases e1
    cases e2
    exact ⟨⟨s0.a, s0.c, s0.xs, s1.a, s1.c, s1.xs, b⟩, rfl, ⟨b0, b1⟩, z0, z1⟩⟩
end Go.Sx
namespace Go.Sx
open Go Go.ChangeShapes Go.WideShapes Go.Deep Go.RowKit
theorem open_u64 {H : Type} {enc : TypeId × Value → H} {w : World} {base : Nat} {spare : Nat → Bool} {held : Bool} {P : Program} {T fuel : Nat} {cs : List Value} {x : DataW H × List MemPlace} (ht : P.underlying T = some (.int .u64)) (h : DataW.trod enc P w base spare held fuel T cs = some x) : ∃ n : Int, cs = [.int .u64 n] ∧ 0 ≤ n ∧ n ≤ 18446744073709551615 := by
  obtain ⟨n, rfl, _, hw⟩ := DataW.trod_int ht h
  simp only [Lit.wf, IntKind.min, IntKind.max, IntKind.signed, IntKind.bits, Bool.and_eq_true] at hw
  have h1 := hw.1
  have h2 := hw.2
  simp at h1 h2
  exact ⟨n, rfl, by omega, by omega⟩
/-- What is good of a message. -/
structure Mg.good (w : World) (m : Mg) : Prop where
  r : RMg w [] m
  st : 0 ≤ m.st ∧ m.st ≤ 18446744073709551615
  kd : I64 m.kd
  zl : m.lo.length ≤ Rb
  zh : m.hi.length ≤ Rb
  zv : m.v.length ≤ Rb
theorem opc_mg {P : Program} {T Tu Ti Tb Eb : TypeId} (hF : fieldsOf P T = [(Tu, 0), (Ti, 1), (Tb, 2), (Tb, 3), (Tb, 4)]) (hc : P.cellsOf T = 5) (cu : P.cellsOf Tu = 1) (ci : P.cellsOf Ti = 1) (cb : P.cellsOf Tb = 1) (uu : P.underlying Tu = some (.int .u64)) (ui : P.underlying Ti = some (.int .i64))
    (h : P.underlying Tb = some (.slice Eb)) (he : P.underlying Eb = some (.int .u8)) (hC : P.cellsOf Eb = 1) (hY : P.bytesOf Eb = 1) : OpC P T Mg Mg.good := ⟨fun {_ _ _ _ _ _ _ cs _} ht hw => by
  obtain ⟨hl, n, hfl⟩ := trod_fields hF (by simp) ht
  rw [hc] at hl
  match cs, hl with
  | [c0, c1, c2, c3, c4], _ =>
    obtain ⟨y0, t0, g0⟩ := hfl 0 _ _ rfl
    obtain ⟨y1, t1, g1⟩ := hfl 1 _ _ rfl
    obtain ⟨y2, t2, g2⟩ := hfl 2 _ _ rfl
    obtain ⟨y3, t3, g3⟩ := hfl 3 _ _ rfl
    obtain ⟨y4, t4, g4⟩ := hfl 4 _ _ rfl
    rw [cu] at t0
    rw [ci] at t1
    rw [cb] at t2 t3 t4
    obtain ⟨n0, e0, z0⟩ := open_u64 uu t0
    obtain ⟨n1, e1, z1⟩ := open_i64 ui t1
    obtain ⟨s2, e2, b2, z2⟩ := (opc_sb h he hC hY).opens t2 (fun m hm => hw m (g2 m hm))
    obtain ⟨s3, e3, b3, z3⟩ := (opc_sb h he hC hY).opens t3 (fun m hm => hw m (g3 m hm))
    obtain ⟨s4, e4, b4, z4⟩ := (opc_sb h he hC hY).opens t4 (fun m hm => hw m (g4 m hm))
    simp only [List.drop_zero, List.take_succ_cons, List.take_zero, List.drop_succ_cons] at e0 e1 e2 e3 e4
    cases e0
    cases e1
    cases e2
    cases e3
    cases e4
    exact ⟨⟨n0, n1, s2.a, s2.c, s2.xs, s3.a, s3.c, s3.xs, s4.a, s4.c, s4.xs⟩, rfl, ⟨b2.r0, b3.r0, b4.r0⟩, z0, z1, z2, z3, z4⟩⟩
theorem gsl_ms {w : World} {a : Option Addr} {c : Nat} {ms : List Mg} (h : GSl Mg.good 88 w a c ms) : RMs w [] a c ms := ⟨h.sl.r0, fun m hm => (h.el m hm).r⟩
theorem gsl_len {w : World} {a : Option Addr} {c : Nat} {ms : List Mg} (h : GSl Mg.good 88 w a c ms) : ∀ m ∈ ms, m.lo.length ≤ 140737488355327 ∧ m.hi.length ≤ 140737488355327 ∧ m.v.length ≤ 140737488355327 := fun m hm => by
  have h1 := (h.el m hm).zl
  have h2 := (h.el m hm).zh
  have h3 := (h.el m hm).zv
  simp only [Rb] at h1 h2 h3
  omega
theorem gsl_len8 {w : World} {a : Option Addr} {c : Nat} {ms : List Mg} (h : GSl Mg.good 88 w a c ms) : ∀ m ∈ ms, m.lo.length ≤ 140737488355327 ∧ m.hi.length ≤ 140737488355328 ∧ m.v.length ≤ 140737488355328 := fun m hm => by
  have := gsl_len h m hm
  omega
end Go.Sx
