/- The law MsgParts, walked. -/
import Derived.Test.YtimakbpghggdfaaGreatCZMj
namespace Go.Sx
open Go Go.Proofs
set_option maxRecDepth 10000
variable {w0 : World} {H : List Ck}
abbrev rgA : Rg := ⟨none, 0, [], none, 0, [], true⟩
theorem wz {ws : List Mg} {L : List MD} (h : ws.map Mg.d = L) (hL : ∀ x ∈ L, x.lo.length ≤ 140737488355327 ∧ x.hi.length ≤ 140737488355327 ∧ x.v.length ≤ 140737488355327) : ∀ m ∈ ws, m.lo.length ≤ 140737488355327 ∧ m.hi.length ≤ 140737488355328 ∧ m.v.length ≤ 140737488355328 := fun m hm => by
  have h1 := hL m.d (by rw [← h]; exact List.mem_map.2 ⟨m, hm, rfl⟩)
  have h2 : m.d.lo = m.lo := rfl
  have h3 : m.d.hi = m.hi := rfl
  have h4 : m.d.v = m.v := rfl
  rw [h2, h3, h4] at h1
  omega
theorem wlen {ws ms : List Mg} {r : T3} (h : ws.map Mg.d = withinL r (ms.map Mg.d)) : ws.length ≤ ms.length := by
  have h1 := congrArg List.length h
  have h2 := within_le r (ms.map Mg.d)
  simp only [List.length_map] at h1 h2
  omega
set_option maxHeartbeats 4000000 in
theorem lparts_s {a b ka : Option Addr} {c d kc : Nat} {es : List KV} {ms : List Mg} {r s : Rg} {key : Bs} (hm : RMs w0 H b d ms) (hr : RRg w0 H r) (hs : RRg w0 H s) (hk : RBy w0 H ka kc key) (hx : RSl w0 H a c es) (hre : ∀ e ∈ es, REe w0 H e)
    (hz : ∀ m ∈ ms, m.lo.length ≤ 140737488351232 ∧ m.hi.length ≤ 140737488351232 ∧ m.v.length ≤ 140737488351232) (hlr : r.lo.length ≤ 140737488351232 ∧ r.hi.length ≤ 140737488351232) (hls : s.lo.length ≤ 140737488351232 ∧ s.hi.length ≤ 140737488351232) (hy : ∀ e ∈ es, e.k.length ≤ 140737488351232 ∧ e.v.length ≤ 140737488351232) :
    FnV Tryz.prog w0 H 5 #[.slice b ms.length d, .agg r.cells.toArray, .agg s.cells.toArray, .slice ka key.length kc, .slice a es.length c] (.bool true) := by
  refine fns_enter Tryz.func5 rfl rfl rfl ?_
  have hsl := hm.sl
  have hz' : ∀ m ∈ ms, m.lo.length ≤ 140737488355327 ∧ m.hi.length ≤ 140737488355328 ∧ m.v.length ≤ 140737488355328 := fun m h => by have := hz m h; omega
  have hzd : ∀ x ∈ ms.map Mg.d, x.lo.length + 1 ≤ 140737488355327 ∧ x.hi.length ≤ 140737488355327 := fun x h => by
    obtain ⟨m, hm', rfl⟩ := List.mem_map.1 h
    have := hz m hm'
    show m.lo.length + 1 ≤ _ ∧ m.hi.length ≤ _
    omega
  have hvd : ∀ x ∈ ms.map Mg.d, x.v.length ≤ 140737488355327 := fun x h => by
    obtain ⟨m, hm', rfl⟩ := List.mem_map.1 h
    have := hz m hm'
    show m.v.length ≤ _
    omega
  have hqr : QK 140737488355327 r.d := ⟨by show r.lo.length ≤ _; omega, by show r.hi.length ≤ _; omega⟩
  have hqs : QK 140737488355327 s.d := ⟨by show s.lo.length ≤ _; omega, by show s.hi.length ≤ _; omega⟩
  have hy' : ∀ e ∈ es, e.k.length ≤ 140737488355328 ∧ e.v.length ≤ 140737488355328 := fun e h => by have := hy e h; omega
  refine sx ?_
  refine s_boxA rfl fun b6 => ?_
  refine sx ?_
  refine s_boxA rfl fun b7 => ?_
  refine sx ?_
  refine s_callV rfl lawake_s ?_
  refine sx ?_
  refine s_call rfl (entries_s7 (es := es) (by exact rsl) hy') ?_
  rintro _ _ ⟨x, rfl, hx0, hx1, rfl⟩
  refine ⟨chk_seq, ?_⟩
  refine sx ?_
  refine s_lif rfl (fun t1 => ?_) (fun t1 => ?_)
  · refine sx ?_
    exact s_ret1 rfl rfl ⟨rfl, rfl⟩
  refine sx ?_
  refine s_call rfl (lweights_s (ms := ms) (by exact rms) (fun m h => by have := hz m h; omega)) ?_
  rintro _ _ ⟨y, rfl, hy0, hy1, rfl⟩
  refine ⟨chk_seq, ?_⟩
  refine sx ?_
  refine s_if rfl (fun t2 => ?_) (fun t2 => ?_)
  · refine sx ?_
    exact s_ret1 rfl rfl ⟨rfl, rfl⟩
  have hs1 := hx1 (by omega)
  have hs2 := hy1 (by omega)
  have hl1 := sumE_len es
  have hl2 := sumM_len (ms.map Mg.d)
  rw [List.length_map] at hl2
  clear hx0 hx1 hy0 hy1
  refine sx ?_
  refine s_call rfl (mwithin_s (ms := ms) (r := r) (by exact rms) (by exact rrg) (by omega) hz' (by omega)) ?_
  rintro _ _ ⟨a12, c12, ws, rfl, hws, rfl⟩
  refine ⟨chk_seq, ?_⟩
  have hwz := wz hws (within_len (n := 140737488355327) hqr hzd hvd)
  have hwl := wlen hws
  refine sx ?_
  refine s_call rfl (mget_s (ms := ms) (key := key) (by exact rms) (by exact rby) (fun m h => by have := hz' m h; omega)) ?_
  rintro _ _ ⟨va, vc, rfl, rfl⟩
  refine ⟨chk_seq, ?_⟩
  refine sx ?_
  have hwm : RMs w0 (ol 35 a12 c12 ws :: stars oM ws :: .hb b7 53 s.cells :: .hb b6 53 r.cells :: H) a12 c12 ws := RMs.stG
  refine s_call rfl (mget_s (ms := ws) (key := key) hwm.tl (by exact rby) (fun m h => by have := hwz m h; omega)) ?_
  rintro _ _ ⟨ua, uc, rfl, rfl⟩
  refine ⟨chk_seq, ?_⟩
  refine sx ?_
  refine s_callV rfl (ohas_s (r := r) (key := key) (by exact rrg) (by exact rby)) ?_
  have stp : StopAt 8 := trivial
  refine sxs ?_
  clear stp
  refine s_cut (ι := Unit) (fun _ => [(0, .slice b ms.length d), (3, .slice ka key.length kc), (4, .slice a es.length c), (6, .pointer (some ⟨b6, 0, none⟩)), (7, .pointer (some ⟨b7, 0, none⟩)), (12, .slice a12 ws.length c12), (84, .bool false)]) (fun _ => ol 35 a12 c12 ws :: stars oM ws :: .hb b7 53 s.cells :: .hb b6 53 r.cells :: H) (fun _ => True) ?_ (fun _ _ => ?_)
  · rw [hws, getM_within]
    generalize getM (ms.map Mg.d) key = G
    cases hin : hasB r.d key
    · rw [if_neg (by decide)]
      refine sx ?_
      exact s_mid () trivial
    · rw [if_pos rfl]
      rcases G with _ | (_ | v)
      · refine sx ?_
        exact s_mid () trivial
      · refine sx ?_
        exact s_mid () trivial
      · refine sx ?_
        exact s_mid () trivial
  refine sx ?_
  refine s_call rfl (mwithin_s (ms := ws) (r := s) hwm (by exact rrg) (by omega) hwz (by omega)) ?_
  rintro _ _ ⟨a20, c20, tw, rfl, htw, rfl⟩
  refine ⟨chk_seq, ?_⟩
  rw [hws, within_within] at htw
  refine sx ?_
  refine s_call rfl (omeet_s (r := r) (q := s) (by exact rrg) (by exact rrg) (by omega) (by omega)) ?_
  rintro _ _ ⟨y, rfl, hyd, rfl⟩
  refine ⟨chk_seq, ?_⟩
  have hqy : QK 140737488355327 y.d := by rw [hyd]; exact qk_me hqr hqs
  have hqy1 : y.lo.length ≤ 140737488355327 := hqy.1
  have hqy2 : y.hi.length ≤ 140737488355327 := hqy.2
  refine sx ?_
  refine s_call rfl (mwithin_s (ms := ms) (r := y) (by exact rms) (by exact rrg) (by omega) hz' (by omega)) ?_
  rintro _ _ ⟨a21, c21, on, rfl, hon, rfl⟩
  refine ⟨chk_seq, ?_⟩
  rw [hyd] at hon
  refine sx ?_
  refine s_rw (t := 94) (v' := .agg rgA.cells.toArray) rfl rfl ?_
  refine sx ?_
  refine s_call rfl (ominus_s (r := rgA) (q := r) ⟨RBy.nil, RBy.nil⟩ (by exact rrg) ⟨by simp, by simp⟩ ⟨by omega, by omega⟩) ?_
  rintro _ _ ⟨x, z, rfl, hxd, hzd2, rfl⟩
  refine ⟨chk_seq, ?_⟩
  have hqA : QK 140737488355327 rgA.d := ⟨Nat.zero_le _, Nat.zero_le _⟩
  have hqx : QK 140737488355327 x.d := by rw [hxd]; exact (qk_mi hqA hqr).1
  have hqz : QK 140737488355327 z.d := by rw [hzd2]; exact (qk_mi hqA hqr).2
  have hqx1 : x.lo.length ≤ 140737488355327 := hqx.1
  have hqx2 : x.hi.length ≤ 140737488355327 := hqx.2
  have hqz1 : z.lo.length ≤ 140737488355327 := hqz.1
  have hqz2 : z.hi.length ≤ 140737488355327 := hqz.2
  obtain ⟨G, hG⟩ : ∃ G : List Ck, G = oR x :: oR z :: ol 35 a21 c21 on :: stars oM on :: oR y :: ol 35 a20 c20 tw :: stars oM tw :: ol 35 a12 c12 ws :: stars oM ws :: .hb b7 53 s.cells :: .hb b6 53 r.cells :: H := ⟨_, rfl⟩
  have fm : RMs w0 G b d ms := by rw [hG]; exact hm.tl.tl.tl.tl.tl.tl.tl.tl.tl.tl.tl
  have fe : RSl w0 G a c es := by rw [hG]; exact hx.tl.tl.tl.tl.tl.tl.tl.tl.tl.tl.tl
  have fr : ∀ e ∈ es, REe w0 G e := fun e he => by rw [hG]; exact (hre e he).tl.tl.tl.tl.tl.tl.tl.tl.tl.tl.tl
  have fw : RMs w0 G a12 c12 ws := by rw [hG]; exact RMs.stG.tl.tl.tl.tl.tl.tl.tl
  have ftw : RMs w0 G a20 c20 tw := by rw [hG]; exact RMs.stG.tl.tl.tl.tl.tl
  have fon : RMs w0 G a21 c21 on := by rw [hG]; exact RMs.stG.tl.tl
  have fx : RRg w0 G x := by rw [hG]; exact rrg
  have fz : RRg w0 G z := by rw [hG]; exact rrg
  have fG : Ent G H := by rw [hG]; exact Ent.tl (Ent.tl (Ent.tl (Ent.tl (Ent.tl (Ent.tl (Ent.tl (Ent.tl (Ent.tl (Ent.tl (Ent.tl (Ent.refl)))))))))))
  rw [← hG]
  clear hG
  refine sx ?_
  refine s_alloc fun b22 => ?_
  refine sx ?_
  refine s_alloc fun b23 => ?_
  refine sx ?_
  refine sx ?_; refine s_dr (.one true 0 (.one true 1 (.one true 3 (.one true 4 (.one true 7 (.one true 8 (.one false 2 (.one false 5 (.one false 6 (.one false 9 (.one false 10 (.one true 11 .nil)))))))))))) mixed (by kernel_rfl) ?_; refine sx ?_
  refine s_call rfl (apply_s (es := es) (ms := ws) fe.tl.tl (fun e he => (fr e he).tl.tl) fw.tl.tl (by omega) hwz hy') ?_
  rintro _ _ ⟨a1, o1, rfl, hi1, hl3, rfl⟩
  refine ⟨chk_held (Ent.tl (Ent.tl (Ent.refl))), ?_⟩
  refine sx ?_
  refine s_call rfl (mwithin_s (ms := ms) (r := x) fm.tl.tl.tl.tl ⟨fx.lo.tl.tl.tl.tl, fx.hi.tl.tl.tl.tl⟩ (by omega) hz' (by omega)) ?_
  rintro _ _ ⟨b1, d1, w1, rfl, hw1, rfl⟩
  refine ⟨chk_held (Ent.tl (Ent.tl (Ent.tl (Ent.tl (Ent.refl))))), ?_⟩
  have hw1z := wz hw1 (within_len (n := 140737488355327) hqx hzd hvd)
  have hw1l := wlen hw1
  have ho1y := hi1.lens (n := 140737488355328) hy' (fun m h => by
    obtain ⟨m', hm', rfl⟩ := List.mem_map.1 h
    have := hwz m' hm'
    show m'.lo.length ≤ _ ∧ m'.v.length ≤ _
    omega)
  refine sx ?_
  refine s_call rfl (apply_s (es := o1) (ms := w1) RSl.hd.tl.tl (fun e he => (REe.st he).tl.tl.tl) RMs.stG (by omega) hw1z ho1y) ?_
  rintro _ _ ⟨a2, o2, rfl, hi2, hl4, rfl⟩
  refine ⟨chk_held (Ent.tl (Ent.tl (Ent.tl (Ent.tl (Ent.tl (Ent.tl (Ent.refl))))))), ?_⟩
  refine sx ?_
  refine s_call rfl (mwithin_s (ms := ms) (r := z) fm.tl.tl.tl.tl.tl.tl.tl.tl ⟨fz.lo.tl.tl.tl.tl.tl.tl.tl.tl, fz.hi.tl.tl.tl.tl.tl.tl.tl.tl⟩ (by omega) hz' (by omega)) ?_
  rintro _ _ ⟨b2, d2, w2, rfl, hw2, rfl⟩
  refine ⟨chk_held (Ent.tl (Ent.tl (Ent.tl (Ent.tl (Ent.tl (Ent.tl (Ent.tl (Ent.tl (Ent.refl))))))))), ?_⟩
  have hw2z := wz hw2 (within_len (n := 140737488355327) hqz hzd hvd)
  have hw2l := wlen hw2
  have ho2y := hi2.lens (n := 140737488355328) ho1y (fun m h => by
    obtain ⟨m', hm', rfl⟩ := List.mem_map.1 h
    have := hw1z m' hm'
    show m'.lo.length ≤ _ ∧ m'.v.length ≤ _
    omega)
  refine sx ?_
  refine s_call rfl (apply_s (es := o2) (ms := w2) RSl.hd.tl.tl (fun e he => (REe.st he).tl.tl.tl) RMs.stG (by omega) hw2z ho2y) ?_
  rintro _ _ ⟨a3, o3, rfl, hi3, hl5, rfl⟩
  refine ⟨chk_held (Ent.tl (Ent.tl (Ent.tl (Ent.tl (Ent.tl (Ent.tl (Ent.tl (Ent.tl (Ent.tl (Ent.tl (Ent.refl))))))))))), ?_⟩
  refine sx ?_
  refine s_entL (ol 31 a3 o3.length o3 :: stars oKVs o3 :: G) (Ent.head (Ent.head (Ent.tl (Ent.tl (Ent.tl (Ent.tl (Ent.tl (Ent.tl (Ent.tl (Ent.tl (Ent.tl (Ent.tl (Ent.refl))))))))))))) ?_
  refine s_call rfl (apply_s (es := es) (ms := ms) fe.tl.tl (fun e he => (fr e he).tl.tl) fm.tl.tl (by omega) hz' hy') ?_
  rintro _ _ ⟨a4, o4, rfl, hi4, hl6, rfl⟩
  refine ⟨chk_seq, ?_⟩
  have hfin : o3.map KV.p = o4.map KV.p := hi3.uniq hi4 fun key => by
    rw [hi2.get, hi1.get, hws, hw1, hw2, hxd, hzd2]
    exact parts_app
  refine sx ?_
  refine s_callV rfl (lsameE_s (xs := o3) (ys := o4) RSl.hd.tl.tl (fun e he => (REe.st he).tl.tl.tl) RSl.hd (fun e he => (REe.st he).tl)) ?_
  rw [decide_eq_true hfin]
  refine sx ?_
  refine s_callV rfl (lsameMs_s (xs := tw) (ys := on) ftw.tl.tl.tl.tl fon.tl.tl.tl.tl) ?_
  rw [decide_eq_true (htw.trans hon.symm)]
  refine sx ?_
  exact s_ret1 rfl rfl ⟨rfl, rfl⟩ (Ent.tl (Ent.tl (Ent.tl (Ent.tl fG))))
end Go.Sx
