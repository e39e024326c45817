/- The law MsgMeans, walked. -/
import Derived.Test.YtimakbpghggdfaaGreatCZN
namespace Go.Sx
open Go Go.Proofs
set_option maxRecDepth 10000
variable {w0 : World} {H : List Ck}
theorem wz0 {ws : List Mg} {ms : List Mg} {L : List MD} (h : ws.map Mg.d = L) (hs : L.Sublist (ms.map Mg.d)) (hz : ∀ m ∈ ms, m.lo.length ≤ 140737488355327 ∧ m.hi.length ≤ 140737488355327 ∧ m.v.length ≤ 140737488355327) : ∀ m ∈ ws, m.lo.length ≤ 140737488355327 ∧ m.hi.length ≤ 140737488355328 ∧ m.v.length ≤ 140737488355328 := wz h fun x hx => by
  obtain ⟨m, hm, rfl⟩ := List.mem_map.1 (hs.subset hx)
  exact hz m hm
structure MmI where
  j : Nat
  B : Bool
theorem edg_app {K : List Bs} {l : List MD} {x y z : Bs} (h : Edg K l) : Edg (K ++ [x, y, z]) l := fun m hm => by
  obtain ⟨h1, h2, h3⟩ := h m hm
  exact ⟨List.mem_append_left _ h1, List.mem_append_left _ h2, List.mem_append_left _ h3⟩
set_option maxHeartbeats 8000000 in
theorem lmeans_s {aa ab at' ae : Option Addr} {ca cb ct ce : Nat} {xs ys ts : List Mg} {es : List KV} (hx : RMs w0 H aa ca xs) (hy : RMs w0 H ab cb ys) (ht : RMs w0 H at' ct ts) (he : RSl w0 H ae ce es) (hre : ∀ e ∈ es, REe w0 H e)
    (hzx : ∀ m ∈ xs, m.lo.length ≤ 140737488355327 ∧ m.hi.length ≤ 140737488355327 ∧ m.v.length ≤ 140737488355327) (hzy : ∀ m ∈ ys, m.lo.length ≤ 140737488355327 ∧ m.hi.length ≤ 140737488355327 ∧ m.v.length ≤ 140737488355327) (hzt : ∀ m ∈ ts, m.lo.length ≤ 140737488355327 ∧ m.hi.length ≤ 140737488355327 ∧ m.v.length ≤ 140737488355327) (hye : ∀ e ∈ es, e.k.length ≤ 140737488355328 ∧ e.v.length ≤ 140737488355328) :
    FnV Tryz.prog w0 H 4 #[.slice aa xs.length ca, .slice ab ys.length cb, .slice at' ts.length ct, .slice ae es.length ce] (.bool true) := by
  refine fns_enter Tryz.func4 rfl rfl rfl ?_
  have hxs := hx.sl
  have hys := hy.sl
  have hts := ht.sl
  have h8 : ∀ {ms : List Mg}, (∀ m ∈ ms, m.lo.length ≤ 140737488355327 ∧ m.hi.length ≤ 140737488355327 ∧ m.v.length ≤ 140737488355327) → ∀ m ∈ ms, m.lo.length ≤ 140737488355327 ∧ m.hi.length ≤ 140737488355328 ∧ m.v.length ≤ 140737488355328 := fun h m hm => by have := h m hm; omega
  have h9 : ∀ {ms : List Mg}, (∀ m ∈ ms, m.lo.length ≤ 140737488355327 ∧ m.hi.length ≤ 140737488355327 ∧ m.v.length ≤ 140737488355327) → ∀ m ∈ ms, m.lo.length ≤ 140737488355328 ∧ m.hi.length ≤ 140737488355328 ∧ m.v.length ≤ 140737488355328 := fun h m hm => by have := h m hm; omega
  refine sx ?_
  refine s_callV rfl lawake_s ?_
  refine sx ?_
  refine s_call rfl (entries_s7 (es := es) (by exact rsl) hye) ?_
  rintro _ H1 ⟨x, rfl, hx0, hx1, e1⟩
  obtain rfl : H = H1 := e1.symm
  refine ⟨chk_seq, ?_⟩
  refine sx ?_
  refine s_lif rfl (fun t1 => ?_) (fun t1 => ?_)
  · refine sx ?_
    exact s_ret1 rfl rfl ⟨rfl, rfl⟩
  refine sx ?_
  refine s_call rfl (lweights_s (ms := xs) (by exact rms) (h9 hzx)) ?_
  rintro _ H1 ⟨u, rfl, hu0, hu1, e1⟩
  obtain rfl : H = H1 := e1.symm
  refine ⟨chk_seq, ?_⟩
  refine sx ?_
  refine s_call rfl (lweights_s (ms := ys) (by exact rms) (h9 hzy)) ?_
  rintro _ H1 ⟨v, rfl, hv0, hv1, e1⟩
  obtain rfl : H = H1 := e1.symm
  refine ⟨chk_seq, ?_⟩
  refine sx ?_
  refine s_lif rfl (fun t2 => ?_) (fun t2 => ?_)
  · refine sx ?_
    exact s_ret1 rfl rfl ⟨rfl, rfl⟩
  refine sx ?_
  refine s_call rfl (lweights_s (ms := ts) (by exact rms) (h9 hzt)) ?_
  rintro _ H1 ⟨t, rfl, ht0, ht1, e1⟩
  obtain rfl : H = H1 := e1.symm
  refine ⟨chk_seq, ?_⟩
  refine sx ?_
  refine s_if rfl (fun t3 => ?_) (fun t3 => ?_)
  · refine sx ?_
    exact s_ret1 rfl rfl ⟨rfl, rfl⟩
  have se := hx1 (by omega)
  have sx1' := hu1 (by omega)
  have sy1 := hv1 (by omega)
  have st1 := ht1 (by omega)
  have le1 := sumE_len es
  have lx1 := sumM_len (xs.map Mg.d)
  have ly1 := sumM_len (ys.map Mg.d)
  have lt1 := sumM_len (ts.map Mg.d)
  rw [List.length_map] at lx1 ly1 lt1
  have be : es.length ≤ 2147483647 := by omega
  have bx : xs.length ≤ 2147483647 := by omega
  have by1 : ys.length ≤ 2147483647 := by omega
  have bt : ts.length ≤ 2147483647 := by omega
  have bsx : sumM (xs.map Mg.d) ≤ 2147483647 := by omega
  clear hx0 hx1 hu0 hu1 hv0 hv1 ht0 ht1 t1 t2 t3 se sx1' sy1 st1 le1 lx1 ly1 lt1
  refine sx ?_
  refine s_call rfl (mmeaning_s (ms := xs) (by exact rms) (by omega) (h8 hzx)) ?_
  rintro _ _ ⟨pa, pc, ps, rfl, hps, rfl⟩
  refine ⟨chk_seq, ?_⟩
  refine sx ?_
  refine s_call rfl (mmeaning_s (ms := ys) (by exact rms) (by omega) (h8 hzy)) ?_
  rintro _ _ ⟨qa, qc, qs, rfl, hqs, rfl⟩
  refine ⟨chk_seq, ?_⟩
  refine sx ?_
  refine s_call rfl (msettle_s (ms := xs) (by exact rms) (by omega) (h8 hzx)) ?_
  rintro _ _ ⟨sa, sc, ss, rfl, hss, rfl⟩
  refine ⟨chk_seq, ?_⟩
  have hsub := setl_sub (xs.map Mg.d)
  have hzs := wz0 hss hsub hzx
  have bss : ss.length ≤ 2147483647 := by
    have h1 := congrArg List.length hss
    have h2 := hsub.length_le
    simp only [List.length_map] at h1 h2
    omega
  have hsum : sumM (ss.map Mg.d) ≤ sumM (xs.map Mg.d) := by rw [hss]; exact sumM_sub hsub
  have hsm : RMs w0 (ol 35 sa sc ss :: stars oM ss :: ol 83 qa qc qs :: stars oP qs :: ol 83 pa pc ps :: stars oP ps :: H) sa sc ss := RMs.stG
  refine sx ?_
  refine s_call rfl (msettle_s (ms := ss) hsm (by omega) hzs) ?_
  rintro _ _ ⟨ra, rc, rs, rfl, hrs, rfl⟩
  refine ⟨chk_seq, ?_⟩
  rw [hss, setl_setl, ← hss] at hrs
  refine sx ?_
  refine s_call rfl (mmeaning_s (ms := ss) hsm.tl.tl (by omega) hzs) ?_
  rintro _ _ ⟨oa, oc, os, rfl, hos, rfl⟩
  refine ⟨chk_seq, ?_⟩
  have hop : os.map Pc.d = ps.map Pc.d := hos.uniq hps fun key => by rw [hss, getM_setl]
  refine sx ?_
  refine s_callV rfl (lsameP_s (xs := os) (ys := ps) RSl.hd (fun p hp => (RPc.st hp).tl) RSl.hd.tl.tl.tl.tl.tl.tl.tl.tl (fun p hp => (RPc.st hp).tl.tl.tl.tl.tl.tl.tl.tl.tl) (mean_all hos) (mean_all hps)) ?_
  rw [decide_eq_true hop]
  refine sx ?_
  have hrm : RMs w0 (ol 35 ra rc rs :: stars oM rs :: ol 35 sa sc ss :: stars oM ss :: ol 83 qa qc qs :: stars oP qs :: ol 83 pa pc ps :: stars oP ps :: H) ra rc rs := RMs.stG
  refine s_callV rfl (lsameMs_s (xs := rs) (ys := ss) hrm.tl.tl hsm.tl.tl.tl.tl) ?_
  rw [decide_eq_true hrs]
  refine sx ?_
  refine s_callV rfl (mbytes_s (ms := ss) hsm.sl.tl.tl.tl.tl (by omega)) ?_
  refine sx ?_
  refine s_callV rfl (mbytes_s (ms := xs) hxs.tl.tl.tl.tl.tl.tl.tl.tl.tl.tl (by omega)) ?_
  have hb1 : bytesM (ss.map Mg.d) = 4 + sumM (ss.map Mg.d) := rfl
  have hb2 : bytesM (xs.map Mg.d) = 4 + sumM (xs.map Mg.d) := rfl
  refine sx ?_
  refine s_ifn rfl (fun t5 => by exfalso; omega) (fun t5 => ?_)
  have stp : StopAt 11 := trivial
  refine sxs ?_
  clear stp
  refine s_ent (ol 35 sa sc ss :: stars oM ss :: ol 83 qa qc qs :: stars oP qs :: ol 83 pa pc ps :: stars oP ps :: H) (Ent.tl (Ent.tl (Ent.tl (Ent.tl (Ent.refl))))) ?_
  refine sx ?_
  refine s_call rfl (apply_s (es := es) (ms := xs) he.tl.tl.tl.tl.tl.tl (fun e h => (hre e h).tl.tl.tl.tl.tl.tl) hx.tl.tl.tl.tl.tl.tl (by omega) (h8 hzx) hye) ?_
  rintro _ _ ⟨a1, o1, rfl, hi1, _, rfl⟩
  refine ⟨chk_seq, ?_⟩
  refine sx ?_
  refine s_call rfl (apply_s (es := es) (ms := ss) he.tl.tl.tl.tl.tl.tl.tl.tl (fun e h => (hre e h).tl.tl.tl.tl.tl.tl.tl.tl) hsm.tl.tl (by omega) hzs hye) ?_
  rintro _ _ ⟨a2, o2, rfl, hi2, _, rfl⟩
  refine ⟨chk_seq, ?_⟩
  have hf1 : o1.map KV.p = o2.map KV.p := hi1.uniq hi2 fun key => by rw [hss, getM_setl]
  refine sx ?_
  refine s_callV rfl (lsameE_s (xs := o1) (ys := o2) RSl.hd.tl.tl (fun e he => (REe.st he).tl.tl.tl) RSl.hd (fun e he => (REe.st he).tl)) ?_
  rw [decide_eq_true hf1]
  refine sx ?_
  refine s_callV rfl (lsameP_s (xs := ps) (ys := qs) RSl.hd.tl.tl.tl.tl.tl.tl.tl.tl (fun p hp => (RPc.st hp).tl.tl.tl.tl.tl.tl.tl.tl.tl) RSl.hd.tl.tl.tl.tl.tl.tl (fun p hp => (RPc.st hp).tl.tl.tl.tl.tl.tl.tl) (mean_all hps) (mean_all hqs)) ?_
  have stp : StopAt 13 := trivial
  refine sxs ?_
  clear stp
  refine s_ent H (Ent.tl (Ent.tl (Ent.tl (Ent.tl (Ent.tl (Ent.tl (Ent.tl (Ent.tl (Ent.tl (Ent.tl (Ent.refl))))))))))) ?_
  refine sx ?_
  refine s_call rfl (apply_s (es := es) (ms := xs) he hre hx (by omega) (h8 hzx) hye) ?_
  rintro _ _ ⟨a3, o3, rfl, hi3, _, rfl⟩
  refine ⟨chk_seq, ?_⟩
  refine sx ?_
  refine s_call rfl (apply_s (es := es) (ms := ys) he.tl.tl (fun e h => (hre e h).tl.tl) hy.tl.tl (by omega) (h8 hzy) hye) ?_
  rintro _ _ ⟨a4, o4, rfl, hi4, _, rfl⟩
  refine ⟨chk_seq, ?_⟩
  refine sx ?_
  refine s_callV rfl (lsameE_s (xs := o3) (ys := o4) RSl.hd.tl.tl (fun e he => (REe.st he).tl.tl.tl) RSl.hd (fun e he => (REe.st he).tl)) ?_
  have stp : StopAt 15 := trivial
  refine sxs ?_
  clear stp
  refine s_ent (ol 35 none 0 ([] : List Mg) :: H) (Ent.trans (H' := H) (Ent.tl (Ent.tl (Ent.tl (Ent.tl (Ent.refl))))) Ent.nilS) ?_
  refine sx ?_
  refine s_app (xs := ([] : List Mg)) (ys := xs) ?_ (hby := by simp only [List.length_nil]; omega)
  intro c1a c1c
  refine sx ?_
  refine s_app (xs := ([] : List Mg) ++ xs) (ys := ts) ?_ (hby := by simp only [List.nil_append]; omega)
  intro c2a c2c
  rw [List.nil_append]
  have stp : StopAt 17 := trivial
  refine sxs ?_
  clear stp
  refine s_ent (ol 35 none 0 ([] : List Mg) :: ol 35 c2a c2c (xs ++ ts) :: H) Ent.nilS ?_
  refine sx ?_
  refine s_app (xs := ([] : List Mg)) (ys := ys) ?_ (hby := by simp only [List.length_nil]; omega)
  intro d1a d1c
  refine sx ?_
  refine s_app (xs := ([] : List Mg) ++ ys) (ys := ts) ?_ (hby := by simp only [List.nil_append]; omega)
  intro d2a d2c
  rw [List.nil_append]
  have hcm : RMs w0 (ol 35 d2a d2c (ys ++ ts) :: ol 35 c2a c2c (xs ++ ts) :: H) c2a c2c (xs ++ ts) := ⟨RSl.hd.tl, fun m h => by
    rcases List.mem_append.1 h with h | h
    · exact (hx.el m h).tl.tl
    · exact (ht.el m h).tl.tl⟩
  have hdm : RMs w0 (ol 35 d2a d2c (ys ++ ts) :: ol 35 c2a c2c (xs ++ ts) :: H) d2a d2c (ys ++ ts) := ⟨RSl.hd, fun m h => by
    rcases List.mem_append.1 h with h | h
    · exact (hy.el m h).tl.tl
    · exact (ht.el m h).tl.tl⟩
  have hzc : ∀ m ∈ xs ++ ts, m.lo.length ≤ 140737488355327 ∧ m.hi.length ≤ 140737488355327 ∧ m.v.length ≤ 140737488355327 := fun m h => (List.mem_append.1 h).elim (hzx m) (hzt m)
  have hzd : ∀ m ∈ ys ++ ts, m.lo.length ≤ 140737488355327 ∧ m.hi.length ≤ 140737488355327 ∧ m.v.length ≤ 140737488355327 := fun m h => (List.mem_append.1 h).elim (hzy m) (hzt m)
  refine sx ?_
  refine s_call rfl (mmeaning_s (ms := xs ++ ts) hcm (by rw [List.length_append]; omega) (h8 hzc)) ?_
  rintro _ _ ⟨ea, ec, eps, rfl, hep, rfl⟩
  refine ⟨chk_seq, ?_⟩
  refine sx ?_
  refine s_call rfl (mmeaning_s (ms := ys ++ ts) hdm.tl.tl (by rw [List.length_append]; omega) (h8 hzd)) ?_
  rintro _ _ ⟨fa, fc, fps, rfl, hfp, rfl⟩
  refine ⟨chk_seq, ?_⟩
  refine sx ?_
  refine s_callV rfl (lsameP_s (xs := eps) (ys := fps) RSl.hd.tl.tl (fun p hp => (RPc.st hp).tl.tl.tl) RSl.hd (fun p hp => (RPc.st hp).tl) (mean_all hep) (mean_all hfp)) ?_
  have stp : StopAt 19 := trivial
  refine sxs ?_
  clear stp
  refine s_cut (ι := Unit) (fun _ => [(0, .slice aa xs.length ca), (1, .slice ab ys.length cb), (16, .bool (decide (ps.map Pc.d = qs.map Pc.d))), (124, .bool false)]) (fun _ => H) (fun _ => True) ?_ (fun _ _ => ?_)
  · by_cases hal : ps.map Pc.d = qs.map Pc.d
    · have hg : ∀ key, getM (xs.map Mg.d) key = getM (ys.map Mg.d) key := fun key => mean_getM hps (by rw [hal]; exact hqs) key
      rw [decide_eq_true hal, decide_eq_true (hi3.uniq hi4 fun key => by rw [hg]), decide_eq_true (hep.uniq hfp fun key => by rw [List.map_append, List.map_append, getM_app, getM_app, hg])]
      refine sx ?_
      exact s_mid () trivial (he := Ent.tl (Ent.tl (Ent.tl (Ent.tl (Ent.tl (Ent.tl (Ent.refl)))))))
    · rw [decide_eq_false hal]
      refine sx ?_
      exact s_mid () trivial (he := Ent.tl (Ent.tl (Ent.tl (Ent.tl (Ent.tl (Ent.tl (Ent.refl)))))))
  obtain ⟨al, hal0⟩ : ∃ al : Bool, al = decide (ps.map Pc.d = qs.map Pc.d) := ⟨_, rfl⟩
  have hiff : (∀ key, getM (xs.map Mg.d) key = getM (ys.map Mg.d) key) ↔ al = true := by
    rw [hal0, decide_eq_true_iff]
    exact ⟨fun h => hps.uniq hqs h, fun h key => mean_getM hps (by rw [h]; exact hqs) key⟩
  rw [← hal0]
  clear hal0 hep hfp hzc hzd hcm hdm hi4 hi3 hf1 hi2 hi1 t5 hb2 hb1 hrm hop hos hrs hsm hsum bss hzs hsub hss hqs hps bsx bt be h8 h9 hye hzt hre he hts ht
  refine sx ?_
  refine s_loop (fun q : KyI => [(0, .slice aa xs.length ca), (1, .slice ab ys.length cb), (16, .bool al), (21, .slice q.a q.ks.length q.c), (22, .int .i64 q.i)]) (fun q => ol 24 q.a q.c q.ks :: .star q.L :: H) (fun q => q.i ≤ xs.length ∧ q.ks.length ≤ 0 + 3 * q.i ∧ (∀ k ∈ q.ks, RBy w0 (.star q.L :: H) k.a k.c k.xs) ∧ Edg (q.ks.map SB.xs) ((xs.take q.i).map Mg.d)) (fun q => xs.length - q.i) ⟨0, none, 0, [], []⟩ ⟨Nat.zero_le _, Nat.zero_le _, fun k h => (by cases h), fun m h => by simp at h⟩ ?_ (he := Ent.trans (H' := .star [] :: H) Ent.star0 Ent.nilS)
  rintro ⟨i, ya, yc, ks, L⟩ ⟨g1, g2, g3, g5⟩
  simp only at g1 g2 g3  g5 ⊢
  refine sx ?_
  refine s_if rfl (fun t3 => ?_) (fun t3 => ?_)
  · obtain ⟨m, hmi⟩ := get_lt xs i (by omega)
    obtain ⟨r1, r2, r3⟩ := hx.el m (List.mem_of_getElem? hmi)
    obtain ⟨z1, z2, z3⟩ := hzx m (List.mem_of_getElem? hmi)
    refine sx ?_; refine s_drR (ol 24 ya yc ks) (by exact rm) (.one true 0 (.one true 1 (.one true 2 (.one true 3 (.one true 4 (.one true 5 (.one true 6 (.one true 7 (.one true 8 (.one true 9 (.one true 10 (.one true 11 (.one true 12 (.one true 13 (.one true 14 (.one true 15 (.one false 16 (.one false 17 (.one false 18 (.one true 19 .nil)))))))))))))))))))) mixed (by kernel_rfl) ?_; refine sx ?_
    refine s_call rfl (mnext_s (xs := m.lo) r1.tl.tl z1) ?_
    rintro _ _ ⟨na, nc, rfl, rfl⟩
    refine ⟨chk_held (Ent.tl (Ent.tl Ent.refl)), ?_⟩
    refine sx ?_
    refine s_bsl [(⟨m.la, m.lc, m.lo⟩ : SB), ⟨m.ha, m.hc, m.hi⟩, ⟨na, nc, m.lo ++ [0]⟩] rfl rfl (fun b59 => ?_) (hk := by intros; exact chk_held (Ent.tl (Ent.tl (Ent.tl Ent.refl))))
    refine s_app (xs := ks) (ys := [(⟨m.la, m.lc, m.lo⟩ : SB), ⟨m.ha, m.hc, m.hi⟩, ⟨na, nc, m.lo ++ [0]⟩]) ?_ (hby := by simp only [List.length_cons, List.length_nil]; omega) (hk := by intros; exact chk_held (Ent.tl (Ent.tl (Ent.tl Ent.refl))))
    intro a4 c4
    refine sx ?_
    have hK : (ks ++ [(⟨m.la, m.lc, m.lo⟩ : SB), ⟨m.ha, m.hc, m.hi⟩, ⟨na, nc, m.lo ++ [0]⟩]).map SB.xs = ks.map SB.xs ++ [m.lo, m.hi, m.lo ++ [0]] := by simp
    refine s_again ⟨i + 1, a4, c4, ks ++ [(⟨m.la, m.lc, m.lo⟩ : SB), ⟨m.ha, m.hc, m.hi⟩, ⟨na, nc, m.lo ++ [0]⟩], ob na nc (m.lo ++ [0]) :: L⟩ ⟨by simp only; omega, by simp only [List.length_append, List.length_cons, List.length_nil]; omega, fun k hk => ?_, ?_⟩ (by simp only; omega) (he := ?_)
    · have key : ∀ k ∈ ks ++ [(⟨m.la, m.lc, m.lo⟩ : SB), ⟨m.ha, m.hc, m.hi⟩, ⟨na, nc, m.lo ++ [0]⟩], RBy w0 (ob na nc (m.lo ++ [0]) :: .star L :: H) k.a k.c k.xs := fun k hk => by
        rcases List.mem_append.1 hk with hk | hk
        · exact (g3 k hk).tl
        · simp only [List.mem_cons, List.not_mem_nil, or_false] at hk
          rcases hk with rfl | rfl | rfl
          · exact r1.tl.tl
          · exact r2.tl.tl
          · exact RBy.hd
      exact (key k hk).ent (Ent.open (Ent.head (Ent.star Ent.refl)))
    · simp only
      rw [hK, snocT hmi, List.map_append]
      intro y hy'
      rcases List.mem_append.1 hy' with hy' | hy'
      · exact edg_app g5 y hy'
      · simp only [List.map_cons, List.map_nil, List.mem_singleton] at hy'
        rw [hy']
        exact ⟨by simp, by simp, by simp⟩
    · exact Ent.trans (H' := ol 24 a4 c4 (ks ++ [(⟨m.la, m.lc, m.lo⟩ : SB), ⟨m.ha, m.hc, m.hi⟩, ⟨na, nc, m.lo ++ [0]⟩]) :: ob na nc (m.lo ++ [0]) :: .star L :: H) (by exact entq) (Ent.head (Ent.star (Ent.head (Ent.open Ent.refl))))
  obtain rfl : i = xs.length := by omega
  rw [List.take_length] at g5
  refine sx ?_
  refine s_loop (fun q : KyI => [(0, .slice aa xs.length ca), (1, .slice ab ys.length cb), (16, .bool al), (21, .slice q.a q.ks.length q.c), (23, .int .i64 q.i)]) (fun q => ol 24 q.a q.c q.ks :: .star q.L :: H) (fun q => q.i ≤ ys.length ∧ q.ks.length ≤ 3 * xs.length + 3 * q.i ∧ (∀ k ∈ q.ks, RBy w0 (.star q.L :: H) k.a k.c k.xs) ∧ Edg (q.ks.map SB.xs) (xs.map Mg.d) ∧ Edg (q.ks.map SB.xs) ((ys.take q.i).map Mg.d)) (fun q => ys.length - q.i) ⟨0, ya, yc, ks, L⟩ ⟨Nat.zero_le _, by simp only; omega, g3, g5, fun m h => by simp at h⟩ ?_
  rintro ⟨i, ya, yc, ks, L⟩ ⟨g1, g2, g3, g4, g5⟩
  simp only at g1 g2 g3 g4 g5 ⊢
  refine sx ?_
  refine s_if rfl (fun t3 => ?_) (fun t3 => ?_)
  · obtain ⟨m, hmi⟩ := get_lt ys i (by omega)
    obtain ⟨r1, r2, r3⟩ := hy.el m (List.mem_of_getElem? hmi)
    obtain ⟨z1, z2, z3⟩ := hzy m (List.mem_of_getElem? hmi)
    refine sx ?_; refine s_drR (ol 24 ya yc ks) (by exact rm) (.one true 0 (.one true 1 (.one true 2 (.one true 3 (.one true 4 (.one true 5 (.one true 6 (.one true 7 (.one true 8 (.one true 9 (.one true 10 (.one true 11 (.one true 12 (.one true 13 (.one true 14 (.one true 15 (.one false 16 (.one false 17 (.one false 18 (.one true 19 .nil)))))))))))))))))))) mixed (by kernel_rfl) ?_; refine sx ?_
    refine s_call rfl (mnext_s (xs := m.lo) r1.tl.tl z1) ?_
    rintro _ _ ⟨na, nc, rfl, rfl⟩
    refine ⟨chk_held (Ent.tl (Ent.tl Ent.refl)), ?_⟩
    refine sx ?_
    refine s_bsl [(⟨m.la, m.lc, m.lo⟩ : SB), ⟨m.ha, m.hc, m.hi⟩, ⟨na, nc, m.lo ++ [0]⟩] rfl rfl (fun b59 => ?_) (hk := by intros; exact chk_held (Ent.tl (Ent.tl (Ent.tl Ent.refl))))
    refine s_app (xs := ks) (ys := [(⟨m.la, m.lc, m.lo⟩ : SB), ⟨m.ha, m.hc, m.hi⟩, ⟨na, nc, m.lo ++ [0]⟩]) ?_ (hby := by simp only [List.length_cons, List.length_nil]; omega) (hk := by intros; exact chk_held (Ent.tl (Ent.tl (Ent.tl Ent.refl))))
    intro a4 c4
    refine sx ?_
    have hK : (ks ++ [(⟨m.la, m.lc, m.lo⟩ : SB), ⟨m.ha, m.hc, m.hi⟩, ⟨na, nc, m.lo ++ [0]⟩]).map SB.xs = ks.map SB.xs ++ [m.lo, m.hi, m.lo ++ [0]] := by simp
    refine s_again ⟨i + 1, a4, c4, ks ++ [(⟨m.la, m.lc, m.lo⟩ : SB), ⟨m.ha, m.hc, m.hi⟩, ⟨na, nc, m.lo ++ [0]⟩], ob na nc (m.lo ++ [0]) :: L⟩ ⟨by simp only; omega, by simp only [List.length_append, List.length_cons, List.length_nil]; omega, fun k hk => ?_, by simp only; rw [hK]; exact edg_app g4, ?_⟩ (by simp only; omega) (he := ?_)
    · have key : ∀ k ∈ ks ++ [(⟨m.la, m.lc, m.lo⟩ : SB), ⟨m.ha, m.hc, m.hi⟩, ⟨na, nc, m.lo ++ [0]⟩], RBy w0 (ob na nc (m.lo ++ [0]) :: .star L :: H) k.a k.c k.xs := fun k hk => by
        rcases List.mem_append.1 hk with hk | hk
        · exact (g3 k hk).tl
        · simp only [List.mem_cons, List.not_mem_nil, or_false] at hk
          rcases hk with rfl | rfl | rfl
          · exact r1.tl.tl
          · exact r2.tl.tl
          · exact RBy.hd
      exact (key k hk).ent (Ent.open (Ent.head (Ent.star Ent.refl)))
    · simp only
      rw [hK, snocT hmi, List.map_append]
      intro y hy'
      rcases List.mem_append.1 hy' with hy' | hy'
      · exact edg_app g5 y hy'
      · simp only [List.map_cons, List.map_nil, List.mem_singleton] at hy'
        rw [hy']
        exact ⟨by simp, by simp, by simp⟩
    · exact Ent.trans (H' := ol 24 a4 c4 (ks ++ [(⟨m.la, m.lc, m.lo⟩ : SB), ⟨m.ha, m.hc, m.hi⟩, ⟨na, nc, m.lo ++ [0]⟩]) :: ob na nc (m.lo ++ [0]) :: .star L :: H) (by exact entq) (Ent.head (Ent.star (Ent.head (Ent.open Ent.refl))))
  obtain rfl : i = ys.length := by omega
  rw [List.take_length] at g5
  have hks : RSl w0 (ol 24 ya yc ks :: .star L :: H) ya yc ks := RSl.hd
  refine sx ?_
  refine s_loop (fun q : MmI => [(0, .slice aa xs.length ca), (1, .slice ab ys.length cb), (16, .bool al), (21, .slice ya ks.length yc), (24, .bool q.B), (25, .int .i64 q.j)]) (fun _ => ol 24 ya yc ks :: .star L :: H) (fun q => q.j ≤ ks.length ∧ (q.B = true ↔ ∀ k ∈ ks.take q.j, getM (xs.map Mg.d) k.xs = getM (ys.map Mg.d) k.xs)) (fun q => ks.length - q.j) ⟨0, true⟩ ⟨Nat.zero_le _, by simp⟩ ?_
  rintro ⟨j, B⟩ ⟨h1, h2⟩
  simp only at h1 h2 ⊢
  refine sx ?_
  refine s_if rfl (fun t4 => ?_) (fun t4 => ?_)
  · obtain ⟨k, hkj⟩ := get_lt ks j (by omega)
    have hkb : RBy w0 (ol 24 ya yc ks :: .star L :: H) k.a k.c k.xs := (g3 k (List.mem_of_getElem? hkj)).tl
    have hsn : ∀ C : Bool, (C = true ↔ B = true ∧ getM (xs.map Mg.d) k.xs = getM (ys.map Mg.d) k.xs) → (C = true ↔ ∀ k ∈ ks.take (j + 1), getM (xs.map Mg.d) k.xs = getM (ys.map Mg.d) k.xs) := fun C hC => by
      rw [hC, h2, snocT hkj]
      constructor
      · rintro ⟨e1, e2⟩ y hy'
        rcases List.mem_append.1 hy' with hy' | hy'
        · exact e1 y hy'
        · rw [List.mem_singleton.1 hy']; exact e2
      · exact fun e => ⟨fun y hy' => e y (List.mem_append_left _ hy'), e k (by simp)⟩
    refine sx ?_
    refine s_call rfl (mget_s (ms := xs) (key := k.xs) hx.tl.tl hkb (fun m h => by have := hzx m h; omega)) ?_
    rintro _ _ ⟨ua, uc, rfl, rfl⟩
    refine ⟨chk_seq, ?_⟩
    refine sx ?_
    refine s_call rfl (mget_s (ms := ys) (key := k.xs) hy.tl.tl.tl hkb.tl (fun m h => by have := hzy m h; omega)) ?_
    rintro _ _ ⟨va, vc, rfl, rfl⟩
    refine ⟨chk_seq, ?_⟩
    generalize getM (xs.map Mg.d) k.xs = G at hsn ⊢
    generalize getM (ys.map Mg.d) k.xs = G' at hsn ⊢
    cases B
    · refine sx ?_
      exact s_again ⟨j + 1, false⟩ ⟨by simp only; omega, hsn false (by simp)⟩ (by simp only; omega)
    · rcases G with _ | (_ | g) <;> rcases G' with _ | (_ | g')
      · refine sx ?_
        exact s_again ⟨j + 1, true⟩ ⟨by simp only; omega, hsn true (by simp)⟩ (by simp only; omega)
      · refine sx ?_
        exact s_again ⟨j + 1, false⟩ ⟨by simp only; omega, hsn false (by simp)⟩ (by simp only; omega)
      · refine sx ?_
        exact s_again ⟨j + 1, false⟩ ⟨by simp only; omega, hsn false (by simp)⟩ (by simp only; omega)
      · refine sx ?_
        exact s_again ⟨j + 1, false⟩ ⟨by simp only; omega, hsn false (by simp)⟩ (by simp only; omega)
      · refine sx ?_
        exact s_again ⟨j + 1, true⟩ ⟨by simp only; omega, hsn true (by simp)⟩ (by simp only; omega)
      · refine sx ?_
        exact s_again ⟨j + 1, false⟩ ⟨by simp only; omega, hsn false (by simp)⟩ (by simp only; omega)
      · refine sx ?_
        exact s_again ⟨j + 1, false⟩ ⟨by simp only; omega, hsn false (by simp)⟩ (by simp only; omega)
      · refine sx ?_
        exact s_again ⟨j + 1, false⟩ ⟨by simp only; omega, hsn false (by simp)⟩ (by simp only; omega)
      · refine sx ?_
        exact s_again ⟨j + 1, decide (g = g')⟩ ⟨by simp only; omega, hsn _ (by simp)⟩ (by simp only; omega)
  · obtain rfl : j = ks.length := by omega
    rw [List.take_length] at h2
    have hBal : B = al := by
      cases hal : al
      · cases B
        · rfl
        · exfalso
          have : al = true := hiff.1 fun key => edg_same (K := ks.map SB.xs) g4 g5 (fun k hk => by
            obtain ⟨y, hy', rfl⟩ := List.mem_map.1 hk
            exact h2.1 rfl y hy') key
          rw [hal] at this; cases this
      · exact h2.2 fun k _ => hiff.2 hal k.xs
    rw [← hBal]
    refine sx ?_
    refine s_ret1 rfl rfl ⟨?_, rfl⟩
    cases B <;> rfl
end Go.Sx
