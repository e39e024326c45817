/- Part of a proof: several parts of a walk, one behind the other. -/
import Derived.Test.YtimakbpghggdfaaGreatCKB
import Derived.Test.YtimakbpghggdfaaGreatCGH
import Derived.Test.YtimakbpghggdfaaGreatCGI
import Derived.Test.YtimakbpghggdfaaGreatCZI
namespace Go.Sx
open Go Go.Proofs
set_option maxRecDepth 10000
variable {w0 : World} {H : List Ck}
/-- A message of the examples. -/
abbrev LmR (w0 : World) (H : List Ck) (d : MD) : Value → List Ck → Prop := fun v H' => ∃ (m : Mg) (L : List Ck), v = .agg m.cells.toArray ∧ m.d = d ∧ H' = .star L :: H ∧ ∀ H0, RMg w0 (.star L :: H0) m
theorem ro2 {k k' c c' : Nat} {lo v : Bs} (g1 : lo.length ≤ c) (g2 : c ≤ maxLen) (g1' : v.length ≤ c') (g2' : c' ≤ maxLen) (H0 : List Ck) :
    RBy w0 (.star [Ck.ro k' (v.map bv), Ck.ro k (lo.map bv)] :: H0) (some ⟨k, 0, none⟩) c lo ∧ RBy w0 (.star [Ck.ro k' (v.map bv), Ck.ro k (lo.map bv)] :: H0) (some ⟨k', 0, none⟩) c' v :=
  ⟨RBy.ent (RBy.roc (H := []) g1 g2) (Ent.mem' (c := Ck.ro k (lo.map bv)) (by simp)), RBy.ent (RBy.roc (H := []) g1' g2') (Ent.mem' (c := Ck.ro k' (v.map bv)) (by simp))⟩
theorem lput_s {st : Int} {lo v : Bs} (h1 : lo.length ≤ maxLen) (h2 : v.length ≤ maxLen) : FnS Tryz.prog w0 H 29 #[.int .u64 st, str lo, str v] (LmR w0 H ⟨st, 1, lo, [], v⟩) := by
  refine fns_enter Tryz.func29 rfl rfl rfl ?_
  refine sx ?_
  refine s_alloc fun b4 => ?_
  refine sx ?_
  refine s_s2b rfl h1 ?_
  intro k c g1 g2
  refine sx ?_
  refine s_s2b rfl h2 ?_
  intro k' c' g1' g2'
  refine sx ?_
  refine s_retc rfl rfl (by exact at_) rfl ⟨⟨st, 1, some ⟨k, 0, none⟩, c, lo, none, 0, [], some ⟨k', 0, none⟩, c', v⟩, [Ck.ro k' (v.map bv), Ck.ro k (lo.map bv)], rfl, rfl, rfl, fun H0 => ⟨(ro2 g1 g2 g1' g2' H0).1, RBy.nil, (ro2 g1 g2 g1' g2' H0).2⟩⟩ ?_
  refine Ent.trans (H' := Ck.ro k' (v.map bv) :: Ck.ro k (lo.map bv) :: H) (by exact ent) ?_
  exact Ent.star (L := [Ck.ro k' (v.map bv), Ck.ro k (lo.map bv)]) Ent.refl
theorem lgone_s {st : Int} {lo v : Bs} (h1 : lo.length ≤ maxLen) (h2 : v.length ≤ maxLen) : FnS Tryz.prog w0 H 28 #[.int .u64 st, str lo, str v] (LmR w0 H ⟨st, 3, lo, v, []⟩) := by
  refine fns_enter Tryz.func28 rfl rfl rfl ?_
  refine sx ?_
  refine s_alloc fun b4 => ?_
  refine sx ?_
  refine s_s2b rfl h1 ?_
  intro k c g1 g2
  refine sx ?_
  refine s_s2b rfl h2 ?_
  intro k' c' g1' g2'
  refine sx ?_
  refine s_retc rfl rfl (by exact at_) rfl ⟨⟨st, 3, some ⟨k, 0, none⟩, c, lo, some ⟨k', 0, none⟩, c', v, none, 0, []⟩, [Ck.ro k' (v.map bv), Ck.ro k (lo.map bv)], rfl, rfl, rfl, fun H0 => ⟨(ro2 g1 g2 g1' g2' H0).1, (ro2 g1 g2 g1' g2' H0).2, RBy.nil⟩⟩ ?_
  refine Ent.trans (H' := Ck.ro k' (v.map bv) :: Ck.ro k (lo.map bv) :: H) (by exact ent) ?_
  exact Ent.star (L := [Ck.ro k' (v.map bv), Ck.ro k (lo.map bv)]) Ent.refl
theorem ldel_s {st : Int} {lo : Bs} (h1 : lo.length ≤ maxLen) : FnS Tryz.prog w0 H 30 #[.int .u64 st, str lo] (LmR w0 H ⟨st, 2, lo, [], []⟩) := by
  refine fns_enter Tryz.func30 rfl rfl rfl ?_
  refine sx ?_
  refine s_alloc fun b4 => ?_
  refine sx ?_
  refine s_s2b rfl h1 ?_
  intro k c g1 g2
  refine sx ?_
  refine s_retc rfl rfl (by exact at_) rfl ⟨⟨st, 2, some ⟨k, 0, none⟩, c, lo, none, 0, [], none, 0, []⟩, [Ck.ro k (lo.map bv)], rfl, rfl, rfl, fun H0 => ⟨RBy.ent (RBy.roc (H := []) g1 g2) (Ent.mem' (c := Ck.ro k (lo.map bv)) (by simp)), RBy.nil, RBy.nil⟩⟩ ?_
  refine Ent.trans (H' := Ck.ro k (lo.map bv) :: H) (by exact ent) ?_
  exact Ent.star (L := [Ck.ro k (lo.map bv)]) Ent.refl
end Go.Sx
namespace Go.Sx
open Go
abbrev x1 : MD := ⟨1, 3, [97], [102], []⟩
abbrev x2 : MD := ⟨2, 1, [99], [], [120]⟩
abbrev x3 : MD := ⟨3, 2, [107], [], []⟩
abbrev rK : T3 := ([107], [107, 0], false)
abbrev rC : T3 := ([99], [99, 0], false)
abbrev rA : T3 := ([97], [102], false)
theorem cv_of {l rs c : List T3} (hp : rs.Perm ((l.filter fun d => !emR d).map foR)) (hs : LoS rs) (e : rs.foldl cvP [] = c) : IsCv l c := e ▸ cvP_is hp hs
theorem ex_cv1 : IsCv ([] ++ [saidR x3]) [rK] := cv_of (rs := [rK]) (by decide) (by decide) (by decide)
theorem ex_cv2 : IsCv ([rK] ++ [saidR x2]) [rC, rK] := cv_of (rs := [rC, rK]) (by decide) (by decide) (by decide)
theorem ex_cv3 : IsCv ([rC, rK] ++ [saidR x1]) [rA, rK] := cv_of (rs := [rA, rC, rK]) (by decide) (by decide) (by decide)
theorem ex_cv4 : IsCv [rK, ([97], [99], false), ([99, 0], [102], false)] [([97], [99], false), ([99, 0], [102], false), rK] := cv_of (rs := [([97], [99], false), ([99, 0], [102], false), rK]) (by decide) (by decide) (by decide)
abbrev exP : List PD := [⟨false, [], [], ([97], [99], false)⟩, ⟨true, [99], [120], t30⟩, ⟨false, [], [], ([99, 0], [102], false)⟩, ⟨false, [], [], rK⟩]
theorem ex_st : MnSt [x1, x2, x3] [rA, rK] [rK, ([97], [99], false), ([99, 0], [102], false)] [⟨true, [99], [120], t30⟩] := by
  have h1 := MnSt.nil.gone (m := x3) (by decide) ex_cv1
  rw [show ([] : List T3) ++ woR (saidR x3) [] = [rK] by decide] at h1
  have h2 := h1.put (m := x2) (by decide) rfl ex_cv2
  have h3 := h2.gone (m := x1) (by decide) ex_cv3
  rw [show [rK] ++ woR (saidR x1) [rC, rK] = [rK, ([97], [99], false), ([99, 0], [102], false)] by decide] at h3
  exact h3
theorem ex_mean : IsMean [x1, x2, x3] exP := mean_of ex_st ex_cv4 (by decide) (by decide)
end Go.Sx
namespace Go.Sx
open Go Go.Proofs
set_option maxRecDepth 10000
variable {w0 : World} {H : List Ck}
abbrev x5 : MD := ⟨5, 2, [97], [], []⟩
abbrev y1 : MD := ⟨1, 1, [98], [], [120]⟩
abbrev y2 : MD := ⟨2, 3, [97], [99], []⟩
abbrev z1 : MD := ⟨2, 1, [97], [], [120]⟩
abbrev z2 : MD := ⟨2, 2, [98], [], []⟩
theorem ex_get : getM [x1, x2, x3] [99] = some (some [120]) := by decide
theorem ex_chk : chkM 512 [x1, x2, x3] = 0 := by decide
theorem ex_chk5 : chkM 512 [x5] = 0 := by decide
theorem ex_chkz : chkM 512 [z1, z2] = 72 := by decide
theorem ex_enc : (encL 512 [x5]).length = 18 := by decide
theorem ex_dec : decM 512 (encL 512 [x5]) = some [x5] := by decide
theorem ex_set : setlL [y1, y2] = [y2] := by
  have h2 : KeepM y2 [] := ⟨[97], by decide, rfl⟩
  have h1 : ¬ KeepM y1 [y2] := by
    rintro ⟨key, hk, hg⟩
    rw [show saidR y1 = ([98], [98] ++ [0], false) from rfl, has_one] at hk
    rw [hk] at hg
    revert hg; decide
  rw [setl_no h1, setl_yes h2]; rfl
theorem RMg.of {m : Mg} {L : List Ck} {H' : List Ck} (h : ∀ H0, RMg w0 (.star L :: H0) m) (e : Ent H' [.star L]) : RMg w0 H' m := RMg.ent (h []) e
set_option maxHeartbeats 4000000 in
theorem lawake_s : FnS Tryz.prog w0 H 7 #[] (fun v H' => v = .bool true ∧ H' = H) := by
  refine fns_enter Tryz.func7 rfl rfl rfl ?_
  refine sx ?_
  refine s_call rfl (lgone_s (st := 1) (lo := [97]) (v := [102]) (by decide) (by decide)) ?_
  rintro _ _ ⟨m1, L1, rfl, d1, rfl, r1⟩
  refine ⟨chk_seq, ?_⟩
  refine sx ?_
  refine s_call rfl (lput_s (st := 2) (lo := [99]) (v := [120]) (by decide) (by decide)) ?_
  rintro _ _ ⟨m2, L2, rfl, d2, rfl, r2⟩
  refine ⟨chk_seq, ?_⟩
  refine sx ?_
  refine s_call rfl (ldel_s (st := 3) (lo := [107]) (by decide)) ?_
  rintro _ _ ⟨m3, L3, rfl, d3, rfl, r3⟩
  refine ⟨chk_seq, ?_⟩
  refine sx ?_
  refine s_bsl [m1, m2, m3] rfl rfl fun b17 => ?_
  have hd : [m1, m2, m3].map Mg.d = [x1, x2, x3] := by simp only [List.map_cons, List.map_nil, d1, d2, d3]
  have hz : ∀ m ∈ [m1, m2, m3], m.lo.length ≤ 140737488355327 ∧ m.hi.length ≤ 140737488355328 ∧ m.v.length ≤ 140737488355328 := fun m hm => by
    have h : m.d ∈ [x1, x2, x3] := by rw [← hd]; exact List.mem_map.2 ⟨m, hm, rfl⟩
    have e : ∀ d ∈ [x1, x2, x3], d.lo.length ≤ 140737488355327 ∧ d.hi.length ≤ 140737488355328 ∧ d.v.length ≤ 140737488355328 := by decide
    exact e _ h
  have hm : RMs w0 (ol 35 (some ⟨b17, 0, none⟩) 3 [m1, m2, m3] :: .star L3 :: .star L2 :: .star L1 :: H) (some ⟨b17, 0, none⟩) 3 [m1, m2, m3] := ⟨RSl.hd, fun m hm => by
    simp only [List.mem_cons, List.not_mem_nil, or_false] at hm
    rcases hm with rfl | rfl | rfl
    · exact (r1 _).tl.tl.tl
    · exact (r2 _).tl.tl
    · exact (r3 _).tl⟩
  refine sx ?_
  refine s_call rfl (mmeaning_s (ms := [m1, m2, m3]) hm (by simp only [List.length_cons, List.length_nil]; omega) hz) ?_
  rintro _ _ ⟨pa, pc, ps, rfl, hme, rfl⟩
  refine ⟨chk_seq, ?_⟩
  rw [hd] at hme
  have hpd := hme.uniq ex_mean fun _ => rfl
  obtain ⟨p0, p1, p2, p3, rfl⟩ : ∃ p0 p1 p2 p3, ps = [p0, p1, p2, p3] := by
    rcases ps with _ | ⟨p0, _ | ⟨p1, _ | ⟨p2, _ | ⟨p3, _ | ⟨p4, t⟩⟩⟩⟩⟩ <;> simp [exP] at hpd ⊢
  simp only [List.map_cons, List.map_nil, List.cons.injEq, and_true] at hpd
  obtain ⟨v0, v1, v2, v3⟩ := hpd
  have hp3 : p1.put = true := congrArg PD.put v1
  have hg0 : p0.g.hi = [99] := congrArg (fun d => d.gn.2.1) v0
  have hg2 : p2.g.lo = [99, 0] := congrArg (fun d => d.gn.1) v2
  refine sx ?_
  refine s_bsl ([99] : Bs) rfl rfl fun b22 => ?_
  refine sx ?_
  refine s_convb rfl (by exact at_) ?_
  refine sx ?_
  refine s_call rfl (mget_s (ms := [m1, m2, m3]) (key := [99]) ⟨hm.sl.tl.tl.tl, fun m h => (hm.el m h).tl.tl.tl⟩ (RBy.ro (xs := [99]) rfl (by decide)) (fun m h => ⟨(hz m h).1, (hz m h).2.2⟩)) ?_
  rw [hd, ex_get, show (some (some ([120] : Bs))).isSome = true from rfl, show isM (some (some [120])) = true from rfl, show valM (some (some [120])) = [120] from rfl]
  rintro _ _ ⟨va, vc, rfl, rfl⟩
  refine ⟨chk_seq, ?_⟩
  refine sx ?_
  refine s_call rfl (ldel_s (st := 5) (lo := [97]) (by decide)) ?_
  rintro _ _ ⟨m5, L5, rfl, d5, rfl, r5⟩
  refine ⟨chk_seq, ?_⟩
  refine sx ?_
  refine s_bsl [m5] rfl rfl fun b30 => ?_
  have hd5 : [m5].map Mg.d = [x5] := by simp only [List.map_cons, List.map_nil, d5]
  refine sx ?_
  refine s_call rfl (mencode_s (size := 512) (ms := [m5]) ⟨RSl.hd, fun m hm => by rw [List.mem_singleton.1 hm]; exact (r5 _).tl⟩ (by rw [hd5]; decide)) ?_
  rw [hd5, ex_chk5]
  rintro _ _ ⟨ea, ec, rfl, rfl⟩
  refine ⟨chk_seq, ?_⟩
  refine sx ?_
  refine s_call rfl (mdecode_s (size := 512) (xs := encL 512 [x5]) RBy.hd (by rw [ex_enc]; omega)) ?_
  rintro _ _ ⟨la, lc, ls, rfl, hls, rfl⟩
  refine ⟨chk_seq, ?_⟩
  rw [ex_dec] at hls
  have hls : ls.map Mg.d = [x5] := hls
  have hln : ls.length = 1 := by rw [← List.length_map (f := Mg.d), hls]; rfl
  rw [show decME 512 (encL 512 [x5]) = 0 by unfold decME; rw [ex_dec]; rfl]
  refine sx ?_
  refine s_call rfl (lput_s (st := 1) (lo := [98]) (v := [120]) (by decide) (by decide)) ?_
  rintro _ _ ⟨n1, K1, rfl, e1, rfl, q1⟩
  refine ⟨chk_seq, ?_⟩
  refine sx ?_
  refine s_call rfl (lgone_s (st := 2) (lo := [97]) (v := [99]) (by decide) (by decide)) ?_
  rintro _ _ ⟨n2, K2, rfl, e2, rfl, q2⟩
  refine ⟨chk_seq, ?_⟩
  refine sx ?_
  refine s_bsl [n1, n2] rfl rfl fun b41 => ?_
  have hdn : [n1, n2].map Mg.d = [y1, y2] := by simp only [List.map_cons, List.map_nil, e1, e2]
  refine sx ?_
  refine s_call rfl (msettle_s (ms := [n1, n2]) ⟨RSl.hd, fun m hm => ?_⟩ (by simp only [List.length_cons, List.length_nil]; omega) (fun m hm => ?_)) ?_
  · simp only [List.mem_cons, List.not_mem_nil, or_false] at hm
    rcases hm with rfl | rfl
    · exact (q1 _).tl.tl
    · exact (q2 _).tl
  · have h : m.d ∈ [y1, y2] := by rw [← hdn]; exact List.mem_map.2 ⟨m, hm, rfl⟩
    have e : ∀ d ∈ [y1, y2], d.lo.length ≤ 140737488355327 ∧ d.hi.length ≤ 140737488355328 ∧ d.v.length ≤ 140737488355328 := by decide
    exact e _ h
  rintro _ _ ⟨sa, sc, ss, rfl, hss, rfl⟩
  refine ⟨chk_seq, ?_⟩
  rw [hdn, ex_set] at hss
  have hsn : ss.length = 1 := by rw [← List.length_map (f := Mg.d), hss]; rfl
  refine sx ?_
  refine s_entL (ol 35 (some ⟨b17, 0, none⟩) 3 [m1, m2, m3] :: .star L3 :: .star L2 :: .star L1 :: ol 83 pa pc [p0, p1, p2, p3] :: stars oP [p0, p1, p2, p3] :: ob ea ec (encL 512 [x5]) :: ob va vc [120] :: H) (by exact entq) ?_
  refine s_callV rfl (mcheck_s (size := 512) (ms := [m1, m2, m3]) ⟨RSl.ent hm.sl (by exact ent), fun m h => RMg.ent (hm.el m h) (by exact ent)⟩) ?_
  rw [hd, ex_chk]
  refine sx ?_
  refine s_call rfl (lput_s (st := 2) (lo := [97]) (v := [120]) (by decide) (by decide)) ?_
  rintro _ _ ⟨u1, U1, rfl, f1, rfl, t1⟩
  refine ⟨chk_seq, ?_⟩
  refine sx ?_
  refine s_call rfl (ldel_s (st := 2) (lo := [98]) (by decide)) ?_
  rintro _ _ ⟨u2, U2, rfl, f2, rfl, t2⟩
  refine ⟨chk_seq, ?_⟩
  refine sx ?_
  refine s_bsl [u1, u2] rfl rfl fun b49 => ?_
  have hdu : [u1, u2].map Mg.d = [z1, z2] := by simp only [List.map_cons, List.map_nil, f1, f2]
  refine sx ?_
  refine s_callV rfl (mcheck_s (size := 512) (ms := [u1, u2]) ⟨RSl.hd, fun m hm => ?_⟩) ?_
  · simp only [List.mem_cons, List.not_mem_nil, or_false] at hm
    rcases hm with rfl | rfl
    · exact (t1 _).tl.tl
    · exact (t2 _).tl
  rw [hdu, ex_chkz]
  refine sx ?_
  refine s_rw (t := 56) (v' := .bool true) rfl rfl ?_
  have hpb : RBy w0 (ol 83 pa pc [p0, p1, p2, p3] :: stars oP [p0, p1, p2, p3] :: ob ea ec (encL 512 [x5]) :: ob va vc [120] :: H) p0.g.ha p0.g.hc p0.g.hi := (RBy.ent (H' := oP p0) RBy.hd.tl.tl.tl (stars_mem (by simp))).tl
  have hpc : RBy w0 (ol 83 pa pc [p0, p1, p2, p3] :: stars oP [p0, p1, p2, p3] :: ob ea ec (encL 512 [x5]) :: ob va vc [120] :: H) p2.g.la p2.g.lc p2.g.lo := (RBy.ent (H' := oP p2) RBy.hd.tl.tl (stars_mem (by simp))).tl
  have hpq : RSl w0 (ol 83 pa pc [p0, p1, p2, p3] :: stars oP [p0, p1, p2, p3] :: ob ea ec (encL 512 [x5]) :: ob va vc [120] :: H) pa pc [p0, p1, p2, p3] := RSl.hd
  have lt0 : 0 < [p0, p1, p2, p3].length := by simp
  have lt1 : 1 < [p0, p1, p2, p3].length := by simp
  have lt2 : 2 < [p0, p1, p2, p3].length := by simp
  refine s_entL (ol 83 pa pc [p0, p1, p2, p3] :: stars oP [p0, p1, p2, p3] :: ob ea ec (encL 512 [x5]) :: ob va vc [120] :: H) (by exact entq) ?_
  refine sx ?_
  refine s_rw (t := 60) (v' := .pointer (some (((gA pa).add (0 * 6)).add 4))) rfl (by rw [add_add (_) 3 1]) ?_
  refine sx ?_
  refine s_rw (t := 65) (v' := .bool true) rfl (by rw [hg0]; rfl) ?_
  refine sx ?_
  refine s_rw (t := 71) (v' := .bool true) rfl (by rw [hp3]) ?_
  refine sx ?_
  refine s_rw (t := 75) (v' := .pointer (some (((gA pa).add (2 * 6)).add 3))) rfl (by rw [add_add (_) 3 0]) ?_
  refine sx ?_
  refine s_rw (t := 107) (v' := .bool true) rfl (by rw [hln]; rfl) ?_
  refine sx ?_
  refine s_rw (t := 116) (v' := .bool true) rfl (by rw [hg2]; rfl) ?_
  refine s_rw (t := 13) (v' := .bool true) rfl (by rw [hsn]; rfl) ?_
  refine sx ?_
  exact s_ret1 rfl rfl ⟨rfl, rfl⟩ (by exact ent)
end Go.Sx
namespace Go.Sx
open Go Go.Proofs
set_option maxRecDepth 10000
variable {w0 : World} {H : List Ck}
theorem lweight_s {m : Mg} (h1 : m.lo.length ≤ 140737488355328) (h2 : m.hi.length ≤ 140737488355328) (h3 : m.v.length ≤ 140737488355328) : FnV Tryz.prog w0 H 34 #[.agg m.cells.toArray] (.int .i64 (lenM m.d : Nat)) := by
  refine fns_enter Tryz.func34 rfl rfl rfl ?_
  have e : lenM m.d = 13 + m.lo.length + m.hi.length + m.v.length := rfl
  refine sx ?_
  refine s_boxA rfl fun b1 => ?_
  refine sx ?_
  exact s_ret1 rfl rfl ⟨ci (by omega), rfl⟩
theorem lweights_s {a : Option Addr} {c : Nat} {ms : List Mg} (hx : RMs w0 H a c ms) (hz : ∀ m ∈ ms, m.lo.length ≤ 140737488355328 ∧ m.hi.length ≤ 140737488355328 ∧ m.v.length ≤ 140737488355328) :
    FnS Tryz.prog w0 H 9 #[.slice a ms.length c] (fun v H' => ∃ x : Int, v = .int .i64 x ∧ (0 ≤ x ∧ x ≤ 1125899906842624) ∧ (x ≤ 2147483647 → x = (sumM (ms.map Mg.d) : Nat)) ∧ H' = H) := by
  refine fns_enter Tryz.func9 rfl rfl rfl ?_
  have hsl := hx.sl
  refine s_kn (Kn.sl hsl) fun l1 => ?_
  simp only [maxLen] at l1
  refine sx ?_
  refine s_loop (fun i : Nat × Int => [(0, .slice a ms.length c), (3, .int .i64 i.2), (4, .int .i64 i.1)]) (fun _ => H) (fun i => i.1 ≤ ms.length ∧ (0 ≤ i.2 ∧ i.2 ≤ 1125899906842624) ∧ (i.2 ≤ 2147483647 → i.2 = (sumM ((ms.map Mg.d).take i.1) : Nat))) (fun i => ms.length - i.1) (0, 0) ⟨Nat.zero_le _, by simp only; omega, fun _ => by simp [sumM]⟩ ?_
  rintro ⟨i, x⟩ ⟨h1, h2, h3⟩
  simp only at h1 h2 h3 ⊢
  refine sx ?_
  refine s_lif rfl (fun t1 => ?_) (fun t1 => ?_)
  · obtain ⟨m, hm⟩ := get_lt ms i (by omega)
    obtain ⟨z1, z2, z3⟩ := hz m (List.mem_of_getElem? hm)
    have hst := sumM_get (get_map (f := Mg.d) hm)
    have e : lenM m.d = 13 + m.lo.length + m.hi.length + m.v.length := rfl
    refine sx ?_
    refine s_if rfl (fun t2 => ?_) (fun t2 => ?_)
    · refine sx ?_
      refine s_callV rfl (lweight_s (m := m) z1 z2 z3) ?_
      refine sx ?_
      refine s_again (i + 1, x + (lenM m.d : Nat)) ⟨by simp only; omega, by simp only; omega, fun _ => ?_⟩ (by simp only; omega)
      have := h3 t2
      simp only
      omega
    · refine sx ?_
      exact s_ret1 rfl rfl ⟨x, rfl, h2, fun h => absurd h t2, rfl⟩
  · obtain rfl : i = ms.length := by omega
    rw [List.take_of_length_le (by simp)] at h3
    refine sx ?_
    exact s_ret1 rfl rfl ⟨x, rfl, h2, h3, rfl⟩
theorem lsameM1_s {x y : Mg} (hx : RMg w0 H x) (hy : RMg w0 H y) : FnV Tryz.prog w0 H 54 #[.agg x.cells.toArray, .agg y.cells.toArray] (.bool (decide (x.d = y.d))) := by
  refine fns_enter Tryz.func54 rfl rfl rfl ?_
  have b1 := hx.lo
  have b2 := hx.hi
  have b3 := hx.v
  have b4 := hy.lo
  have b5 := hy.hi
  have b6 := hy.v
  refine sx ?_
  refine s_boxA rfl fun b2 => ?_
  refine sx ?_
  refine s_boxA rfl fun b3 => ?_
  refine sx ?_
  refine s_lif rfl (fun t3 => ?_) (fun t3 => ?_)
  · refine sx ?_
    refine s_lif rfl (fun t4 => ?_) (fun t4 => ?_)
    · refine sx ?_
      refine s_lif rfl (fun t5 => ?_) (fun t5 => ?_)
      · refine sx ?_
        refine s_lif rfl (fun t6 => ?_) (fun t6 => ?_)
        · refine sx ?_
          refine s_ret1 rfl rfl ⟨?_, rfl⟩
          by_cases t7 : x.v = y.v
          · rw [decide_eq_true t7, decide_eq_true]
            show MD.mk _ _ _ _ _ = MD.mk _ _ _ _ _
            rw [t3, t4, t5, t6, t7]
          · rw [decide_eq_false t7, decide_eq_false fun e => t7 (congrArg MD.v e)]
        · refine sx ?_
          refine s_ret1 rfl rfl ⟨?_, rfl⟩
          rw [decide_eq_false fun e => t6 (congrArg MD.hi e)]
      · refine sx ?_
        refine s_ret1 rfl rfl ⟨?_, rfl⟩
        rw [decide_eq_false fun e => t5 (congrArg MD.lo e)]
    · refine sx ?_
      refine s_ret1 rfl rfl ⟨?_, rfl⟩
      rw [decide_eq_false fun e => t4 (congrArg MD.kd e)]
  · refine sx ?_
    refine s_ret1 rfl rfl ⟨?_, rfl⟩
    rw [decide_eq_false fun e => t3 (congrArg MD.st e)]
theorem lsameMs_s {a a' : Option Addr} {c c' : Nat} {xs ys : List Mg} (hx : RMs w0 H a c xs) (hy : RMs w0 H a' c' ys) : FnV Tryz.prog w0 H 19 #[.slice a xs.length c, .slice a' ys.length c'] (.bool (decide (xs.map Mg.d = ys.map Mg.d))) := by
  refine fns_enter Tryz.func19 rfl rfl rfl ?_
  have hxs := hx.sl
  have hys := hy.sl
  refine s_kn (Kn.sl hxs) fun l1 => s_kn (Kn.sl hys) fun l2 => ?_
  simp only [maxLen] at l1 l2
  refine sx ?_
  refine s_ifn rfl (fun t1 => ?_) (fun t1 => ?_)
  · refine sx ?_
    refine s_ret1 rfl rfl ⟨?_, rfl⟩
    rw [decide_eq_false (fun e => t1 (by have := congrArg List.length e; simp only [List.length_map] at this; rw [this]))]
  have hl : xs.length = ys.length := by omega
  refine sx ?_
  refine s_loop (fun i : Nat => [(0, .slice a xs.length c), (1, .slice a' ys.length c'), (5, .int .i64 i)]) (fun _ => H) (fun i => i ≤ xs.length ∧ (xs.map Mg.d).take i = (ys.map Mg.d).take i) (fun i => xs.length - i) 0 ⟨Nat.zero_le _, rfl⟩ ?_
  rintro i ⟨hi, he⟩
  refine sx ?_
  refine s_if rfl (fun t2 => ?_) (fun t2 => ?_)
  · obtain ⟨x, hxi⟩ := get_lt xs i (by omega)
    obtain ⟨y, hyi⟩ := get_lt ys i (by omega)
    have hx0 := hx.el x (List.mem_of_getElem? hxi)
    have hy0 := hy.el y (List.mem_of_getElem? hyi)
    have hbad : x.d ≠ y.d → xs.map Mg.d ≠ ys.map Mg.d := fun h e => by
      have h1 := get_map (f := Mg.d) hxi
      rw [e, get_map (f := Mg.d) hyi] at h1
      exact h (Option.some.inj h1).symm
    refine sx ?_; refine s_dr (.one true 0 (.one true 1 (.one true 2 (.one true 3 (.one true 4 (.one true 5 (.one true 6 (.one true 7 (.one false 8 (.one true 9 .nil)))))))))) mixed (by kernel_rfl) ?_; refine sx ?_
    refine s_callV rfl (lsameM1_s (x := x) (y := y) hx0 hy0) ?_
    refine sx ?_
    refine s_ifn rfl (fun t3 => ?_) (fun t3 => ?_)
    · refine sx ?_
      refine s_ret1 rfl rfl ⟨?_, rfl⟩
      rw [decide_eq_false (hbad t3)]
    · refine sx ?_
      refine s_again (i + 1) ⟨by omega, ?_⟩ (by omega)
      rw [snocT (get_map (f := Mg.d) hxi), snocT (get_map (f := Mg.d) hyi), he, t3]
  · obtain rfl : i = xs.length := by omega
    rw [List.take_of_length_le (by simp), List.take_of_length_le (by simp; omega)] at he
    refine sx ?_
    exact s_ret1 rfl rfl ⟨by rw [decide_eq_true he], rfl⟩
end Go.Sx
namespace Go.Sx
open Go Go.Proofs
set_option maxRecDepth 10000
variable {w0 : World} {H : List Ck}
theorem IsApp.get {l : List KV} {ms : List MD} {out : List KV} (h : IsApp l ms out) (key : Bs) : getE out key = appO (getE l key) (getM ms key) := by
  rcases g : getE out key with _ | v
  · rcases k : appO (getE l key) (getM ms key) with _ | v
    · rfl
    · obtain ⟨e, he, e1, _⟩ := (h.eq key v).2 k
      exact absurd e1 (getE_none.1 g e he)
  · exact ((h.eq key v).1 (getE_some g)).symm
def sumE (l : List KV) : Nat := (l.map fun e => 6 + e.k.length + e.v.length).sum
theorem sumE_snoc (l : List KV) (e : KV) : sumE (l ++ [e]) = sumE l + (6 + e.k.length + e.v.length) := by simp [sumE]
theorem sumE_len (l : List KV) : 6 * l.length ≤ sumE l := by
  induction l with
  | nil => simp [sumE]
  | cons e l ih => simp only [sumE, List.map_cons, List.sum_cons, List.length_cons] at *; omega
set_option maxHeartbeats 1000000 in
theorem entries_s7 {a : Option Addr} {c : Nat} {es : List KV} (hx : RSl w0 H a c es) (hy : ∀ e ∈ es, e.k.length ≤ 140737488355328 ∧ e.v.length ≤ 140737488355328) :
    FnS Tryz.prog w0 H 8 #[.slice a es.length c] (fun v H' => ∃ x : Int, v = .int .i64 x ∧ (0 ≤ x ∧ x ≤ 1125899906842624) ∧ (x ≤ 2147483647 → x = (sumE es : Nat)) ∧ H' = H) := by
  refine fns_enter Tryz.func8 rfl rfl rfl ?_
  refine s_kn (Kn.sl hx) fun l1 => ?_
  simp only [maxLen] at l1
  refine sx ?_
  refine s_loop (fun i : Nat × Int => [(0, .slice a es.length c), (3, .int .i64 i.2), (4, .int .i64 i.1)]) (fun _ => H) (fun i => i.1 ≤ es.length ∧ (0 ≤ i.2 ∧ i.2 ≤ 1125899906842624) ∧ (i.2 ≤ 2147483647 → i.2 = (sumE (es.take i.1) : Nat))) (fun i => es.length - i.1) (0, 0) ⟨Nat.zero_le _, by simp only; omega, fun _ => by simp [sumE]⟩ ?_
  rintro ⟨i, x⟩ ⟨h1, h2, h3⟩
  simp only at h1 h2 h3 ⊢
  refine sx ?_
  refine s_lif rfl (fun t1 => ?_) (fun t1 => ?_)
  · obtain ⟨e, he⟩ := get_lt es i (by omega)
    obtain ⟨y1, y2⟩ := hy e (List.mem_of_getElem? he)
    have hst := sumE_snoc (es.take i) e
    rw [← snocT he] at hst
    refine sx ?_
    refine s_if rfl (fun t2 => ?_) (fun t2 => ?_)
    · refine sx ?_; refine s_dr (.one true 0 (.one true 1 (.one true 2 (.one true 3 (.one true 4 (.one true 5 (.one true 6 (.one true 7 (.one true 8 (.one true 9 (.one true 10 (.one true 11 (.one true 12 (.one true 13 (.one true 14 (.one true 15 (.one true 16 .nil))))))))))))))))) mixed (by kernel_rfl) ?_; refine sx ?_
      refine s_again (i + 1, x + 6 + e.k.length + e.v.length) ⟨by simp only; omega, by simp only; omega, fun _ => ?_⟩ (by simp only; omega)
      have := h3 t2
      simp only
      omega
    · refine sx ?_
      exact s_ret1 rfl rfl ⟨x, rfl, h2, fun h => absurd h t2, rfl⟩
  · obtain rfl : i = es.length := by omega
    rw [List.take_length] at h3
    refine sx ?_
    exact s_ret1 rfl rfl ⟨x, rfl, h2, h3, rfl⟩
end Go.Sx

