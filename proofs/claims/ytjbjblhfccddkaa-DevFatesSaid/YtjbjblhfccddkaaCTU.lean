/- Part of a proof: the law DevApart, walked. -/
import Derived.Test.YtjbjblhfccddkaaCTS
namespace Go.Sx
open Go Go.Proofs
set_option maxRecDepth 10000
variable {w0 : World} {H : List Ck}
theorem Cd.swap {c b : Cd} {i j : Int} : Ent (c.on i (b.on j H)) (b.on j (c.on i H)) :=
  Ent.cons (by exact rmq) (Ent.cons (by exact rmq) (Ent.cons (by exact rmq) (Ent.cons (by exact rmq) (Ent.cons (by exact rmq) (Ent.cons (by exact rmq) Ent.refl)))))
theorem Cd.on_tl {c : Cd} {i : Int} {H' : List Ck} (h : Ent H H') : Ent (c.on i H) H' := Ent.tl (Ent.tl (Ent.tl h))
theorem Cd.on_ent {c : Cd} {i : Int} {H' : List Ck} (h : Ent H H') : Ent (c.on i H) (c.on i H') := Ent.head (Ent.head (Ent.head h))
theorem Cd.Ok.l_len {c : Cd} {N : Nat} (h : c.Ok N) (m : Int) : (c.ad.at_ m).l.length = c.size := by
  show (atE c.size c.es m).l.length = c.size
  unfold atE
  split
  · rename_i e he
    have hb := h.bk e (List.mem_of_find?_eq_some he)
    simp only [Bk.ab]
    split
    · simp [zeros]
    · rename_i h1
      exact hb.len (fun h2 => h1 (by rw [h2]; rfl))
  · simp [zeros]
theorem Ad.restart_ws {A : Ad} {l fs : List Int} (h : A.Pend l) (m : Int) : ((A.restart l fs).at_ m).ws = [] := by
  simp only [Ad.restart]
  split
  · unfold fated
    split
    · rfl
    split <;> rfl
  · rename_i h1
    have h2 := mt (h.iff m).2 h1
    simpa using h2
theorem Ad.restart_sz (A : Ad) (l fs : List Int) : (A.restart l fs).off = false ∧ (A.restart l fs).armed = 0 ∧ (A.restart l fs).size = A.size ∧ (A.restart l fs).n = A.n := ⟨rfl, rfl, rfl, rfl⟩
theorem Ad.dids_sz : ∀ (l : List DO) (A : Ad), (A.dids l).size = A.size ∧ (A.dids l).n = A.n
  | [], _ => ⟨rfl, rfl⟩
  | o :: l, A => by
    have h1 := Ad.dids_sz l (A.did o)
    have h2 := A.did_sz o
    exact ⟨h1.1.trans h2.1, h1.2.trans h2.2⟩
theorem dids_snoc' {A : Ad} {l : List VOp} {i : Nat} {o : VOp} (h : l[i]? = some o) : A.dids ((l.take (i + 1)).map VOp.do) = (A.dids ((l.take i).map VOp.do)).did o.do := dids_snoc h
set_option maxHeartbeats 8000000 in
theorem apart_law {p0 p1 p4 : Int} {p5 : UInt8} {a2 a3 : Option Addr} {c2 c3 : Nat} {l m : List VOp} (h0 : I64 p0) (h1 : I64 p1) (h4 : I64 p4) (hl : RSl w0 H a2 c2 l) (hm : RSl w0 H a3 c3 m) (gl : ∀ o ∈ l, RVo w0 [] o) (gm : ∀ o ∈ m, RVo w0 [] o) :
    FnS Try.prog w0 H 6 #[.int .i64 p0, .int .i64 p1, .slice a2 l.length c2, .slice a3 m.length c3, .int .i64 p4, bv p5] (fun v K => v = .bool true ∧ K = H) := by
  refine fns_enter Try.func6 rfl rfl rfl ?_
  obtain ⟨S, hS⟩ : ∃ S, S = szs (pkL p0 4) := ⟨_, rfl⟩
  have hso : szOk (S : Int) := by rw [hS]; exact new_szOk
  have hs := (szs_ok (pkL p0 4)).2
  rw [← hS] at hs
  obtain ⟨k1, k2⟩ := pkL_bd (c := p1) (n := 65521) (by decide)
  obtain ⟨n, hn⟩ : ∃ n : Nat, 16 + pkL p1 65521 = (n : Int) := ⟨(16 + pkL p1 65521).toNat, by omega⟩
  have hnb : 16 ≤ n ∧ n ≤ 65536 := by omega
  have hdiv : 100000000 / S ≤ 195312 := Nat.le_trans (Nat.div_le_div_left hs.1 (by decide)) (by decide)
  refine sx ?_
  refine s_callV rfl awake_s ?_
  refine sx ?_
  refine s_callV rfl (sized_s h0 h1) ?_
  rw [← hS, hn]
  refine sx ?_
  refine s_callV rfl (beyond_s hl hs) ?_
  refine sx ?_
  refine s_lif rfl (fun t1 => ?_) (fun t1 => ?_)
  · refine sx ?_
    exact s_ret1 rfl rfl ⟨rfl, rfl⟩
  refine sx ?_
  refine s_callV rfl (beyond_s hm hs) ?_
  refine sx ?_
  refine s_if rfl (fun t2 => ?_) (fun t2 => ?_)
  · refine sx ?_
    exact s_ret1 rfl rfl ⟨rfl, rfl⟩
  refine sx ?_
  refine s_call rfl (played_s hso hnb hl gl (by omega)) ?_
  rintro _ _ ⟨c, q1, q2, rfl, rfl⟩
  refine ⟨chk_seq, ?_⟩
  obtain ⟨A, hA⟩ : ∃ A, A = (Ad.new S n).dids (l.map VOp.do) := ⟨_, rfl⟩
  have hAs := Ad.dids_sz (l.map VOp.do) (Ad.new S n)
  rw [← hA] at q2 hAs
  refine sx ?_
  refine s_call rfl (copy_s q1 (by omega)) ?_
  rintro _ _ ⟨ca, ra1, ra2, rfl, rfl⟩
  refine ⟨chk_seq, ?_⟩
  refine sx ?_
  refine s_call rfl (copy_s q1 (by omega)) ?_
  rintro _ _ ⟨cb, rb1, rb2, rfl, rfl⟩
  refine ⟨chk_seq, ?_⟩
  rw [q2] at ra2 rb2
  refine sx ?_
  refine s_loop (ι := Nat × Cd × Cd) (fun i => [(0, .int .i64 S), (1, .int .i64 n), (2, .slice a2 l.length c2), (3, .slice a3 m.length c3), (4, .int .i64 p4), (5, bv p5), (13, .bool true), (14, .pointer (some ⟨c.b, 0, none⟩)), (15, .pointer (some ⟨ca.b, 0, none⟩)), (16, .pointer (some ⟨cb.b, 0, none⟩)), (17, .int .i64 i.1)])
    (fun i => c.on 0 (i.2.2.on 0 (i.2.1.on 0 H))) (fun i => i.1 ≤ m.length ∧ i.2.1.b = ca.b ∧ i.2.2.b = cb.b ∧ i.2.1.Ok (l.length + i.1) ∧ i.2.2.Ok (l.length + i.1) ∧ i.2.1.ad = i.2.2.ad) (fun i => m.length - i.1) (0, ca, cb) ⟨Nat.zero_le _, rfl, rfl, ra1, rb1, ra2.trans rb2.symm⟩ ?_
  rintro ⟨i, x, y⟩ ⟨hi, hx, hy, ox, oy, hxy⟩
  have hi : i ≤ m.length := hi
  have hx : x.b = ca.b := hx
  have hy : y.b = cb.b := hy
  have ox : x.Ok (l.length + i) := ox
  have oy : y.Ok (l.length + i) := oy
  have hxy : x.ad = y.ad := hxy
  show SC _ _ _ _ _ _ _ (c.on 0 (y.on 0 (x.on 0 H)))
  rw [← hx, ← hy]
  refine sx ?_
  refine s_if rfl (fun t3 => ?_) (fun t3 => ?_)
  · obtain ⟨o, ho⟩ : ∃ o, m[i]? = some o := ⟨_, List.getElem?_eq_getElem (by omega)⟩
    have hom := gm o (List.mem_of_getElem? ho)
    have hRm : RSl w0 (c.on 0 (y.on 0 (x.on 0 H))) a3 c3 m := hm.ent (Cd.on_tl (Cd.on_tl (Cd.on_tl Ent.refl)))
    refine sx ?_
    refine s_call rfl (FnS.ent (did_s (H := c.on 0 (y.on 0 H)) ox (by omega) hom.any) ((Cd.on_ent Cd.swap).trans Cd.swap)) ?_
    rintro _ _ ⟨x', u1, u2, u3, rfl, rfl⟩
    refine ⟨chk_seq, ?_⟩
    have hRm2 : RSl w0 (x'.on 0 (c.on 0 (y.on 0 H))) a3 c3 m := hm.ent (Cd.on_tl (Cd.on_tl (Cd.on_tl Ent.refl)))
    refine sx ?_
    refine s_call rfl (FnS.ent (did_s (H := x'.on 0 (c.on 0 H)) oy (by omega) hom.any) ((Cd.on_ent Cd.swap).trans Cd.swap)) ?_
    rintro _ _ ⟨y', v1, v2, v3, rfl, rfl⟩
    refine ⟨chk_seq, ?_⟩
    rw [hxy]
    refine sx ?_
    rw [← u1, ← v1]
    refine s_again (i + 1, x', y') ⟨by show i + 1 ≤ _; omega, by show x'.b = _; rw [u1, hx], by show y'.b = _; rw [v1, hy], u2, v2, by show x'.ad = y'.ad; rw [u3, v3, hxy]⟩ (by show m.length - (i + 1) < m.length - i; omega) (he := ?_)
    exact (Cd.on_ent Cd.swap).trans (Cd.swap.trans (Cd.on_ent Ent.refl))
  · have ox : x.Ok 400000 := ox.mono (by omega)
    have oy : y.Ok 400000 := oy.mono (by omega)
    have hxo : x.off = y.off := congrArg Ad.off hxy
    refine sx ?_
    refine s_call rfl (restart_s (fs := []) q1 RSl.nil (by decide) (by omega)) ?_
    rintro _ _ ⟨d1, l1, w1, w2, w3, w4, rfl, rfl⟩
    refine ⟨chk_seq, ?_⟩
    rw [q2] at w3 w4
    obtain ⟨B, hB⟩ : ∃ B, B = A.restart l1 [] := ⟨_, rfl⟩
    have hBo := A.restart_sz l1 []
    have hBw := fun m => Ad.restart_ws (fs := []) w3 m
    rw [← hB] at w4 hBo hBw
    have hBl := fun m => w2.l_len m
    rw [w4] at hBl
    have hds : d1.size = S := by
      have : d1.ad.size = S := by rw [w4, hBo.2.2.1, hAs.1]; rfl
      exact this
    obtain ⟨k3, k4⟩ := pkL_bd (c := p4) (n := (n : Int)) (by omega)
    obtain ⟨e, he⟩ : ∃ e, e = pkL p4 n := ⟨_, rfl⟩
    rw [← he] at k3 k4
    have hpk : ∀ H, FnV Try.prog w0 H 10 #[.int .i64 p4, .int .i64 n] (.int .i64 e) := fun H => by rw [he]; exact dpick_s h4 (by omega)
    obtain ⟨k5, k6⟩ := pkL_bd (c := p4) (n := (S : Int)) (by omega)
    obtain ⟨j, hj⟩ := Int.eq_ofNat_of_zero_le k5
    have hpj : ∀ H, FnV Try.prog w0 H 10 #[.int .i64 p4, .int .i64 S] (.int .i64 (j : Int)) := fun H => by rw [← hj]; exact dpick_s h4 (by omega)
    have hBn : B.n = n := by rw [hBo.2.2.2, hAs.2]; rfl
    have hBs : B.size = S := by rw [hBo.2.2.1, hAs.1]; rfl
    have he0 : B.err e = 0 := Ad.err_ok hBo.1 (by rw [hBn]; omega)
    have hfl := Ad.flip_two (A := B) (n := e) (i := j) (x := p5) (hBw e) (by rw [hBl, hds, hBs]) (by rw [hBs]; omega)
    have hfe : B.fer e j = B.rerr e := by
      unfold Ad.fer
      rw [if_neg (by rw [he0]; simp), if_neg (by rw [hBs]; omega)]
    have ie : I64 e := ⟨by omega, by omega⟩
    have ij : I64 (j : Int) := ⟨by omega, by omega⟩
    rw [← w1]
    refine sx ?_
    refine s_callV rfl (hpk _) ?_
    refine sx ?_
    refine s_call rfl (shown_s w2 ie (by omega)) ?_
    rintro _ _ ⟨d2, x1, x2, x3, rfl, rfl⟩
    refine ⟨chk_seq, ?_⟩
    rw [w4] at x3 ⊢
    rw [← x1]
    refine sx ?_
    refine s_callV rfl (hpj _) ?_
    refine sx ?_
    refine s_call rfl (flip_s (x := p5) x2 ie ij (by omega)) ?_
    rintro _ _ ⟨d3, y1, y2, y3, rfl, rfl⟩
    refine ⟨chk_seq, ?_⟩
    rw [x3] at y3 ⊢
    rw [hfe, ← y1]
    refine sx ?_
    refine s_call rfl (shown_s y2 ie (by omega)) ?_
    rintro _ _ ⟨d4, z1, z2, z3, rfl, rfl⟩
    refine ⟨chk_seq, ?_⟩
    rw [y3] at z3 ⊢
    rw [hfl.1, ← z1]
    refine sx ?_
    refine s_callV rfl (hpj _) ?_
    refine sx ?_
    refine s_call rfl (flip_s (x := p5) z2 ie ij (by omega)) ?_
    rintro _ _ ⟨d5, u1, u2, u3, rfl, rfl⟩
    refine ⟨chk_seq, ?_⟩
    rw [z3] at u3 ⊢
    rw [hfl.2.2] at u3
    rw [hfl.2.1, hfe, ← u1]
    refine sx ?_
    refine s_call rfl (shown_s u2 ie (by omega)) ?_
    rintro _ _ ⟨d6, v1, v2, v3, rfl, rfl⟩
    refine ⟨chk_seq, ?_⟩
    rw [u3]
    refine sx ?_
    refine s_call rfl (played_s hso hnb (hl.ent (Cd.on_tl (Cd.on_tl (Cd.on_tl Ent.refl)))) gl (by omega)) ?_
    rintro _ _ ⟨f, f1, f2, rfl, rfl⟩
    refine ⟨chk_seq, ?_⟩
    rw [← hA] at f2
    refine sx ?_
    refine s_call rfl (restart_s (fs := []) f1 RSl.nil (by decide) (by omega)) ?_
    rintro _ _ ⟨f3, l3, g1, g2, g3, g4, rfl, rfl⟩
    refine ⟨chk_seq, ?_⟩
    rw [f2] at g3 g4
    obtain rfl : l3 = l1 := g3.uniq w3
    rw [← hB] at g4
    rw [← g1]
    refine sx ?_
    refine s_call rfl (shown_s g2 ie (by omega)) ?_
    rintro _ _ ⟨f5, _, _, _, rfl, rfl⟩
    refine ⟨chk_seq, ?_⟩
    rw [g4]
    refine sx ?_
    refine s_rw (t := 146) (v' := .bool true) rfl (by simp) ?_
    refine sx ?_
    refine s_rw (t := 151) (v' := .bool true) rfl (by simp) ?_
    refine sx ?_
    refine s_rw (t := 156) (v' := .bool true) rfl (by simp) ?_
    refine sx ?_
    refine s_entL (x.on 0 (y.on 0 H)) ((Cd.on_tl (Cd.on_tl Ent.refl)).trans Cd.swap) ?_
    refine s_call rfl (Pending_s ox (by omega)) ?_
    rintro _ _ ⟨ap, cp, lx, hP, hpl, rfl, rfl⟩
    refine ⟨chk_seq, ?_⟩
    refine sx ?_
    refine s_call rfl (FnS.ent (Pending_s (H := x.on 0 (ol 43 ap cp (lx.map x.ad.wto) :: H)) oy (by omega)) ((Cd.on_ent Cd.up).trans Cd.swap)) ?_
    rintro _ _ ⟨aq, cq, ly, hQ, hql, rfl, rfl⟩
    refine ⟨chk_seq, ?_⟩
    rw [← hxy] at hQ
    obtain rfl : lx = ly := hP.uniq hQ
    refine s_rw (t := 32) (v' := .bool true) rfl (by simp) ?_
    refine sx ?_
    refine s_callV rfl (sameWaits_s (ys := lx.map y.ad.wto) (RSl.ent RSl.hd (Cd.on_tl (Ent.tl (Cd.on_tl Ent.refl)))) (RSl.ent RSl.hd (Cd.on_tl Ent.refl)) (by simpa using hpl) (by simpa using hql)) ?_
    refine s_rw (t := 185) (v' := .bool true) rfl (by rw [hxy]; simp) ?_
    refine sx ?_
    refine s_call rfl (FnS.ent (off_s (c := x) (H := ol 43 ap cp (lx.map x.ad.wto) :: y.on 0 (ol 43 aq cq (lx.map y.ad.wto) :: H))) ?_) ?_
    · exact (Cd.on_ent Cd.up).trans (Cd.swap.trans ((Cd.on_ent (Cd.on_ent (Ent.perm (.swap _ _ _)))).trans (Cd.on_ent (Ent.cons (by exact rmq) (Ent.cons (by exact rmq) (Ent.cons (by exact rmq) (Ent.cons (by exact rmq) (Ent.cons (by exact rmq) Ent.refl))))))))
    rintro _ _ ⟨rfl, rfl⟩
    refine ⟨chk_seq, ?_⟩
    refine sx ?_
    refine s_call rfl (FnS.ent (off_s (c := y) (H := ol 43 aq cq (lx.map y.ad.wto) :: H)) (Cd.on_tl (Ent.tl Ent.refl))) ?_
    rintro _ _ ⟨rfl, rfl⟩
    refine ⟨chk_seq, ?_⟩
    rw [hxo]
    refine sx ?_
    refine s_rwQ (t := 12) (v' := .bool true) rfl (by simp) ?_
    exact s_ret1 rfl rfl ⟨rfl, rfl⟩ (Cd.on_tl (Ent.tl Ent.refl))
end Go.Sx
