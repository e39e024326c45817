/- Part of a proof: upTo; the law DevArmed, walked. -/
import Derived.Test.YtjbjblhfccddkaaCTU
namespace Go.Sx
open Go Go.Proofs
set_option maxRecDepth 10000
variable {w0 : World} {H : List Ck}
/-- How a change that was the last one has been done. -/
structure UpI (A D C : Ad) (o : DO) (done : Bool) (how : Int) : Prop where
  off : D.off = !decide (how = 1)
  at_ : D.at_ = (if done = true then C.at_ else A.at_)
  n : D.n = A.n
  offC : C.off = false
  nC : C.n = A.n
  barr : o.k = 4 → ∀ m, (C.at_ m).ws = []
  wr : o.k ≠ 4 → (0 ≤ o.a ∧ o.a < A.n) ∧ ∃ x : Bs, C.at_ o.a = { A.at_ o.a with ws := (A.at_ o.a).ws ++ [x] }
theorem Cd.Ok.w_len {c : Cd} {N : Nat} (h : c.Ok N) (m : Int) : (c.ad.at_ m).ws.length ≤ N := by
  show (atE c.size c.es m).ws.length ≤ N
  unfold atE
  split
  · rename_i e he
    have hb := h.bk e (List.mem_of_find?_eq_some he)
    simpa [Bk.ab] using hb.few
  · simp
set_option maxHeartbeats 8000000 in
theorem upTo_s {d c : Cd} {N : Nat} {A : Ad} {o : VOp} {how : Int} {done : Bool} {la : List Int} (hd : d.Ok N) (hc : c.Ok N) (hN : N ≤ 1099511627776) (hu : UpI A d.ad c.ad o.do done how) (hla : A.Pend la) (ha : I64 o.a) (hal : la.length ≤ 65536) :
    FnS Try.prog w0 (d.on 0 (c.on 0 H)) 22 #[.pointer (some ⟨d.b, 0, none⟩), .pointer (some ⟨c.b, 0, none⟩), .agg o.cells.toArray, .bool done, .int .i64 la.length] (fun v K => v = .bool true ∧ K = H) := by
  refine fns_enter Try.func22 rfl rfl rfl ?_
  refine sx ?_
  refine s_boxA rfl fun k => ?_
  refine sx ?_
  refine s_call rfl (FnS.ent (Pending_s (H := .hb k 53 o.cells :: c.on 0 H) hd hN) Cd.up) ?_
  rintro _ _ ⟨ap, cp, lp, hP, hpl, rfl, rfl⟩
  refine ⟨chk_seq, ?_⟩
  refine sx ?_
  refine s_call rfl (FnS.ent (Pending_s (c := c) (H := ol 43 ap cp (lp.map d.ad.wto) :: .hb k 53 o.cells :: d.on 0 H) hc hN) ?_) ?_
  · exact ((Cd.on_ent ((Ent.head Cd.up).trans Cd.up)).trans Cd.swap).trans (Cd.on_ent ((Cd.on_ent Ent.refl).trans (Ent.cons (by exact rmq) (Ent.cons (by exact rmq) (Ent.cons (by exact rmq) (Ent.cons (by exact rmq) (Ent.cons (by exact rmq) Ent.refl)))))))
  rintro _ _ ⟨aq, cq, lq, hQ, hql, rfl, rfl⟩
  refine ⟨chk_seq, ?_⟩
  have eH : Ent (c.on 0 (ol 43 aq cq (lq.map c.ad.wto) :: ol 43 ap cp (lp.map d.ad.wto) :: .hb k 53 o.cells :: d.on 0 H)) H := Cd.on_tl (Ent.tl (Ent.tl (Ent.tl (Cd.on_tl Ent.refl))))
  have fp : RSl w0 (c.on 0 (ol 43 aq cq (lq.map c.ad.wto) :: ol 43 ap cp (lp.map d.ad.wto) :: .hb k 53 o.cells :: d.on 0 H)) ap cp (lp.map d.ad.wto) := RSl.ent RSl.hd (Cd.on_tl (Ent.tl Ent.refl))
  have fq : RSl w0 (c.on 0 (ol 43 aq cq (lq.map c.ad.wto) :: ol 43 ap cp (lp.map d.ad.wto) :: .hb k 53 o.cells :: d.on 0 H)) aq cq (lq.map c.ad.wto) := RSl.ent RSl.hd (Cd.on_tl Ent.refl)
  refine sx ?_
  refine s_if rfl (fun h4 => ?_) (fun h4 => ?_)
  · have h4 : o.do.k = 4 := h4
    have hb := hu.barr h4
    obtain rfl : lq = [] := hQ.uniq (Ad.Pend.nil hb)
    cases done with
    | true =>
      have ha' : d.ad.at_ = c.ad.at_ := hu.at_
      obtain rfl : lp = [] := hP.uniq (Ad.Pend.nil fun m => by rw [ha']; exact hb m)
      refine sx ?_
      exact s_ret1 rfl rfl ⟨rfl, rfl⟩ eH
    | false =>
      have ha' : d.ad.at_ = A.at_ := hu.at_
      obtain rfl : lp = la := hP.uniq (hla.congr fun m => by rw [ha'])
      refine sx ?_
      refine s_rwQ (t := 10) (v' := .bool true) rfl (by simp) ?_
      exact s_ret1 rfl rfl ⟨rfl, rfl⟩ eH
  have h4' : ¬ o.do.k = 4 := h4
  obtain ⟨hr, x, hx⟩ := hu.wr h4'
  have wp : wtL (lp.map d.ad.wto) o.a = (d.ad.at_ o.a).ws.length := wtL_of hP o.a
  have wq : wtL (lq.map c.ad.wto) o.a = (c.ad.at_ o.a).ws.length := wtL_of hQ o.a
  have wc : (c.ad.at_ o.a).ws.length = (A.at_ o.a).ws.length + 1 := by
    have e : (c.ad.at_ o.a).ws = (A.at_ o.a).ws ++ [x] := congrArg Ab.ws hx
    rw [e]; simp
  have wn := hc.w_len o.a
  rw [wc] at wn
  refine sx ?_
  refine s_callV rfl (waits_s fp (by simpa using hpl)) ?_
  refine sx ?_
  refine s_callV rfl (waits_s fq (by simpa using hql)) ?_
  rw [wp, wq, wc]
  cases done with
  | false =>
    have ha' : d.ad.at_ = A.at_ := hu.at_
    rw [ha']
    refine sx ?_
    refine s_ifn rfl (fun h => absurd (show ((A.at_ o.a).ws.length : Int) = (((A.at_ o.a).ws.length + 1 : Nat) : Int) - 1 by omega) h) (fun _ => ?_)
    refine s_ent (d.on 0 (c.on 0 (.hb k 53 o.cells :: H))) ((Cd.on_ent (Ent.tl (Ent.tl Cd.up))).trans Cd.swap) ?_
    refine sx ?_
    refine s_call rfl off_s ?_
    rintro _ _ ⟨rfl, rfl⟩
    refine ⟨chk_seq, ?_⟩
    cases hdo : d.off with
    | true =>
      refine sx ?_
      exact s_ret1 rfl rfl ⟨rfl, rfl⟩ (Cd.on_tl (Cd.on_tl (Ent.tl Ent.refl)))
    | false =>
      refine sx ?_
      exact s_ret1 rfl rfl ⟨rfl, rfl⟩ (Cd.on_tl (Cd.on_tl (Ent.tl Ent.refl)))
  | true =>
    have ha' : d.ad.at_ = c.ad.at_ := hu.at_
    rw [ha', wc]
    have hn' : d.ad.n = A.n := hu.n
    have h0 : c.ad.err o.a = 0 := Ad.err_ok hu.offC (by rw [hu.nC]; exact hr)
    have hne : (c.ad.at_ o.a).ws ≠ [] := fun h => by rw [h] at wc; simp at wc
    have hrc : c.ad.rerr o.a = 0 := by
      unfold Ad.rerr
      rw [if_neg (by rw [h0]; simp), if_neg (fun h => hne h.1)]
    refine s_entL (d.on 0 (c.on 0 (.hb k 53 o.cells :: H))) ((Cd.on_ent (Ent.tl (Ent.tl Cd.up))).trans Cd.swap) ?_
    refine sx ?_
    refine s_call rfl off_s ?_
    rintro _ _ ⟨rfl, rfl⟩
    refine ⟨chk_seq, ?_⟩
    cases hdo : d.off with
    | true =>
      refine sx ?_
      exact s_ret1 rfl rfl ⟨rfl, rfl⟩ (Cd.on_tl (Cd.on_tl (Ent.tl Ent.refl)))
    | false =>
      have h0d : d.ad.err o.a = 0 := Ad.err_ok hdo (by rw [hn']; exact hr)
      have hrd : d.ad.rerr o.a = 0 := by
        unfold Ad.rerr
        rw [if_neg (by rw [h0d]; simp), ha', if_neg (fun h => hne h.1)]
      have htx : d.ad.txt o.a = c.ad.txt o.a := by
        unfold Ad.txt
        rw [hrd, hrc, ha']
      refine sx ?_
      refine s_call rfl (shown_s hd ha hN) ?_
      rintro _ _ ⟨d2, x1, x2, x3, rfl, rfl⟩
      refine ⟨chk_seq, ?_⟩
      rw [hrd, htx]
      refine s_entL _ Cd.swap ?_
      refine sx ?_
      refine s_call rfl (shown_s hc ha hN) ?_
      rintro _ _ ⟨c2, y1, y2, y3, rfl, rfl⟩
      refine ⟨chk_seq, ?_⟩
      rw [hrc]
      refine sx ?_
      exact s_ret1 rfl rfl ⟨rfl, rfl⟩ (Cd.on_tl (Cd.on_tl (Ent.tl Ent.refl)))
/-- The state of the loop. -/
structure ArmI (l m : List VOp) (k how : Int) (done : Bool) (i : Nat) (ch : Int) (d c : Cd) : Prop where
  le : i ≤ m.length
  okd : d.Ok (l.length + i)
  okc : c.Ok (l.length + i)
  off : c.ad.off = false
  armed : c.ad.armed = 0
  d : d.ad = c.ad.wit (k - ch) how done
  ch : 0 ≤ ch ∧ ch < k
set_option maxHeartbeats 16000000 in
theorem armed_law {p0 p1 p3 p4 : Int} {p5 : Bool} {a2 a6 : Option Addr} {c2 c6 : Nat} {l m : List VOp} (h0 : I64 p0) (h1 : I64 p1) (h3 : I64 p3) (h4 : I64 p4) (hl : RSl w0 H a2 c2 l) (hm : RSl w0 H a6 c6 m) (gl : ∀ o ∈ l, RVo w0 [] o) (gm : ∀ o ∈ m, RVo w0 [] o) :
    FnS Try.prog w0 H 5 #[.int .i64 p0, .int .i64 p1, .slice a2 l.length c2, .int .i64 p3, .int .i64 p4, .bool p5, .slice a6 m.length c6] (fun v K => v = .bool true ∧ K = H) := by
  refine fns_enter Try.func5 rfl rfl rfl ?_
  obtain ⟨S, hS⟩ : ∃ S, S = szs (pkL p0 4) := ⟨_, rfl⟩
  have hso : szOk (S : Int) := by rw [hS]; exact new_szOk
  have hs := (szs_ok (pkL p0 4)).2
  rw [← hS] at hs
  obtain ⟨k1, k2⟩ := pkL_bd (c := p1) (n := 65521) (by decide)
  obtain ⟨n, hn⟩ : ∃ n : Nat, 16 + pkL p1 65521 = (n : Int) := ⟨(16 + pkL p1 65521).toNat, by omega⟩
  have hnb : 16 ≤ n ∧ n ≤ 65536 := by omega
  have hdiv : 100000000 / S ≤ 195312 := Nat.le_trans (Nat.div_le_div_left hs.1 (by decide)) (by decide)
  obtain ⟨k3, k4⟩ := pkL_bd (c := p3) (n := 1099511627776) (by decide)
  obtain ⟨k5, k6⟩ := pkL_bd (c := p4) (n := 2) (by decide)
  obtain ⟨r, hr⟩ : ∃ r, r = 1 + pkL p3 1099511627776 := ⟨_, rfl⟩
  obtain ⟨how, hhow⟩ : ∃ how, how = pkL p4 2 := ⟨_, rfl⟩
  rw [← hhow] at k5 k6
  refine sx ?_
  refine s_callV rfl awake_s ?_
  refine sx ?_
  refine s_callV rfl (sized_s h0 h1) ?_
  rw [← hS, hn]
  refine sx ?_
  refine s_callV rfl (beyond_s hl hs) ?_
  refine sx ?_
  refine s_lif rfl (fun t1 => ?_) (fun t1 => ?_)
  · refine sx ?_
    exact s_ret1 rfl rfl ⟨rfl, rfl⟩
  refine sx ?_
  refine s_callV rfl (beyond_s hm hs) ?_
  refine sx ?_
  refine s_if rfl (fun t2 => ?_) (fun t2 => ?_)
  · refine sx ?_
    exact s_ret1 rfl rfl ⟨rfl, rfl⟩
  refine sx ?_
  refine s_call rfl (played_s hso hnb hl gl (by omega)) ?_
  rintro _ _ ⟨d, q1, q2, rfl, rfl⟩
  refine ⟨chk_seq, ?_⟩
  have hAs := Ad.dids_sz (l.map VOp.do) (Ad.new S n)
  refine sx ?_
  refine s_call rfl (restart_s (fs := []) q1 RSl.nil (by decide) (by omega)) ?_
  rintro _ _ ⟨d1, l1, w1, w2, w3, w4, rfl, rfl⟩
  refine ⟨chk_seq, ?_⟩
  rw [← w1]
  have b1 : d1.ad.off = false := by rw [w4]; rfl
  have b2 : d1.ad.armed = 0 := by rw [w4]; rfl
  clear w4 w3 q2
  refine sx ?_
  refine s_call rfl (copy_s w2 (by omega)) ?_
  rintro _ _ ⟨c, x1, x2, rfl, rfl⟩
  refine ⟨chk_seq, ?_⟩
  refine sx ?_
  refine s_callV rfl (dpick_s h3 (by decide)) ?_
  refine sx ?_
  refine s_callV rfl (dpick_s h4 (by decide)) ?_
  rw [← hhow]
  refine sx ?_
  refine s_call rfl (arm_s (n := 1 + pkL p3 1099511627776) (how := how) (done := p5) w2 ⟨by omega, by omega⟩ ⟨by omega, by omega⟩) ?_
  rintro _ _ ⟨d2, y1, y2, y3, rfl, rfl⟩
  refine ⟨chk_seq, ?_⟩
  have e0 : d1.ad.aer (1 + pkL p3 1099511627776) how = 0 := by
    unfold Ad.aer
    rw [if_neg (by rw [b1]; simp), if_neg (by omega)]
  have e1 : d2.ad = d1.ad.wit r how p5 := by
    rw [y3, hr]
    unfold Ad.arm
    rw [if_neg (by rw [e0]; simp)]
    rfl
  rw [e0, ← y1, ← hr]
  rw [← hr] at y3
  refine sx ?_
  refine s_loop (ι := Nat × Int × Cd × Cd) (fun i => [(3, .int .i64 r), (4, .int .i64 how), (5, .bool p5), (6, .slice a6 m.length c6), (16, .pointer (some ⟨d2.b, 0, none⟩)), (17, .pointer (some ⟨c.b, 0, none⟩)), (18, .int .i64 i.2.1), (19, .int .i64 i.1)])
    (fun i => i.2.2.1.on 0 (i.2.2.2.on 0 H)) (fun i => i.2.2.1.b = d2.b ∧ i.2.2.2.b = c.b ∧ ArmI l m r how p5 i.1 i.2.1 i.2.2.1 i.2.2.2) (fun i => m.length - i.1) (0, 0, d2, c) ⟨rfl, rfl, Nat.zero_le _, y2, x1, by rw [x2]; exact b1, by rw [x2]; exact b2, by rw [e1, x2]; simp, by show (0 : Int) ≤ 0; omega, by show 0 < r; omega⟩ ?_
  rintro ⟨i, ch, x, y⟩ ⟨hx, hy, hI⟩
  have hx : x.b = d2.b := hx
  have hy : y.b = c.b := hy
  have hI : ArmI l m r how p5 i ch x y := hI
  have hi := hI.le
  have hch := hI.ch
  show SC _ _ _ _ _ _ _ (x.on 0 (y.on 0 H))
  rw [← hx, ← hy]
  refine sx ?_
  refine s_if rfl (fun t3 => ?_) (fun t3 => ?_)
  rotate_left
  · have hof : x.off = false := by
      have h := congrArg Ad.off hI.d
      exact h.trans hI.off
    refine sx ?_
    refine s_call rfl off_s ?_
    rintro _ _ ⟨rfl, rfl⟩
    refine ⟨chk_seq, ?_⟩
    rw [hof]
    refine sx ?_
    exact s_ret1 rfl rfl ⟨rfl, rfl⟩ (Cd.on_tl (Cd.on_tl Ent.refl))
  obtain ⟨o, ho⟩ : ∃ o, m[i]? = some o := ⟨_, List.getElem?_eq_getElem (by omega)⟩
  have hom := gm o (List.mem_of_getElem? ho)
  have hRm : RSl w0 (x.on 0 (y.on 0 H)) a6 c6 m := hm.ent (Cd.on_tl (Cd.on_tl Ent.refl))
  refine sx ?_
  refine s_alloc fun b => ?_
  refine sx ?_
  have back : Ent (.hb b 53 (Cel.f o) :: x.on 0 (y.on 0 H)) (x.on 0 (y.on 0 H)) := Ent.tl Ent.refl
  have hmi : m.length - (i + 1) < m.length - i := by omega
  by_cases hkd : o.do.chg ∨ o.do.k = 8
  rotate_left
  · have n3 : ¬ o.k = 3 := fun e => hkd (.inl (.inl e))
    have n4 : ¬ o.k = 4 := fun e => hkd (.inl (.inr e))
    have n8 : ¬ o.k = 8 := fun e => hkd (.inr e)
    refine s_lifn rfl (fun _ => ?_) (fun e => absurd e n3)
    refine sx ?_
    refine s_lifn rfl (fun _ => ?_) (fun e => absurd e n4)
    refine sx ?_
    refine s_ifn rfl (fun _ => ?_) (fun e => absurd e n8)
    refine sx ?_
    refine s_again (i + 1, ch, x, y) ⟨rfl, rfl, by show i + 1 ≤ _; omega, hI.okd.mono (by show l.length + i ≤ l.length + (i + 1); omega), hI.okc.mono (by show l.length + i ≤ l.length + (i + 1); omega), hI.off, hI.armed, hI.d, hI.ch⟩ hmi (he := back)
  have stp : StopAt 20 := trivial
  apply s_joinU
  · intro key
    refine s_lifn rfl (fun n3 => ?_) (fun e => ?_)
    · refine sx ?_
      refine s_lifn rfl (fun n4 => ?_) (fun e => ?_)
      · refine sx ?_
        refine s_ifn rfl (fun n8 => ?_) (fun e => ?_)
        · rcases hkd with (h | h) | h
          · exact absurd h n3
          · exact absurd h n4
          · exact absurd h n8
        · refine sxs ?_
          refine s_sub (l' := [(3, .int .i64 r), (4, .int .i64 how), (5, .bool p5), (6, .slice a6 m.length c6), (16, .pointer (some ⟨x.b, 0, none⟩)), (17, .pointer (some ⟨y.b, 0, none⟩)), (18, .int .i64 ch), (19, .int .i64 i), (20, .pointer (some ⟨b, 0, none⟩))]) ?_ (by repeat (first | exact trivial | refine And.intro (by first | exact rfl | exact congrArg some (ci (by omega))) ?_))
          exact key.out
      · refine sxs ?_
        refine s_sub (l' := [(3, .int .i64 r), (4, .int .i64 how), (5, .bool p5), (6, .slice a6 m.length c6), (16, .pointer (some ⟨x.b, 0, none⟩)), (17, .pointer (some ⟨y.b, 0, none⟩)), (18, .int .i64 ch), (19, .int .i64 i), (20, .pointer (some ⟨b, 0, none⟩))]) ?_ (by repeat (first | exact trivial | refine And.intro (by first | exact rfl | exact congrArg some (ci (by omega))) ?_))
        exact key.out
    · refine sxs ?_
      refine s_sub (l' := [(3, .int .i64 r), (4, .int .i64 how), (5, .bool p5), (6, .slice a6 m.length c6), (16, .pointer (some ⟨x.b, 0, none⟩)), (17, .pointer (some ⟨y.b, 0, none⟩)), (18, .int .i64 ch), (19, .int .i64 i), (20, .pointer (some ⟨b, 0, none⟩))]) ?_ (by repeat (first | exact trivial | refine And.intro (by first | exact rfl | exact congrArg some (ci (by omega))) ?_))
      exact key.out
  refine sx ?_
  refine s_call rfl (FnS.ent (Pending_s (c := y) (H := .hb b 53 (Cel.f o) :: x.on 0 H) hI.okc (by omega)) ((Ent.head Cd.swap).trans (Cd.up.trans (Cd.on_ent (Ent.perm (.refl _)))))) ?_
  rintro _ _ ⟨aq, cq, la, hQ, hql, rfl, rfl⟩
  refine ⟨chk_seq, ?_⟩
  refine sx ?_
  have hlal : ((la.map y.ad.wto).length : Int) = la.length := by simp
  refine s_rw (t := 21) (v' := .int .i64 la.length) rfl (by rw [hlal]) ?_
  refine s_entL (y.on 0 (.hb b 53 (Cel.f o) :: x.on 0 H)) (Cd.on_ent (Ent.tl Ent.refl)) ?_
  refine sx ?_
  have hom' := hom.any (H := .hb b 53 (Cel.f o) :: x.on 0 H)
  refine s_call rfl (did_s (H := .hb b 53 (Cel.f o) :: x.on 0 H) hI.okc (by omega) hom') ?_
  rintro _ _ ⟨y', u1, u2, u3, rfl, rfl⟩
  refine ⟨chk_seq, ?_⟩
  refine sx ?_
  refine s_call rfl (FnS.ent (did_s (H := .hb b 53 (Cel.f o) :: y'.on 0 H) hI.okd (by omega) hom.any) ((Cd.on_ent Cd.up).trans (Cd.swap.trans (Cd.on_ent (Cd.on_ent (Ent.refl)))) |>.trans (Cd.on_ent (Ent.cons (by exact rmq) (Ent.cons (by exact rmq) (Ent.cons (by exact rmq) (Ent.cons (by exact rmq) Ent.refl))))))) ?_
  rintro _ _ ⟨x', v1, v2, v3, rfl, rfl⟩
  refine ⟨chk_seq, ?_⟩
  have ey := Ad.did_on hI.off hI.armed hkd
  rw [← u3] at ey
  rw [← u1, ← v1]
  have back' : Ent (x'.on 0 (.hb b 53 (Cel.f o) :: y'.on 0 H)) (x'.on 0 (y'.on 0 H)) := Cd.on_ent (Ent.tl Ent.refl)
  by_cases hE : y.ad.der o.do ≠ 0 ∨ o.do.k = 8
  · obtain ⟨g1, g2⟩ := Ad.arm_no (k := r - ch) (how := how) (done := p5) hI.off hI.armed hkd hE
    rw [← hI.d] at g1 g2
    rw [← v3, ← u3] at g2
    rw [g1]
    refine sx ?_
    have stp : StopAt 25 := trivial
    apply s_joinU
    · intro key
      refine s_lif rfl (fun e0 => ?_) (fun e0 => ?_)
      · have k8 : o.k = 8 := hE.resolve_left (fun h => h e0)
        refine sxs ?_
        refine s_ifn rfl (fun h => absurd k8 h) (fun _ => ?_)
        refine sxs ?_
        refine s_sub (l' := [(3, .int .i64 r), (4, .int .i64 how), (5, .bool p5), (6, .slice a6 m.length c6), (16, .pointer (some ⟨x'.b, 0, none⟩)), (17, .pointer (some ⟨y'.b, 0, none⟩)), (18, .int .i64 ch), (19, .int .i64 i), (20, .pointer (some ⟨b, 0, none⟩)), (22, .int .i64 (y.ad.der o.do)), (23, .int .i64 (y.ad.der o.do))]) ?_ (by repeat (first | exact trivial | refine And.intro (by first | exact rfl | exact congrArg some (ci (by omega))) ?_))
        exact key.out
      · refine sxs ?_
        refine s_sub (l' := [(3, .int .i64 r), (4, .int .i64 how), (5, .bool p5), (6, .slice a6 m.length c6), (16, .pointer (some ⟨x'.b, 0, none⟩)), (17, .pointer (some ⟨y'.b, 0, none⟩)), (18, .int .i64 ch), (19, .int .i64 i), (20, .pointer (some ⟨b, 0, none⟩)), (22, .int .i64 (y.ad.der o.do)), (23, .int .i64 (y.ad.der o.do))]) ?_ (by repeat (first | exact trivial | refine And.intro (by first | exact rfl | exact congrArg some (ci (by omega))) ?_))
        exact key.out
    refine sx ?_
    refine s_lif rfl (fun _ => ?_) (fun h => absurd hch.2 h)
    refine sx ?_
    refine s_again (i + 1, ch, x', y') ⟨rfl, rfl, by show i + 1 ≤ _; omega, v2, u2, ey.1, ey.2, g2, hch⟩ hmi (he := back')
  have e0 : y.ad.der o.do = 0 := Classical.byContradiction fun h => hE (.inl h)
  have k8 : ¬ o.do.k = 8 := fun h => hE (.inr h)
  have hcg : o.do.chg := hkd.resolve_right k8
  rw [e0]
  refine sx ?_
  refine s_ifn rfl (fun _ => ?_) (fun h => absurd h k8)
  refine sx ?_
  by_cases hlt : ch + 1 < r
  · obtain ⟨g1, g2⟩ := Ad.arm_more (k := r - ch) (how := how) (done := p5) hI.off hI.armed hcg e0 (by omega)
    rw [← hI.d] at g1 g2
    rw [← v3, ← u3, show r - ch - 1 = r - (ch + 1) by omega] at g2
    rw [g1]
    refine sx ?_
    refine s_lif rfl (fun _ => ?_) (fun h => absurd hlt h)
    refine sx ?_
    refine s_again (i + 1, ch + 1, x', y') ⟨rfl, rfl, by show i + 1 ≤ _; omega, v2, u2, ey.1, ey.2, g2, by show 0 ≤ ch + 1; omega, hlt⟩ hmi (he := back')
  have hk1 : r - ch = 1 := by omega
  obtain ⟨g1, g2, g3, g4⟩ := Ad.arm_last (how := how) (done := p5) hI.off hI.armed hcg e0
  have hId : x.ad = y.ad.wit 1 how p5 := by rw [hI.d, hk1]
  rw [← hId] at g1 g2 g3 g4
  rw [← v3] at g2 g3 g4
  rw [← u3] at g3
  rw [g1]
  refine sx ?_
  refine s_lif rfl (fun h => absurd h hlt) (fun _ => ?_)
  refine sx ?_
  refine s_if rfl (fun h => absurd h k8) (fun _ => ?_)
  have hU : UpI y.ad x'.ad y'.ad o.do p5 how := by
    refine ⟨g2, g3, g4, ey.1, by rw [u3]; exact (y.ad.did_sz o.do).2, fun h4 m => by rw [u3]; exact Ad.did_barr hI.off hI.armed h4 m, fun h4 => ?_⟩
    have h3 : o.do.k = 3 := hcg.resolve_right h4
    obtain ⟨z1, z2⟩ := Ad.did_write hI.off hI.armed h3 e0
    rw [← u3] at z2
    refine ⟨?_, _, z2⟩
    unfold Ad.err at z1
    rw [if_neg (by rw [hI.off]; simp)] at z1
    by_cases h : o.do.a < 0 ∨ (y.ad.n : Int) ≤ o.do.a
    · rw [if_pos h] at z1; omega
    · omega
  refine s_ent (x'.on 0 (y'.on 0 (.hb b 53 (Cel.f o) :: H))) (Cd.on_ent Cd.up) ?_
  have hof : x'.off = !decide (how = 1) := g2
  rcases (show how = 0 ∨ how = 1 by omega) with e | e
  · rw [e] at hof hU ⊢
    rw [show (if (0 : Int) = 1 then (13 : Int) else 12) = 12 from rfl]
    rw [show (!decide ((0 : Int) = 1)) = true from rfl] at hof
    refine sx ?_
    refine s_call rfl off_s ?_
    rintro _ _ ⟨rfl, rfl⟩
    refine ⟨chk_seq, ?_⟩
    rw [hof]
    refine sx ?_
    refine s_call rfl (upTo_s (o := o) (la := la) v2 u2 (by omega) hU hQ hom.a hql) ?_
    rintro _ _ ⟨rfl, rfl⟩
    refine ⟨chk_seq, ?_⟩
    refine sx ?_
    exact s_ret1 rfl rfl ⟨rfl, rfl⟩ (Ent.tl Ent.refl)
  · rw [e] at hof hU ⊢
    rw [show (if (1 : Int) = 1 then (13 : Int) else 12) = 13 from rfl]
    rw [show (!decide ((1 : Int) = 1)) = false from rfl] at hof
    refine sx ?_
    refine s_call rfl off_s ?_
    rintro _ _ ⟨rfl, rfl⟩
    refine ⟨chk_seq, ?_⟩
    rw [hof]
    refine sx ?_
    refine s_call rfl (upTo_s (o := o) (la := la) v2 u2 (by omega) hU hQ hom.a hql) ?_
    rintro _ _ ⟨rfl, rfl⟩
    refine ⟨chk_seq, ?_⟩
    refine sx ?_
    exact s_ret1 rfl rfl ⟨rfl, rfl⟩ (Ent.tl Ent.refl)
end Go.Sx
