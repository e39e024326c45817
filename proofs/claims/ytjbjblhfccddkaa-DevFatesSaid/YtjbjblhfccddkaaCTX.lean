/- Part of a proof: the law DevFates, walked. -/
import Derived.Test.YtjbjblhfccddkaaCTW
namespace Go.Sx
open Go Go.Proofs
set_option maxRecDepth 10000
variable {w0 : World} {H : List Ck}
instance : ElT Try.prog 31 Pl := ⟨trivial⟩
set_option maxHeartbeats 16000000 in
theorem fates_law {p0 p1 : Int} {a2 a3 a4 : Option Addr} {c2 c3 c4 : Nat} {l m : List Pl} {fs : List Int} (h0 : I64 p0) (h1 : I64 p1) (hl : RSl w0 [] a2 c2 l) (hm : RSl w0 [] a3 c3 m) (hf : RSl w0 [] a4 c4 fs) (hfl : fs.length ≤ 17592186044416)
    (gl : ∀ o ∈ l, I64 o.n) (gm : ∀ o ∈ m, I64 o.n ∧ RBy w0 [] o.va o.vc o.vs ∧ o.vs.length ≤ 140737488355328) :
    FnS Try.prog w0 H 4 #[.int .i64 p0, .int .i64 p1, .slice a2 l.length c2, .slice a3 m.length c3, .slice a4 fs.length c4] (fun v K => v = .bool true ∧ K = H) := by
  refine fns_enter Try.func4 rfl rfl rfl ?_
  obtain ⟨S, hS⟩ : ∃ S, S = szs (pkL p0 4) := ⟨_, rfl⟩
  have hso : szOk (S : Int) := by rw [hS]; exact new_szOk
  have hs := (szs_ok (pkL p0 4)).2
  rw [← hS] at hs
  obtain ⟨k1, k2⟩ := pkL_bd (c := p1) (n := 65521) (by decide)
  obtain ⟨n, hn⟩ : ∃ n : Nat, 16 + pkL p1 65521 = (n : Int) := ⟨(16 + pkL p1 65521).toNat, by omega⟩
  have hnb : 16 ≤ n ∧ n ≤ 65536 := by omega
  obtain ⟨dv, hdv⟩ : ∃ dv, dv = 100000000 / S := ⟨_, rfl⟩
  have hdiv : dv ≤ 195312 := by rw [hdv]; exact Nat.le_trans (Nat.div_le_div_left hs.1 (by decide)) (by decide)
  refine s_kn (Kn.sl hl |>.ent Ent.nil) fun ll => s_kn (Kn.sl hm |>.ent Ent.nil) fun lm => s_kn (Kn.sl hf |>.ent Ent.nil) fun lf => ?_
  refine sx ?_
  refine s_callV rfl awake_s ?_
  refine sx ?_
  refine s_callV rfl (sized_s h0 h1) ?_
  rw [← hS, hn]
  refine sx ?_
  refine s_call rfl (played_s (l := []) (a := none) (cc := 0) hso hnb RSl.nil (fun _ h => by simp at h) (by decide)) ?_
  rintro _ _ ⟨c, q1, q2, rfl, rfl⟩
  refine ⟨chk_seq, ?_⟩
  have q2 : c.ad = Ad.new S n := q2
  refine sx ?_
  have hN0 : RSl w0 (c.on 0 H) a3 c3 m := hm.ent Ent.nil
  refine s_loop (fun i : Nat => [(0, .int .i64 S), (1, .int .i64 n), (2, .slice a2 l.length c2), (3, .slice a3 m.length c3), (4, .slice a4 fs.length c4), (12, .pointer (some ⟨c.b, 0, none⟩)), (13, .int .i64 ((l.length + i + totP m i : Nat) : Int)), (14, .int .i64 i)])
    (fun _ => c.on 0 H) (fun i => i ≤ m.length) (fun i => m.length - i) 0 (Nat.zero_le _) ?_ (h0 := ⟨rfl, rfl, rfl, rfl, rfl, rfl, rfl, rfl, trivial⟩)
  intro i hi
  refine sx ?_
  by_cases hx : i < m.length ∧ l.length + i + totP m i ≤ dv
  · refine s_lif rfl (fun t1 => ?_) (fun t1 => absurd hx.1 (by omega))
    refine sx ?_
    refine s_yS rfl rfl rfl (y_quov (a := 100000000) (c := S) rfl rfl ⟨by decide, by omega⟩) ?_
    rw [← hdv]
    refine sx ?_
    refine s_if rfl (fun t2 => ?_) (fun t2 => absurd hx.2 (by omega))
    obtain ⟨o, ho⟩ : ∃ o, m[i]? = some o := ⟨_, List.getElem?_eq_getElem hx.1⟩
    obtain ⟨g1, g2, g3⟩ := gm o (List.mem_of_getElem? ho)
    refine sx ?_
    refine s_again (i + 1) (by show i + 1 ≤ _; omega) (by omega) ?_
    rw [totP_snoc ho]
    refine ⟨rfl, rfl, rfl, rfl, rfl, rfl, congrArg some (ci (by omega)), rfl, trivial⟩
  have stp : StopAt 11 := trivial
  apply s_joinU
  · intro key
    refine s_lif rfl (fun t1 => ?_) (fun t1 => ?_)
    · refine sx ?_
      refine s_yS rfl rfl rfl (y_quov (a := 100000000) (c := S) rfl rfl ⟨by decide, by omega⟩) ?_
      rw [← hdv]
      refine sxs ?_
      refine s_if rfl (fun t2 => absurd (And.intro (show i < m.length by omega) (show l.length + i + totP m i ≤ dv by omega)) hx) (fun t2 => ?_)
      refine sxs ?_
      refine s_sub (l' := [(0, .int .i64 S), (1, .int .i64 n), (2, .slice a2 l.length c2), (3, .slice a3 m.length c3), (4, .slice a4 fs.length c4), (12, .pointer (some ⟨c.b, 0, none⟩)), (13, .int .i64 ((l.length + i + totP m i : Nat) : Int))]) ?_ (by repeat (first | exact trivial | refine And.intro (by first | exact rfl | exact congrArg some (ci (by omega))) ?_))
      exact key.out
    · refine sxs ?_
      refine s_sub (l' := [(0, .int .i64 S), (1, .int .i64 n), (2, .slice a2 l.length c2), (3, .slice a3 m.length c3), (4, .slice a4 fs.length c4), (12, .pointer (some ⟨c.b, 0, none⟩)), (13, .int .i64 ((l.length + i + totP m i : Nat) : Int))]) ?_ (by repeat (first | exact trivial | refine And.intro (by first | exact rfl | exact congrArg some (ci (by omega))) ?_))
      exact key.out
  refine sx ?_
  refine s_yS rfl rfl rfl (y_quov (a := 100000000) (c := S) rfl rfl ⟨by decide, by omega⟩) ?_
  rw [← hdv]
  refine sx ?_
  refine s_if rfl (fun t3 => ?_) (fun t3 => ?_)
  · refine sx ?_
    exact s_ret1 rfl rfl ⟨rfl, rfl⟩ (Cd.on_tl Ent.refl)
  have hsum : l.length + m.length + totP m m.length ≤ 195312 := by
    have : i = m.length := by
      apply Classical.byContradiction
      intro h
      exact hx ⟨by omega, by omega⟩
    subst this
    omega
  clear hx t3 hi
  refine s_sub (l' := [(0, .int .i64 S), (1, .int .i64 n), (2, .slice a2 l.length c2), (3, .slice a3 m.length c3), (4, .slice a4 fs.length c4), (12, .pointer (some ⟨c.b, 0, none⟩))]) ?_ (by repeat (first | exact trivial | refine And.intro (by first | exact rfl | exact congrArg some (ci (by omega))) ?_))
  have hF0 : Fst1 c.ad S n (fun _ => 0) := by rw [q2]; exact new_fst
  refine sx ?_
  refine s_kmake fun mb => ?_
  refine sx ?_
  refine s_loop (ι := Nat × Cd × List (Int × Value) × (Int → UInt8)) (fun i => [(0, .int .i64 S), (1, .int .i64 n), (2, .slice a2 l.length c2), (3, .slice a3 m.length c3), (4, .slice a4 fs.length c4), (12, .pointer (some ⟨c.b, 0, none⟩)), (15, .map (some mb)), (16, .int .i64 i.1)])
    (fun i => kmp mb i.2.2.1 :: i.2.1.on 0 H) (fun i => i.1 ≤ l.length ∧ i.2.1.b = c.b ∧ i.2.1.Ok i.1 ∧ Fst1 i.2.1.ad S n i.2.2.2 ∧ LastI i.2.2.1 i.2.2.2) (fun i => l.length - i.1) (0, c, [], fun _ => 0) ⟨Nat.zero_le _, rfl, q1, hF0, LastI.nil⟩ ?_ (he := Ent.refl)
  rintro ⟨i, x, kvs, last⟩ ⟨hi, hx, ox, hF, hL⟩
  have hi : i ≤ l.length := hi
  have hx : x.b = c.b := hx
  have ox : x.Ok i := ox
  have hF : Fst1 x.ad S n last := hF
  have hL : LastI kvs last := hL
  show SC _ _ _ _ _ _ _ (kmp mb kvs :: x.on 0 H)
  rw [← hx]
  refine sx ?_
  refine s_if rfl (fun t1 => ?_) (fun t1 => ?_)
  · obtain ⟨o, ho⟩ : ∃ o, l[i]? = some o := ⟨_, List.getElem?_eq_getElem (by omega)⟩
    have hon := gl o (List.mem_of_getElem? ho)
    have hR : RSl w0 (kmp mb kvs :: x.on 0 H) a2 c2 l := hl.ent Ent.nil
    obtain ⟨b1, b2⟩ := pkL_bd (c := o.n) (n := (n : Int)) (by omega)
    obtain ⟨e, he⟩ : ∃ e, e = pkL o.n n := ⟨_, rfl⟩
    refine sx ?_
    refine s_callV rfl (dpick_s hon (by omega)) ?_
    rw [← he] at b1 b2 ⊢
    refine sx ?_
    obtain ⟨v, hv⟩ : ∃ v, v = UInt8.ofInt ((i : Int) % 251) := ⟨_, rfl⟩
    show SL _ _ _ _ _ _ _ ((96, bv (UInt8.ofInt ((i : Int) % 251))) :: _) _ _
    rw [← hv]
    refine s_rw (t := 18) (v' := bv v) rfl (by rw [hv]) ?_
    refine s_call rfl (filled_s (n := S) (b := v) hs.2) ?_
    rintro _ _ ⟨ad, rfl, rfl⟩
    refine ⟨chk_seq, ?_⟩
    refine s_rw (t := 97) (v' := .slice (some ad) (rp S v).length S) rfl (by simp) ?_
    refine s_call rfl (FnS.ent (write_s ox (n := e) ⟨by omega, by omega⟩ (by omega) (RBy.hd (H := kmp mb kvs :: H)) (by simp; omega)) ((Ent.head Cd.up).trans Cd.up)) ?_
    rintro _ _ ⟨x', u1, u2, u3, rfl, rfl⟩
    refine ⟨chk_seq, ?_⟩
    obtain ⟨hF', ew⟩ := hF.write (k := e) ⟨b1, b2⟩ v
    rw [ew, ← u1]
    rw [← u3] at hF'
    refine sx ?_
    refine s_mput rfl rfl rfl (i64_wf ⟨by omega, by omega⟩) (by exact at_) ?_
    refine sx ?_
    refine s_again (i + 1, x', aput kvs e (bv v), upd last e v) ⟨by show i + 1 ≤ _; omega, rfl, u2, hF', hL.put e v⟩ (by show l.length - (i + 1) < l.length - i; omega) (he := ?_)
    exact Ent.cons (by exact rmq) (Ent.cons (by exact rmq) (Ent.cons (by exact rmq) (Ent.cons (by exact rmq) (Ent.tl Ent.refl))))
  clear hF0 hN0 q2 q1
  obtain ⟨hG, eb⟩ := hF.barrier
  refine sx ?_
  refine s_call rfl (FnS.ent (barrier_s (H := kmp mb kvs :: H) ox (by omega)) Cd.up) ?_
  rintro _ _ ⟨y, r1, r2, r3, rfl, rfl⟩
  refine ⟨chk_seq, ?_⟩
  rw [eb, ← r1]
  rw [← r3] at hG
  refine sx ?_
  refine s_kmake fun mc => ?_
  refine sx ?_
  have hi' : x.Ok l.length := ox.mono hi
  refine s_loop (ι := Nat × Cd × List Wn × (Int → List UInt8)) (fun i => [(0, .int .i64 S), (1, .int .i64 n), (3, .slice a3 m.length c3), (4, .slice a4 fs.length c4), (12, .pointer (some ⟨y.b, 0, none⟩)), (15, .map (some mb)), (19, .map (some mc)), (20, .int .i64 i.1)])
    (fun i => kmp mc (i.2.2.1.map Wn.kv) :: stars oWn i.2.2.1 :: i.2.1.on 0 (kmp mb kvs :: H)) (fun i => i.1 ≤ m.length ∧ i.2.1.b = y.b ∧ i.2.1.Ok (l.length + totP m i.1) ∧ Snd1 i.2.1.ad S n last i.2.2.2 ∧ WrI i.2.2.1 i.2.2.2) (fun i => m.length - i.1) (0, y, [], fun _ => []) ⟨Nat.zero_le _, rfl, r2.mono (by show i ≤ l.length + _; omega), hG, WrI.nil⟩ ?_ (he := ?_)
  rotate_left
  · exact Ent.head (stars_nil (f := oWn))
  rintro ⟨j, z, ws, wr⟩ ⟨hj, hz, oz, hZ, hW⟩
  have hj : j ≤ m.length := hj
  have hz : z.b = y.b := hz
  have oz : z.Ok (l.length + totP m j) := oz
  have hZ : Snd1 z.ad S n last wr := hZ
  have hW : WrI ws wr := hW
  show SC _ _ _ _ _ _ _ (kmp mc (ws.map Wn.kv) :: stars oWn ws :: z.on 0 (kmp mb kvs :: H))
  rw [← hz]
  have htj := totP_le (l := m) hj
  refine sx ?_
  refine s_if rfl (fun t4 => ?_) (fun t4 => ?_)
  · obtain ⟨o, ho⟩ : ∃ o, m[j]? = some o := ⟨_, List.getElem?_eq_getElem (by omega)⟩
    obtain ⟨hon, hov, hol⟩ := gm o (List.mem_of_getElem? ho)
    have hR : RSl w0 (kmp mc (ws.map Wn.kv) :: stars oWn ws :: z.on 0 (kmp mb kvs :: H)) a3 c3 m := hm.ent Ent.nil
    obtain ⟨b1, b2⟩ := pkL_bd (c := o.n) (n := (n : Int)) (by omega)
    obtain ⟨e, he⟩ : ∃ e, e = pkL o.n n := ⟨_, rfl⟩
    have hsn := totP_snoc ho
    have hsl := totP_le (l := m) (i := j + 1) (j := m.length) (by omega)
    refine sx ?_
    refine s_callV rfl (dpick_s hon (by omega)) ?_
    rw [← he] at b1 b2 ⊢
    refine sx ?_
    refine s_loop (ι := Nat × Cd × List Wn × (Int → List UInt8)) (fun i => [(0, .int .i64 S), (1, .int .i64 n), (3, .slice a3 m.length c3), (4, .slice a4 fs.length c4), (12, .pointer (some ⟨z.b, 0, none⟩)), (15, .map (some mb)), (19, .map (some mc)), (20, .int .i64 j), (21, .int .i64 e), (22, .int .i64 i.1)])
      (fun i => kmp mc (i.2.2.1.map Wn.kv) :: stars oWn i.2.2.1 :: i.2.1.on 0 (kmp mb kvs :: H)) (fun i => i.1 ≤ o.vs.length ∧ i.2.1.b = z.b ∧ i.2.1.Ok (l.length + totP m j + i.1) ∧ Snd1 i.2.1.ad S n last i.2.2.2 ∧ WrI i.2.2.1 i.2.2.2) (fun i => o.vs.length - i.1) (0, z, ws, wr) ⟨Nat.zero_le _, rfl, oz, hZ, hW⟩ ?_ (he := Ent.refl)
    rintro ⟨k, u, us, ur⟩ ⟨hk, hu, ou, hU, hV⟩
    have hk : k ≤ o.vs.length := hk
    have hu : u.b = z.b := hu
    have ou : u.Ok (l.length + totP m j + k) := ou
    have hU : Snd1 u.ad S n last ur := hU
    have hV : WrI us ur := hV
    show SC _ _ _ _ _ _ _ (kmp mc (us.map Wn.kv) :: stars oWn us :: u.on 0 (kmp mb kvs :: H))
    rw [← hu]
    have hR : RSl w0 (kmp mc (us.map Wn.kv) :: stars oWn us :: u.on 0 (kmp mb kvs :: H)) a3 c3 m := hm.ent Ent.nil
    have hRv : RBy w0 (kmp mc (us.map Wn.kv) :: stars oWn us :: u.on 0 (kmp mb kvs :: H)) o.va o.vc o.vs := hov.ent Ent.nil
    refine sx ?_
    refine s_if rfl (fun t5 => ?_) (fun t5 => ?_)
    · have hRs := hRv.sl'
      have hw2 : ((ur e).length : Nat) ≤ l.length + totP m j + k := by
        have := ou.w_len e
        rw [hU.at_ e] at this
        simpa using this
      refine sx ?_
      obtain ⟨v, hv⟩ : ∃ v, v = o.vs.getD k 0 := ⟨_, rfl⟩
      refine s_rw (t := 140) (v' := bv v) rfl (by rw [hv]) ?_
      refine s_call rfl (filled_s (n := S) (b := v) hs.2) ?_
      rintro _ _ ⟨ad, rfl, rfl⟩
      refine ⟨chk_seq, ?_⟩
      refine s_rw (t := 141) (v' := .slice (some ad) (rp S v).length S) rfl (by simp) ?_
      refine s_call rfl (FnS.ent (write_s ou (n := e) ⟨by omega, by omega⟩ (by omega) (RBy.hd (H := kmp mc (us.map Wn.kv) :: stars oWn us :: kmp mb kvs :: H)) (by simp; omega)) ((Ent.head ((Ent.head Cd.up).trans Cd.up)).trans Cd.up)) ?_
      rintro _ _ ⟨u', u1, u2, u3, rfl, rfl⟩
      refine ⟨chk_seq, ?_⟩
      obtain ⟨hU', ew⟩ := hU.write (k := e) ⟨b1, b2⟩ v
      rw [ew, ← u1]
      rw [← u3] at hU'
      refine sx ?_
      have hwk : Wk e := i64_wf ⟨by omega, by omega⟩
      rcases hV.get e with ⟨n1, n2, n3⟩ | ⟨i0, e0, n1, rfl, n2, n3, n4⟩
      · refine s_ent (kmp mc (us.map Wn.kv) :: ob none 0 [] :: stars oWn us :: u'.on 0 (kmp mb kvs :: H)) ?_ ?_
        · exact Ent.cons (by exact rmq) (Ent.addNil (Ent.cons (by exact rmq) (Ent.cons (by exact rmq) (Ent.cons (by exact rmq) (Ent.cons (by exact rmq) (Ent.tl Ent.refl))))))
        refine s_drH [] (.one true 0 (.one true 1 (.one true 2 (.one true 3 (.one true 5 (.one true 6 (.one true 7 (.one true 8 (.one true 9 (.one true 10 (.one true 11 (.one true 12 (.alt (.one false 4 (.one false 13 (.one false 14 (.one false 15 .nil)))) (.one false 13 (.one false 4 (.one false 14 (.one false 15 .nil))))))))))))))))) mixed (by kernel_rfl) ?_ (he := Ent.nil)
        refine sx ?_
        rw [n2, List.nil_append] at hU'
        refine s_alt ?_ ?_
        · refine s_lkp (us.map Wn.kv) rfl rfl hwk ?_
          rw [n3]
          refine sx ?_
          refine s_bsl ([v] : List UInt8) rfl (by rw [hv]; rfl) fun b9 => ?_
          refine sx ?_
          refine s_app (xs := ([] : List UInt8)) (ys := [v]) ?_
          intro a5 c5
          refine sx ?_
          refine s_mput rfl rfl rfl hwk (by exact at_) ?_
          refine sx ?_
          obtain ⟨w1, w2⟩ := hV.add n1 (s := ⟨a5, c5, [v]⟩) (by simp)
          refine s_again (k + 1, u', us ++ [⟨e, ⟨a5, c5, [v]⟩⟩], upd ur e [v]) ⟨by show k + 1 ≤ _; omega, rfl, u2, hU', w1⟩ (by show o.vs.length - (k + 1) < o.vs.length - k; omega) (he := ?_)
          refine Ent.tl ?_
          show Ent (kmp mc (aput (us.map Wn.kv) e (⟨a5, c5, [v]⟩ : SB).val) :: _) (kmp mc ((us ++ [(⟨e, ⟨a5, c5, [v]⟩⟩ : Wn)]).map Wn.kv) :: stars oWn (us ++ [(⟨e, ⟨a5, c5, [v]⟩⟩ : Wn)]) :: u'.on 0 (kmp mb kvs :: H))
          rw [w2]
          exact Ent.head (stars_snoc (f := oWn) (s := (⟨e, ⟨a5, c5, [v]⟩⟩ : Wn)))
        · refine s_bsl ([v] : List UInt8) rfl (by rw [hv]; rfl) fun b9 => ?_
          refine sx ?_
          refine s_lkp (us.map Wn.kv) rfl rfl hwk ?_
          rw [n3]
          refine sx ?_
          refine s_app (xs := ([] : List UInt8)) (ys := [v]) ?_
          intro a5 c5
          refine sx ?_
          refine s_mput rfl rfl rfl hwk (by exact at_) ?_
          refine sx ?_
          obtain ⟨w1, w2⟩ := hV.add n1 (s := ⟨a5, c5, [v]⟩) (by simp)
          refine s_again (k + 1, u', us ++ [⟨e, ⟨a5, c5, [v]⟩⟩], upd ur e [v]) ⟨by show k + 1 ≤ _; omega, rfl, u2, hU', w1⟩ (by show o.vs.length - (k + 1) < o.vs.length - k; omega) (he := ?_)
          refine Ent.tl ?_
          show Ent (kmp mc (aput (us.map Wn.kv) e (⟨a5, c5, [v]⟩ : SB).val) :: _) (kmp mc ((us ++ [(⟨e, ⟨a5, c5, [v]⟩⟩ : Wn)]).map Wn.kv) :: stars oWn (us ++ [(⟨e, ⟨a5, c5, [v]⟩⟩ : Wn)]) :: u'.on 0 (kmp mb kvs :: H))
          rw [w2]
          exact Ent.head (stars_snoc (f := oWn) (s := (⟨e, ⟨a5, c5, [v]⟩⟩ : Wn)))
      · rw [n2] at hw2 hU'
        refine s_ent (kmp mc (us.map Wn.kv) :: ob e0.s.a e0.s.c e0.s.xs :: stars oWn (us.eraseIdx i0) :: u'.on 0 (kmp mb kvs :: H)) ?_ ?_
        · refine Ent.trans (H' := stars oWn us :: kmp mc (us.map Wn.kv) :: u'.on 0 (kmp mb kvs :: H)) ?_ ?_
          · exact Ent.cons (by exact rmq) (Ent.cons (by exact rmq) (Ent.cons (by exact rmq) (Ent.cons (by exact rmq) (Ent.cons (by exact rmq) (Ent.tl Ent.refl)))))
          · refine (stars_get (f := oWn) n1).trans ?_
            show Ent (ob e0.s.a e0.s.c e0.s.xs :: stars oWn (us.eraseIdx i0) :: kmp mc (us.map Wn.kv) :: u'.on 0 (kmp mb kvs :: H)) _
            exact Ent.cons (by exact rmq) Ent.refl
        refine s_drH [] (.one true 0 (.one true 1 (.one true 2 (.one true 3 (.one true 5 (.one true 6 (.one true 7 (.one true 8 (.one true 9 (.one true 10 (.one true 11 (.one true 12 (.alt (.one false 4 (.one false 13 (.one false 14 (.one false 15 .nil)))) (.one false 13 (.one false 4 (.one false 14 (.one false 15 .nil))))))))))))))))) mixed (by kernel_rfl) ?_ (he := Ent.nil)
        refine sx ?_
        refine s_alt ?_ ?_
        · refine s_lkp (us.map Wn.kv) rfl rfl hwk ?_
          rw [n4]
          refine sx ?_
          refine s_bsl ([v] : List UInt8) rfl (by rw [hv]; rfl) fun b9 => ?_
          refine sx ?_
          refine s_app (xs := e0.s.xs) (ys := [v]) ?_
          intro a5 c5
          refine sx ?_
          refine s_mput rfl rfl rfl hwk (by exact at_) ?_
          refine sx ?_
          obtain ⟨w1, w2⟩ := hV.set n1 (s := ⟨a5, c5, e0.s.xs ++ [v]⟩) (by simp)
          refine s_again (k + 1, u', us.set i0 ⟨e0.n, ⟨a5, c5, e0.s.xs ++ [v]⟩⟩, upd ur e0.n (e0.s.xs ++ [v])) ⟨by show k + 1 ≤ _; omega, rfl, u2, hU', w1⟩ (by show o.vs.length - (k + 1) < o.vs.length - k; omega) (he := ?_)
          refine Ent.tl ?_
          show Ent (kmp mc (aput (us.map Wn.kv) e0.n (⟨a5, c5, e0.s.xs ++ [v]⟩ : SB).val) :: _) (kmp mc ((us.set i0 (⟨e0.n, ⟨a5, c5, e0.s.xs ++ [v]⟩⟩ : Wn)).map Wn.kv) :: stars oWn (us.set i0 (⟨e0.n, ⟨a5, c5, e0.s.xs ++ [v]⟩⟩ : Wn)) :: u'.on 0 (kmp mb kvs :: H))
          rw [w2]
          exact Ent.head (stars_put (f := oWn) (s := (⟨e0.n, ⟨a5, c5, e0.s.xs ++ [v]⟩⟩ : Wn)) (List.getElem?_eq_some_iff.1 n1).1)
        · refine s_bsl ([v] : List UInt8) rfl (by rw [hv]; rfl) fun b9 => ?_
          refine sx ?_
          refine s_lkp (us.map Wn.kv) rfl rfl hwk ?_
          rw [n4]
          refine sx ?_
          refine s_app (xs := e0.s.xs) (ys := [v]) ?_
          intro a5 c5
          refine sx ?_
          refine s_mput rfl rfl rfl hwk (by exact at_) ?_
          refine sx ?_
          obtain ⟨w1, w2⟩ := hV.set n1 (s := ⟨a5, c5, e0.s.xs ++ [v]⟩) (by simp)
          refine s_again (k + 1, u', us.set i0 ⟨e0.n, ⟨a5, c5, e0.s.xs ++ [v]⟩⟩, upd ur e0.n (e0.s.xs ++ [v])) ⟨by show k + 1 ≤ _; omega, rfl, u2, hU', w1⟩ (by show o.vs.length - (k + 1) < o.vs.length - k; omega) (he := ?_)
          refine Ent.tl ?_
          show Ent (kmp mc (aput (us.map Wn.kv) e0.n (⟨a5, c5, e0.s.xs ++ [v]⟩ : SB).val) :: _) (kmp mc ((us.set i0 (⟨e0.n, ⟨a5, c5, e0.s.xs ++ [v]⟩⟩ : Wn)).map Wn.kv) :: stars oWn (us.set i0 (⟨e0.n, ⟨a5, c5, e0.s.xs ++ [v]⟩⟩ : Wn)) :: u'.on 0 (kmp mb kvs :: H))
          rw [w2]
          exact Ent.head (stars_put (f := oWn) (s := (⟨e0.n, ⟨a5, c5, e0.s.xs ++ [v]⟩⟩ : Wn)) (List.getElem?_eq_some_iff.1 n1).1)
    · refine sx ?_
      obtain rfl : k = o.vs.length := by omega
      refine s_again (j + 1, u, us, ur) ⟨by show j + 1 ≤ _; omega, rfl, by show u.Ok (l.length + totP m (j + 1)); rw [hsn]; exact ou.mono (by omega), hU, hV⟩ (by show m.length - (j + 1) < m.length - j; omega)
  obtain ⟨M, hM⟩ : ∃ M, M = l.length + totP m j := ⟨_, rfl⟩
  rw [← hM] at oz
  have hM2 : M ≤ 195312 := by omega
  refine sx ?_
  refine s_call rfl (FnS.ent (Pending_s (H := kmp mc (ws.map Wn.kv) :: stars oWn ws :: kmp mb kvs :: H) oz (by omega)) ((Ent.head Cd.up).trans Cd.up)) ?_
  rintro _ _ ⟨ap, cp, lp, hP, hpl, rfl, rfl⟩
  refine ⟨chk_seq, ?_⟩
  obtain ⟨pw, hpw⟩ : ∃ pw : List Wt, pw = lp.map z.ad.wto := ⟨_, rfl⟩
  have hpget : ∀ i x, lp[i]? = some x → pw[i]? = some (⟨x, (wr x).length⟩ : Wt) := fun i x hx => by
    rw [hpw, List.getElem?_map, hx]
    simp only [Option.map_some, Ad.wto, hZ.at_ x, List.length_map]
  have hpwl : pw.length = lp.length := by rw [hpw]; simp
  have hmem : ∀ x, x ∈ lp ↔ wr x ≠ [] := fun x => by rw [hP.iff x, hZ.at_ x]; simp
  have hlp0 : ∀ x ∈ lp, 0 ≤ x := fun x hx => by
    have h := (hP.iff x).1 hx
    apply Classical.byContradiction
    intro h2
    refine h ?_
    have : z.ad.at_ x = _ := atE_no (size := z.size) (es := z.es) (m := x) (fun h3 => by
      obtain ⟨q, hq, rfl⟩ := List.mem_map.1 h3
      have := oz.dom q hq
      omega)
    rw [this]
  rw [← hpw]
  obtain ⟨G, hG⟩ : ∃ G, G = ol 43 ap cp pw :: kmp mc (ws.map Wn.kv) :: stars oWn ws :: kmp mb kvs :: H := ⟨_, rfl⟩
  have eG : Ent G H := by rw [hG]; exact Ent.tl (Ent.tl (Ent.tl (Ent.tl Ent.refl)))
  have gP : RSl w0 G ap cp pw := by rw [hG]; exact RSl.hd
  have gC : RMk w0 G mc (ws.map Wn.kv) := by rw [hG]; exact RMk.tl RMk.hd
  have gB : RMk w0 G mb kvs := by rw [hG]; exact RMk.tl (RMk.tl (RMk.tl RMk.hd))
  have gW : ∀ e ∈ ws, RBy w0 G e.s.a e.s.c e.s.xs := fun e he => by
    rw [hG]
    exact RBy.tl (RBy.tl (RBy.ent (RBy.hd (E := 5) (H := [])) (stars_mem (f := oWn) he)))
  rw [← hG]
  clear hG hpw
  refine sx ?_
  refine s_loop (ι := Nat × Cd) (fun i => [(0, .int .i64 S), (1, .int .i64 n), (4, .slice a4 fs.length c4), (12, .pointer (some ⟨z.b, 0, none⟩)), (15, .map (some mb)), (19, .map (some mc)), (23, .slice ap pw.length cp), (24, .int .i64 i.1)])
    (fun i => i.2.on 0 G) (fun i => i.1 ≤ 2 ∧ i.2.b = z.b ∧ i.2.Ok M ∧ ((i.1 = 0 ∧ Snd1 i.2.ad S n last wr ∧ i.2.ad.Pend lp) ∨ Thd1 i.2.ad S n last wr lp fs)) (fun i => 2 - i.1) (0, z) ⟨(by decide : 0 ≤ 2), rfl, oz, Or.inl (And.intro rfl (And.intro hZ hP))⟩ ?_
  rintro ⟨t, y⟩ ⟨ht, hy, oy, hY⟩
  have ht : t ≤ 2 := ht
  have hy : y.b = z.b := hy
  have oy : y.Ok M := oy
  have hY : (t = 0 ∧ Snd1 y.ad S n last wr ∧ y.ad.Pend lp) ∨ Thd1 y.ad S n last wr lp fs := hY
  show SC _ _ _ _ _ _ _ (y.on 0 G)
  rw [← hy]
  refine sx ?_
  refine s_if rfl (fun t6 => ?_) (fun t6 => ?_)
  rotate_left
  · refine sx ?_
    exact s_ret1 rfl rfl ⟨rfl, rfl⟩ (Cd.on_tl eG)
  refine sx ?_
  refine s_call rfl (restart_s (fs := fs) oy (hf.ent Ent.nil) hfl (by omega)) ?_
  rintro _ _ ⟨y1, l1, u1, u2, u3, u4, rfl, rfl⟩
  refine ⟨chk_seq, ?_⟩
  have hT : Thd1 y1.ad S n last wr lp fs := by
    rw [u4]
    rcases hY with ⟨_, h1, h2⟩ | h1
    · rw [u3.uniq h2]
      exact h1.restart h2 fs
    · exact h1.restart u3 fs
  clear u3 u4 hY
  rw [← u1]
  refine sx ?_
  refine s_call rfl (Pending_s u2 (by omega)) ?_
  rintro _ _ ⟨a9, c9, l9, hP9, _, rfl, rfl⟩
  refine ⟨chk_seq, ?_⟩
  obtain rfl : l9 = [] := hP9.uniq hT.none
  have hof : y1.off = false := hT.off
  refine s_entL (y1.on 0 G) (Cd.on_ent (Ent.tl Ent.refl)) ?_
  refine sx ?_
  refine s_call rfl off_s ?_
  rintro _ _ ⟨rfl, rfl⟩
  refine ⟨chk_seq, ?_⟩
  rw [hof]
  refine sx ?_
  refine s_loop (ι := Nat × Nat × Cd) (fun i => [(0, .int .i64 S), (1, .int .i64 n), (4, .slice a4 fs.length c4), (12, .pointer (some ⟨y1.b, 0, none⟩)), (15, .map (some mb)), (19, .map (some mc)), (23, .slice ap pw.length cp), (24, .int .i64 t), (25, .int .i64 i.2.1), (26, .int .i64 i.1)])
    (fun i => i.2.2.on 0 G) (fun i => i.1 ≤ n ∧ i.2.2.b = y1.b ∧ i.2.2.Ok M ∧ Thd1 i.2.2.ad S n last wr lp fs ∧ AtI lp i.1 i.2.1) (fun i => n - i.1) (0, 0, y1) ⟨Nat.zero_le _, rfl, u2, hT, AtI.start hlp0⟩ ?_
  rintro ⟨k, q, x⟩ ⟨hk, hx, ox, hT, hA⟩
  have hk : k ≤ n := hk
  have hx : x.b = y1.b := hx
  have ox : x.Ok M := ox
  have hT : Thd1 x.ad S n last wr lp fs := hT
  have hA : AtI lp k q := hA
  have hql := hA.le
  show SC _ _ _ _ _ _ _ (x.on 0 G)
  rw [← hx]
  refine sx ?_
  refine s_if rfl (fun t7 => ?_) (fun t7 => ?_)
  rotate_left
  · refine sx ?_
    refine s_again (t + 1, x) ⟨by show t + 1 ≤ 2; omega, by show x.b = _; rw [hx, u1], ox, Or.inr hT⟩ (by show 2 - (t + 1) < 2 - t; omega)
  have hwk : Wk (k : Int) := i64_wf ⟨by omega, by omega⟩
  have gC' : RMk w0 (x.on 0 G) mc (ws.map Wn.kv) := gC.ent (Cd.on_tl Ent.refl)
  have gB' : RMk w0 (x.on 0 G) mb kvs := gB.ent (Cd.on_tl Ent.refl)
  have gP' : RSl w0 (x.on 0 G) ap cp pw := gP.ent (Cd.on_tl Ent.refl)
  have gF' : RSl w0 (x.on 0 G) a4 c4 fs := hf.ent Ent.nil
  obtain ⟨wa, wc, hwv, gV⟩ : ∃ (wa : Option Addr) (wc : Nat), (aget (ws.map Wn.kv) k).getD (.slice none 0 0) = .slice wa (wr k).length wc ∧ RBy w0 (x.on 0 G) wa wc (wr k) := by
    rcases hW.get (k : Int) with ⟨n1, n2, n3⟩ | ⟨i0, e0, n1, hen, n2, n3, n4⟩
    · exact ⟨none, 0, by rw [n3, n2]; rfl, by rw [n2]; exact RBy.nil⟩
    · exact ⟨e0.s.a, e0.s.c, by rw [n4, n2]; rfl, by rw [n2]; exact (gW e0 (List.mem_of_getElem? n1)).ent (Cd.on_tl Ent.refl)⟩
  have hwl : (wr k).length ≤ 195312 := by
    have h := (hW.get (k : Int))
    have h2 := oz.w_len k
    rw [hZ.at_ k] at h2
    simp only [List.length_map] at h2
    omega
  obtain ⟨f, hfv⟩ : ∃ f : Int, f = if wr k = [] then 0 else fs.getD (lp.idxOf (k : Int)) 0 := ⟨_, rfl⟩
  obtain ⟨q', hq'⟩ : ∃ q' : Nat, q' = if wr k = [] then q else q + 1 := ⟨_, rfl⟩
  have hA' : AtI lp ((k + 1 : Nat) : Int) q' := by
    rw [hq']
    by_cases hw : wr k = []
    · rw [if_pos hw]
      exact hA.miss (fun h => (hmem k).1 h hw)
    · rw [if_neg hw]
      exact (hA.hit hP.up ((hmem k).2 hw)).2.2
  refine sx ?_
  refine s_lkp (ws.map Wn.kv) rfl rfl hwk ?_
  rw [hwv]
  clear stp
  have stp : StopAt 54 := trivial
  apply s_joinU
  · intro key
    refine sxs ?_
    refine s_if rfl (fun h => ?_) (fun h => ?_)
    · have hw : wr k ≠ [] := fun e => by rw [e] at h; simp at h
      obtain ⟨a1, a2', a3'⟩ := hA.hit hP.up ((hmem k).2 hw)
      have hpq := hpget q k a1
      have hq1 : q < pw.length := (List.getElem?_eq_some_iff.1 hpq).1
      rw [if_neg hw] at hq' hfv
      rw [a2'] at hfv
      refine sxs ?_
      refine s_lif rfl (fun h2 => absurd hq1 (by have h2 : (pw.length : Int) ≤ (q : Int) := h2; omega)) (fun _ => ?_)
      refine sxs ?_
      refine s_if rfl (fun h3 => ?_) (fun h3 => ?_)
      · have h3 : (q : Int) < (fs.length : Int) := h3
        obtain ⟨g, hg⟩ : ∃ g, fs[q]? = some g := ⟨_, List.getElem?_eq_getElem (by omega)⟩
        rw [List.getD_eq_getElem?_getD, hg] at hfv
        have hfv : f = g := hfv
        refine sxs ?_
        refine s_rwC (t := 28) (v' := .int .i64 f) rfl (by rw [hfv]) ?_
        refine s_rwC (t := 25) (v' := .int .i64 q') rfl (ic (by rw [hq']; rfl)) ?_
        refine s_sub (l' := [(0, .int .i64 S), (1, .int .i64 n), (4, .slice a4 fs.length c4), (12, .pointer (some ⟨x.b, 0, none⟩)), (15, .map (some mb)), (19, .map (some mc)), (23, .slice ap pw.length cp), (24, .int .i64 t), (25, .int .i64 q'), (26, .int .i64 k), (27, .slice wa (wr k).length wc), (28, .int .i64 f)]) ?_ (by repeat (first | exact trivial | refine And.intro (by first | exact rfl | exact congrArg some (ci (by omega))) ?_))
        exact key.out
      · have h3 : ¬ (q : Int) < (fs.length : Int) := h3
        rw [List.getD_eq_getElem?_getD, List.getElem?_eq_none (by omega)] at hfv
        have hfv : f = 0 := hfv
        refine sxs ?_
        refine s_rwC (t := 28) (v' := .int .i64 f) rfl (by rw [hfv]) ?_
        refine s_rwC (t := 25) (v' := .int .i64 q') rfl (ic (by rw [hq']; rfl)) ?_
        refine s_sub (l' := [(0, .int .i64 S), (1, .int .i64 n), (4, .slice a4 fs.length c4), (12, .pointer (some ⟨x.b, 0, none⟩)), (15, .map (some mb)), (19, .map (some mc)), (23, .slice ap pw.length cp), (24, .int .i64 t), (25, .int .i64 q'), (26, .int .i64 k), (27, .slice wa (wr k).length wc), (28, .int .i64 f)]) ?_ (by repeat (first | exact trivial | refine And.intro (by first | exact rfl | exact congrArg some (ci (by omega))) ?_))
        exact key.out
    · have hw : wr k = [] := List.eq_nil_of_length_eq_zero (by omega)
      rw [if_pos hw] at hq' hfv
      refine sxs ?_
      refine s_rwC (t := 28) (v' := .int .i64 f) rfl (by rw [hfv]) ?_
      refine s_rwC (t := 25) (v' := .int .i64 q') rfl (by rw [hq']) ?_
      refine s_sub (l' := [(0, .int .i64 S), (1, .int .i64 n), (4, .slice a4 fs.length c4), (12, .pointer (some ⟨x.b, 0, none⟩)), (15, .map (some mb)), (19, .map (some mc)), (23, .slice ap pw.length cp), (24, .int .i64 t), (25, .int .i64 q'), (26, .int .i64 k), (27, .slice wa (wr k).length wc), (28, .int .i64 f)]) ?_ (by repeat (first | exact trivial | refine And.intro (by first | exact rfl | exact congrArg some (ci (by omega))) ?_))
      exact key.out
  refine sx ?_
  refine s_lkp kvs rfl rfl hwk ?_
  refine s_rw (t := 222) (v' := bv (last k)) rfl (hL k) ?_
  obtain ⟨want, hwant⟩ : ∃ want : UInt8, want = if 1 ≤ f ∧ f ≤ (wr k).length then (wr k).getD (f - 1).toNat 0 else last k := ⟨_, rfl⟩
  obtain ⟨hs1, hs2⟩ := hT.shown (m := (k : Int)) ⟨by omega, by omega⟩ hfv
  rw [← hwant] at hs2
  have gVs := gV.sl'
  clear stp
  have stp : StopAt 57 := trivial
  apply s_joinU
  · intro key
    refine sxs ?_
    refine s_lif rfl (fun h => ?_) (fun h => ?_)
    · have h : (1 : Int) ≤ f := h
      refine sxs ?_
      refine s_if rfl (fun h2 => ?_) (fun h2 => ?_)
      · have h2 : f ≤ ((wr k).length : Int) := h2
        obtain ⟨g, hfe⟩ : ∃ g : Nat, f = (g : Int) + 1 := ⟨(f - 1).toNat, by omega⟩
        rw [if_pos ⟨h, h2⟩, show (f - 1).toNat = g by omega] at hwant
        refine sxs ?_
        refine s_rw (t := 233) (v' := .int .i64 (g : Int)) rfl (ic (by omega)) ?_
        refine sxs ?_
        refine s_rwC (t := 29) (v' := bv want) rfl (by rw [hwant]) ?_
        refine s_sub (l' := [(0, .int .i64 S), (1, .int .i64 n), (4, .slice a4 fs.length c4), (12, .pointer (some ⟨x.b, 0, none⟩)), (15, .map (some mb)), (19, .map (some mc)), (23, .slice ap pw.length cp), (24, .int .i64 t), (25, .int .i64 q'), (26, .int .i64 k), (27, .slice wa (wr k).length wc), (28, .int .i64 f), (29, bv want)]) ?_ (by repeat (first | exact trivial | refine And.intro (by first | exact rfl | exact congrArg some (ci (by omega))) ?_))
        exact key.out
      · have h2 : ¬ f ≤ ((wr k).length : Int) := h2
        rw [if_neg (fun h3 => h2 h3.2)] at hwant
        refine sxs ?_
        refine s_rwC (t := 29) (v' := bv want) rfl (by rw [hwant]) ?_
        refine s_sub (l' := [(0, .int .i64 S), (1, .int .i64 n), (4, .slice a4 fs.length c4), (12, .pointer (some ⟨x.b, 0, none⟩)), (15, .map (some mb)), (19, .map (some mc)), (23, .slice ap pw.length cp), (24, .int .i64 t), (25, .int .i64 q'), (26, .int .i64 k), (27, .slice wa (wr k).length wc), (28, .int .i64 f), (29, bv want)]) ?_ (by repeat (first | exact trivial | refine And.intro (by first | exact rfl | exact congrArg some (ci (by omega))) ?_))
        exact key.out
    · have h : ¬ (1 : Int) ≤ f := h
      rw [if_neg (fun h3 => h h3.1)] at hwant
      refine sxs ?_
      refine s_rwC (t := 29) (v' := bv want) rfl (by rw [hwant]) ?_
      refine s_sub (l' := [(0, .int .i64 S), (1, .int .i64 n), (4, .slice a4 fs.length c4), (12, .pointer (some ⟨x.b, 0, none⟩)), (15, .map (some mb)), (19, .map (some mc)), (23, .slice ap pw.length cp), (24, .int .i64 t), (25, .int .i64 q'), (26, .int .i64 k), (27, .slice wa (wr k).length wc), (28, .int .i64 f), (29, bv want)]) ?_ (by repeat (first | exact trivial | refine And.intro (by first | exact rfl | exact congrArg some (ci (by omega))) ?_))
      exact key.out
  refine sx ?_
  refine s_call rfl (shown_s (n := (k : Int)) ox ⟨by omega, by omega⟩ (by omega)) ?_
  rintro _ _ ⟨x', x1, x2, x3, rfl, rfl⟩
  refine ⟨chk_seq, ?_⟩
  have again : Ent (x'.on 0 G) (x'.on 0 G) := Ent.refl
  have hT' : Thd1 x'.ad S n last wr lp fs := by rw [x3]; exact hT
  have hox : x'.b = y1.b := x1.trans hx
  rw [hs1]
  by_cases hbad : wr k ≠ [] ∧ f = (wr k).length + 1
  · rw [if_pos hbad]
    have hpos : 0 < (wr k).length := List.length_pos_iff.2 hbad.1
    refine sx ?_
    refine s_lif rfl (fun _ => ?_) (fun h => absurd hpos (by omega))
    refine sx ?_
    refine s_rw (t := 250) (v' := .bool true) rfl (by rw [decide_eq_true]; exact hbad.2) ?_
    refine sx ?_
    refine s_rw (t := 32) (v' := .bool true) rfl (by rw [decide_eq_true hbad.2]) ?_
    refine s_rw (t := 255) (v' := .bool false) rfl (by rw [decide_eq_true hbad.2]; rfl) ?_
    refine sx ?_
    rw [← x1]
    refine s_again (k + 1, q', x') ⟨by show k + 1 ≤ n; omega, rfl, x2, hT', hA'⟩ (by show n - (k + 1) < n - k; omega)
  · rw [if_neg hbad]
    have htx : x.ad.txt k = rp S want := by
      unfold Ad.txt
      rw [hs1, if_neg hbad, if_pos rfl]
      exact hs2 hbad
    rw [← x1]
    clear stp
    have stp : StopAt 59 := trivial
    apply s_joinU
    · intro key
      refine sxs ?_
      refine s_lif rfl (fun h => ?_) (fun h => ?_)
      · have hne : wr k ≠ [] := fun e => by rw [e] at h; simp at h
        refine sxs ?_
        refine s_rwC (t := 32) (v' := .bool false) rfl (by rw [decide_eq_false (fun e => hbad ⟨hne, e⟩)]) ?_
        refine s_sub (l' := [(0, .int .i64 S), (1, .int .i64 n), (4, .slice a4 fs.length c4), (12, .pointer (some ⟨x'.b, 0, none⟩)), (15, .map (some mb)), (19, .map (some mc)), (23, .slice ap pw.length cp), (24, .int .i64 t), (25, .int .i64 q'), (26, .int .i64 k), (27, .slice wa (wr k).length wc), (28, .int .i64 f), (29, bv want), (30, str (x.ad.txt k)), (31, .bool true), (32, .bool false)]) ?_ (by repeat (first | exact trivial | refine And.intro (by first | exact rfl | exact congrArg some (ci (by omega))) ?_))
        exact key.out
      · refine sxs ?_
        refine s_sub (l' := [(0, .int .i64 S), (1, .int .i64 n), (4, .slice a4 fs.length c4), (12, .pointer (some ⟨x'.b, 0, none⟩)), (15, .map (some mb)), (19, .map (some mc)), (23, .slice ap pw.length cp), (24, .int .i64 t), (25, .int .i64 q'), (26, .int .i64 k), (27, .slice wa (wr k).length wc), (28, .int .i64 f), (29, bv want), (30, str (x.ad.txt k)), (31, .bool true), (32, .bool false)]) ?_ (by repeat (first | exact trivial | refine And.intro (by first | exact rfl | exact congrArg some (ci (by omega))) ?_))
        exact key.out
    rw [htx]
    refine sx ?_
    refine s_call rfl (filled_s (n := S) (b := want) hs.2) ?_
    rintro _ _ ⟨ad, rfl, rfl⟩
    refine ⟨chk_seq, ?_⟩
    refine s_rw (t := 262) (v' := .slice (some ad) (rp S want).length S) rfl (by simp) ?_
    refine sx ?_
    refine s_again (k + 1, q', x') ⟨by show k + 1 ≤ n; omega, rfl, x2, hT', hA'⟩ (by show n - (k + 1) < n - k; omega) (he := Ent.tl Ent.refl)
end Go.Sx
