/- The law NodeHalves, walked. -/
import Derived.Test.YtkcabddbeclokaaCVP
import Derived.Test.YtkcabddbeclokaaCVM
namespace Go.Sx
open Go Go.Proofs
set_option maxRecDepth 10000
variable {w0 : World} {H : List Ck}
theorem msF_A {ks : List Bs} {l : List MD} {k : Nat} (h : l.Pairwise (fun a b => chl ks a.lo ≤ chl ks b.lo)) : msF ks 0 k l = l.take (atN ks l k) := by
  rw [(at_filter h).1, msF]
  simp
theorem msF_B {ks : List Bs} {l : List MD} {k : Nat} (h : l.Pairwise (fun a b => chl ks a.lo ≤ chl ks b.lo)) : msF ks k (ks.length + 1) l = l.drop (atN ks l k) := by
  rw [(at_filter h).2, msF]
  congr 1
  funext m
  have := chl_le ks m.lo
  by_cases hk : k ≤ chl ks m.lo
  · rw [decide_eq_true hk, decide_eq_true (by omega), decide_eq_false (by omega)]; rfl
  · rw [decide_eq_false hk, decide_eq_true (show chl ks m.lo < k by omega)]; rfl
/-- What a split tells. -/
theorem splN_0 {size : Int} {x : ND} (h : (splN size x).2 = 0) : ∃ k : Nat, splN size x = ((k : Int), 0) ∧ 4 ≤ x.1.1.length ∧ 2 ≤ k ∧ k + 2 ≤ x.1.1.length ∧ mayN size x.1.2 x.2 = 0 ∧ chkX size (hfA x k) = 0 ∧ chkX size (hfB x k) = 0 ∧ x.1.2.length + 1 = x.1.1.length := by
  unfold splN at h ⊢
  by_cases h1 : chkK size x.1 ≠ 0 ∧ chkK size x.1 ≠ 64
  · rw [if_pos h1] at h; exact absurd h h1.1
  rw [if_neg h1] at h ⊢
  by_cases h2 : x.1.1.length < 4
  · rw [if_pos h2] at h; cases h
  rw [if_neg h2] at h ⊢
  by_cases h3 : mayN size x.1.2 x.2 ≠ 0
  · rw [if_pos h3] at h; exact absurd h h3
  rw [if_neg h3] at h ⊢
  have hb := bestF_bd x (x.1.1.length - 1)
  generalize bestF x (x.1.1.length - 1) = b at h hb ⊢
  by_cases h4 : chkX size (hfA x b) ≠ 0 ∨ chkX size (hfB x b) ≠ 0
  · rw [if_pos h4] at h; cases h
  rw [if_neg h4]
  have h5 : chkX size (hfA x b) = 0 := Classical.not_not.1 fun g => h4 (.inl g)
  have h6 : chkX size (hfB x b) = 0 := Classical.not_not.1 fun g => h4 (.inr g)
  exact ⟨b, rfl, by omega, by omega, by omega, Classical.not_not.1 h3, h5, h6, (chkK_f h1).2⟩
theorem splN_1 {size : Int} {x : ND} (h : (splN size x).2 ≠ 0) : (splN size x).1 = 0 := by
  unfold splN at h ⊢
  by_cases h1 : chkK size x.1 ≠ 0 ∧ chkK size x.1 ≠ 64
  · rw [if_pos h1]
  rw [if_neg h1] at h ⊢
  by_cases h2 : x.1.1.length < 4
  · rw [if_pos h2]
  rw [if_neg h2] at h ⊢
  by_cases h3 : mayN size x.1.2 x.2 ≠ 0
  · rw [if_pos h3]
  rw [if_neg h3] at h ⊢
  generalize bestF x (x.1.1.length - 1) = b at h ⊢
  by_cases h4 : chkX size (hfA x b) ≠ 0 ∨ chkX size (hfB x b) ≠ 0
  · rw [if_pos h4]
  · rw [if_neg h4] at h; exact absurd rfl h
theorem splN_may {size : Int} {x : ND} (h : chkX size x = 0) : (splN size x).2 = 0 ↔ 4 ≤ x.1.1.length := by
  refine ⟨fun g => (splN_0 g).choose_spec.2.1, fun g => ?_⟩
  obtain ⟨g1, g2, g3, g4⟩ := chkN_0 h
  have hb := bestF_bd x (x.1.1.length - 1)
  unfold splN
  rw [if_neg (fun g => g.1 g1), if_neg (by omega), if_neg (fun g => g g3)]
  obtain ⟨p1, p2⟩ := half_may (k := bestF x (x.1.1.length - 1)) h (by omega) (by omega)
  rw [if_neg (fun g => g.elim (fun g => g p1) (fun g => g p2))]
set_option maxHeartbeats 2000000 in
theorem nhalves_s {raw : Int} {n : Nd} (hr : I64 raw) (hn : RNd w0 H n) (hft : n.Fit) (hI : ∀ p ∈ n.k.ps, I64 p) : FnV Try.prog w0 H 7 #[.int .i64 raw, .agg n.cells.toArray] (.bool true) := by
  refine fns_enter Try.func7 rfl rfl rfl ?_
  have hps := hn.k.ps
  have hms := hn.ms.sl
  refine s_kn (Kn.sl hps) fun l1 => s_kn (Kn.sl hms) fun l3 => ?_
  simp only [maxLen] at l1 l3
  refine sx ?_
  refine s_boxA rfl fun b3 => ?_
  refine sx ?_
  refine s_callV rfl nshown_s ?_
  refine sx ?_
  refine s_callV rfl (npick_s hr (by decide)) ?_
  obtain ⟨m, hm, hm4⟩ := pkL_nat (c := raw) (n := 4) (by decide)
  rw [hm]
  have hs := size_of (m := m) (by omega)
  refine s_yS rfl rfl rfl (y_shlv (a := 512) (m := m) rfl rfl (by omega) (by have := sizedB_bd hs; omega)) ?_
  generalize ((512 * 2 ^ m : Nat) : Int) = size at hs ⊢
  have hsb := sizedB_bd hs
  refine sx ?_
  refine s_call rfl (nweight_s (n := n) (by exact rnd) hft) ?_
  rintro _ _ ⟨x, rfl, hx0, hx1, rfl⟩
  refine ⟨chk_seq, ?_⟩
  refine sx ?_
  refine s_if rfl (fun t1 => ?_) (fun t1 => ?_)
  · refine sx ?_
    exact s_ret1 rfl rfl ⟨rfl, rfl⟩
  have hsm := Nd.small_of (by omega) hx1
  have hsp := hsm.p
  have hsm' := hsm.m
  refine sx ?_
  refine s_callV rfl (ncheck_s (n := n) (size := size) (by exact rnd) hI (by omega)) ?_
  refine sx ?_
  have hsp2 := nsplit_s (n := n) (size := size) (w0 := w0) (H := .hb b3 39 n.cells :: H) (by exact rnd) hI hsm
  by_cases e0 : (splN size n.x).2 = 0
  · obtain ⟨k, e1, g1, g2, g3, g4, g5, g6, g7⟩ := splN_0 e0
    rw [e1] at hsp2
    have g1 : 4 ≤ n.k.ps.length := g1
    have g3 : k + 2 ≤ n.k.ps.length := g3
    have hf : n.k.ks.length + 1 = n.k.ps.length := by rw [← g7]; show _ = n.k.keys.length + 1; rw [List.length_map]
    have hasc := (mayG_asc g4).2
    have xA : ∀ pa ka ma pc kc mc, (hfN n 0 k pa ka ma pc kc mc).x = hfA n.x k := fun pa ka ma pc kc mc => by
      show ((List.drop 0 (n.k.ps.take k), ((n.k.ks.take (k - 1)).drop 0).map SB.xs), (n.mF 0 k n.ms).map Mg.d) = _
      rw [mF_d, msF_A hasc, List.drop_zero, List.drop_zero, List.map_take]
      rfl
    have xB : ∀ pa ka ma pc kc mc, (hfN n k n.k.ps.length pa ka ma pc kc mc).x = hfB n.x k := fun pa ka ma pc kc mc => by
      show ((List.drop k (n.k.ps.take n.k.ps.length), ((n.k.ks.take (n.k.ps.length - 1)).drop k).map SB.xs), (n.mF k n.k.ps.length n.ms).map Mg.d) = _
      rw [mF_d, List.take_length, show n.k.ps.length - 1 = n.k.ks.length by omega, List.take_length, List.map_drop]
      have := msF_B (k := k) hasc
      rw [show n.x.1.2.length + 1 = n.k.ps.length from g7] at this
      rw [show msF n.k.keys k n.k.ps.length (n.ms.map Mg.d) = _ from this]
      rfl
    refine s_callV rfl hsp2 ?_
    have h4i : (4 : Int) ≤ (n.k.ps.length : Int) := by omega
    refine sx ?_
    apply s_join
    · intro key
      have stp : StopAt 9 := trivial
      refine s_lif rfl (fun t2 => ?_) (fun t2 => ?_)
      · refine sxs ?_
        refine s_rw (t := 38) (v' := .pointer (some ((⟨b3, 0, none⟩ : Addr).add 0))) rfl rfl ?_
        refine sxs ?_
        refine s_rwC (t := 44) (v' := .bool false) rfl (by rw [decide_eq_true h4i]; rfl) ?_
        refine sxs ?_
        refine s_sub (l' := [(3, .pointer (some ⟨b3, 0, none⟩)), (6, .int .i64 size), (5, .bool true), (8, .int .i64 (k : Int)), (9, .int .i64 0)]) ?_ (by repeat (first | exact trivial | refine And.intro (by first | exact rfl | exact congrArg some (ci (by omega))) ?_))
        exact key
      · refine sxs ?_
        refine s_sub (l' := [(3, .pointer (some ⟨b3, 0, none⟩)), (6, .int .i64 size), (5, .bool true), (8, .int .i64 (k : Int)), (9, .int .i64 0)]) ?_ (by repeat (first | exact trivial | refine And.intro (by first | exact rfl | exact congrArg some (ci (by omega))) ?_))
        exact key
    refine sx ?_
    refine s_lif rfl (fun t3 => by exfalso; omega) (fun t3 => ?_)
    refine sx ?_
    refine s_rw (t := 54) (v' := .pointer (some ((⟨b3, 0, none⟩ : Addr).add 0))) rfl rfl ?_
    refine sx ?_
    refine s_if rfl (fun t4 => by exfalso; omega) (fun t4 => ?_)
    refine sx ?_
    refine s_call rfl (nhalf_s (n := n) (i := 0) (k := k) (by exact rnd) hsm (by omega) (by omega) hf) ?_
    rintro _ _ ⟨pa, ka, ma, pc, kc, mc, rfl, rfl⟩
    refine ⟨chk_seq, ?_⟩
    have rA : RNd w0 _ (hfN n 0 k pa ka ma pc kc mc) := RNd.hf (hn.tl (d := .hb b3 39 n.cells))
    have eA := xA pa ka ma pc kc mc
    generalize hfN n 0 k pa ka ma pc kc mc = qa at rA eA ⊢
    generalize hP1 : ol 3 pa pc (_ : List Int) = P1 at rA ⊢
    generalize hP2 : ol 25 ka kc (_ : List SB) = P2 at rA ⊢
    generalize hP3 : ol 78 ma mc (_ : List Mg) = P3 at rA ⊢
    refine sx ?_
    refine s_alloc fun b10 => ?_
    refine sx ?_
    refine s_rw (t := 66) (v' := .pointer (some ((⟨b3, 0, none⟩ : Addr).add 0))) rfl rfl ?_
    refine sx ?_
    have hn' : RNd w0 (.hb b10 39 qa.cells :: P1 :: P2 :: P3 :: .hb b3 39 n.cells :: H) n := by exact rnd
    refine s_call rfl (nhalf_s (n := n) (i := k) (k := n.k.ps.length) hn' hsm (by omega) (by omega) hf) ?_
    rintro _ _ ⟨pa2, ka2, ma2, pc2, kc2, mc2, rfl, rfl⟩
    refine ⟨chk_seq, ?_⟩
    have rB : RNd w0 _ (hfN n k n.k.ps.length pa2 ka2 ma2 pc2 kc2 mc2) := RNd.hf hn'
    have eB := xB pa2 ka2 ma2 pc2 kc2 mc2
    generalize hfN n k n.k.ps.length pa2 ka2 ma2 pc2 kc2 mc2 = qb at rB eB ⊢
    generalize hP4 : ol 3 pa2 pc2 (_ : List Int) = P4 at rB ⊢
    generalize hP5 : ol 25 ka2 kc2 (_ : List SB) = P5 at rB ⊢
    generalize hP6 : ol 78 ma2 mc2 (_ : List Mg) = P6 at rB ⊢
    refine sx ?_
    refine s_alloc fun b11 => ?_
    refine sx ?_
    have cA : chkN size qa.k.d qa.md = 0 := by
      have : chkX size qa.x = 0 := by rw [eA]; exact g5
      exact this
    have cB : chkN size qb.k.d qb.md = 0 := by
      have : chkX size qb.x = 0 := by rw [eB]; exact g6
      exact this
    have rA' : RNd w0 (.hb b11 39 qb.cells :: P4 :: P5 :: P6 :: .hb b10 39 qa.cells :: P1 :: P2 :: P3 :: .hb b3 39 n.cells :: H) qa := rA.tl.tl.tl.tl.tl
    have rB' : RNd w0 (.hb b11 39 qb.cells :: P4 :: P5 :: P6 :: .hb b10 39 qa.cells :: P1 :: P2 :: P3 :: .hb b3 39 n.cells :: H) qb := rB.tl
    have mA := isN_sum cA
    have mB := isN_sum cB
    have hl : qa.ms.length + qb.ms.length = n.ms.length := by
      have h1 := congrArg (fun x : ND => x.2.length) eA
      have h2 := congrArg (fun x : ND => x.2.length) eB
      simp only [hfA, hfB, List.length_take, List.length_drop, List.length_map] at h1 h2
      have := atN_le n.k.keys n.md k
      simp only [List.length_map] at this
      have h3 : atN n.x.1.2 n.x.2 k = atN n.k.keys n.md k := rfl
      omega
    refine s_callV rfl (ncheck_s (n := qa) (size := size) rA' (isN_I64 cA) (by omega)) ?_
    rw [cA]
    refine sx ?_
    refine s_callV rfl (ncheck_s (n := qb) (size := size) rB' (isN_I64 cB) (by omega)) ?_
    rw [cB]
    refine sx ?_
    refine s_ret1 rfl rfl ⟨?_, rfl⟩
    rw [decide_eq_true (by omega)]
  · have e1 := splN_1 e0
    refine s_callV rfl hsp2 ?_
    have hm' := fun (g : chkN size n.k.d n.md = 0) => (splN_may (x := n.x) g).2
    generalize splN size n.x = sp at e0 e1 hsp2 hm' ⊢
    refine sx ?_
    refine s_lif rfl (fun t2 => ?_) (fun t2 => ?_)
    · have h4 : ¬ (4 : Int) ≤ (n.k.ps.length : Int) := fun g => e0 (hm' t2 (by show 4 ≤ n.k.ps.length; omega))
      refine sx ?_
      refine s_rw (t := 38) (v' := .pointer (some ((⟨b3, 0, none⟩ : Addr).add 0))) rfl rfl ?_
      refine sx ?_
      refine s_rwC (t := 44) (v' := .bool false) rfl (by rw [decide_eq_false e0, decide_eq_false h4]; rfl) ?_
      refine sx ?_
      refine s_ifn rfl (fun t5 => ?_) (fun t5 => absurd t5 e0)
      refine sx ?_
      exact s_ret1 rfl rfl ⟨by rw [decide_eq_true e1], rfl⟩
    · refine sx ?_
      refine s_ifn rfl (fun t5 => ?_) (fun t5 => absurd t5 e0)
      refine sx ?_
      exact s_ret1 rfl rfl ⟨by rw [decide_eq_true e1], rfl⟩
end Go.Sx
