/- Part of a proof: the document's Meaning, walked. -/
import Derived.Test.YtimakbpghggdfaaGreatCMPj
import Derived.Test.YtimakbpghggdfaaGreatCZMj
import Derived.Test.YtimakbpghggdfaaGreatCOCj
namespace Go.Sx
open Go Go.Proofs
set_option maxRecDepth 10000
variable {w0 : World} {H : List Ck}
theorem touch_s {r : Rg} {a : Option Addr} {c : Nat} {xs : Bs} (hr : RRg w0 H r) (hx : RBy w0 H a c xs) : FnV Tryz.prog w0 H 126 #[.agg r.cells.toArray, .slice a xs.length c] (.bool (decide (r.hi = xs))) := by
  have hhi := hr.hi
  refine fns_enter Tryz.func126 rfl rfl rfl ?_
  refine sx ?_
  refine s_boxA rfl fun b2 => ?_
  refine sx ?_
  refine s_callV rfl (qsame_s (xs := r.hi) (ys := xs) (by exact rby) (by exact rby)) ?_
  refine sx ?_
  exact s_ret1 rfl rfl ⟨rfl, rfl⟩
structure RmI where
  i : Nat
  a : Option Addr
  c : Nat
  ps : List Pc
theorem edge_lo {ms : List MD} {ks : List SB} (hup : RiB ks) (hk : ∀ key, key ∈ ks.map SB.xs ↔ key ∈ edL ms) {s : SB} (hs : ks[0]? = some s) {key : Bs} (h : cmp key s.xs < 0) : getM ms key = none := getM_none.2 (by
  rintro ⟨m, hm, hh⟩
  by_cases he : emR (saidR m) = true
  · exact has_em he hh
  have hin : (saidR m).1 ∈ ks.map SB.xs := (hk _).2 (List.mem_flatMap.2 ⟨m, hm, by unfold edM; rw [if_neg he]; simp⟩)
  obtain ⟨a, sa, ha1, ha2, ha3⟩ := plA_ex hup hin
  have h1 := (hasB_iff.1 hh).1
  rcases Nat.eq_zero_or_pos a with e | g
  · subst e
    rw [hs] at ha1
    cases ha1
    rw [ha2] at h
    have := cmp_anti key (saidR m).1
    omega
  · have h2 := ha3.lo 0 s g hs
    have h3 := lt_tr h2 h1
    have := cmp_anti key s.xs
    omega)
theorem edge_hi {ms : List MD} {ks : List SB} (hup : RiB ks) (hk : ∀ key, key ∈ ks.map SB.xs ↔ key ∈ edL ms) {i : Nat} {s : SB} (hs : ks[i]? = some s) (hl : ks.length ≤ i + 1) {key : Bs} (h : cmp s.xs key ≤ 0) : getM ms key = none := getM_none.2 (by
  rintro ⟨m, hm, hh⟩
  by_cases he : emR (saidR m) = true
  · exact has_em he hh
  have hf : (saidR m).2.2 = false := said_fin m
  have hin : (saidR m).2.1 ∈ ks.map SB.xs := (hk _).2 (List.mem_flatMap.2 ⟨m, hm, by unfold edM; rw [if_neg he]; simp⟩)
  obtain ⟨a, sa, ha1, ha2, ha3⟩ := plA_ex hup hin
  have h1 := (hasB_iff.1 hh).2
  rw [hf] at h1
  have h1 := h1.resolve_left (by decide)
  have hai := (List.getElem?_eq_some_iff.1 ha1).1
  rcases Nat.lt_or_ge i a with g | g
  · omega
  · have h2 := ha3.hi i s g hs
    have := cmp_anti s.xs (saidR m).2.1
    have := tr_lt (show cmp s.xs key ≤ 0 from h) h1
    omega)
theorem edge_no {ms : List MD} {ks : List SB} (hk : ∀ key, key ∈ ks.map SB.xs ↔ key ∈ edL ms) (h0 : ks = []) (key : Bs) : getM ms key = none := getM_none.2 (by
  rintro ⟨m, hm, hh⟩
  by_cases he : emR (saidR m) = true
  · exact has_em he hh
  have hin : (saidR m).1 ∈ ks.map SB.xs := (hk _).2 (List.mem_flatMap.2 ⟨m, hm, by unfold edM; rw [if_neg he]; simp⟩)
  rw [h0] at hin
  cases hin)
/-- A piece's bytes are no more than so many. -/
def PcZ (K : Nat) (p : Pc) : Prop := p.key.length ≤ K ∧ p.v.length ≤ K ∧ p.g.lo.length ≤ K ∧ p.g.hi.length ≤ K
theorem snoc_all {α : Type} {P : α → Prop} {l : List α} {x : α} (h : ∀ y ∈ l, P y) (hx : P x) : ∀ y ∈ l ++ [x], P y := fun y hy => by
  rcases List.mem_append.1 hy with g | g
  · exact h y g
  · rw [List.mem_singleton.1 g]; exact hx
theorem set_all {α : Type} {P : α → Prop} {l : List α} {i : Nat} {x : α} (h : ∀ y ∈ l, P y) (hx : P x) : ∀ y ∈ l.set i x, P y := fun y hy => by
  rcases List.mem_or_eq_of_mem_set hy with g | g
  · exact h y g
  · rw [g]; exact hx
set_option maxHeartbeats 8000000 in
theorem rmeaningK_s {Kz : Nat} {a : Option Addr} {c : Nat} {ms : List Mg} (hm : RMs w0 H a c ms) (hl : ms.length ≤ 137438953472) (hkz : ∀ m ∈ ms, m.lo.length + 1 ≤ Kz ∧ m.hi.length ≤ Kz ∧ m.v.length ≤ Kz) (hKz : Kz ≤ 140737488355328) :
    FnS Tryz.prog w0 H 95 #[.slice a ms.length c] (fun v H' => ∃ a' c' ps, v = .slice a' (ps : List Pc).length c' ∧ ps.length ≤ 2 * ms.length ∧ IsMean (ms.map Mg.d) (ps.map Pc.d) ∧ (∀ p ∈ ps, PcZ Kz p) ∧ H' = ol 83 a' c' ps :: stars oP ps :: H) := by
  refine fns_enter Tryz.func95 rfl rfl rfl ?_
  have hsl := hm.sl
  have hz : ∀ m ∈ ms, m.lo.length ≤ 140737488355327 ∧ m.hi.length ≤ 140737488355328 ∧ m.v.length ≤ 140737488355328 := fun m h => by have := hkz m h; omega
  refine s_kn (Kn.sl hsl) fun ⟨l1, l2⟩ => ?_
  simp only [maxLen] at l2
  refine sx ?_
  refine s_call rfl (rcuts_s hm hl (fun m h => ⟨(hz m h).1, (hz m h).2.1⟩)) ?_
  rintro _ _ ⟨ka, kc, ks, ba, bc, bs, L, rfl, rfl, hC⟩
  refine ⟨chk_seq, ?_⟩
  obtain ⟨hup, hbl, hlim, hkey, hby, hrk, hrs, hrb⟩ := hC
  rw [List.length_map] at hlim
  -- no edge is longer than so
  have hks : ∀ s ∈ ks, s.xs.length ≤ Kz := fun s hs => by
    have h1 := (hkey s.xs).1 (List.mem_map_of_mem hs)
    obtain ⟨m, hmm, hx⟩ := List.mem_flatMap.1 h1
    obtain ⟨m', hm', rfl⟩ := List.mem_map.1 hmm
    have h3 := hkz m' hm'
    have hq := qk_said (k := Kz) (m := m'.d) (by show m'.lo.length + 1 ≤ _; omega) (by show m'.hi.length ≤ _; omega)
    unfold edM at hx
    split at hx
    · cases hx
    · simp only [List.mem_cons, List.not_mem_nil, or_false] at hx
      rcases hx with e | e
      · rw [e]; exact hq.1
      · rw [e]; exact hq.2
  refine sx ?_
  refine s_loop (fun q : RmI => [(0, .slice a ms.length c), (3, .slice ka ks.length kc), (4, .slice ba bs.length bc), (5, .slice q.a q.ps.length q.c), (6, .int .i64 q.i)]) (fun q => ol 83 q.a q.c q.ps :: stars oP q.ps :: .star L :: H) (fun q => q.ps.length ≤ q.i ∧ (q.i < ks.length ∨ q.i = 0 ∧ q.ps = []) ∧ (∀ s, ks[q.i]? = some s → MnK (ms.map Mg.d) (q.ps.map Pc.d) s.xs) ∧ ∀ p ∈ q.ps, PcZ Kz p) (fun q => ks.length - q.i) ⟨0, none, 0, []⟩ ⟨Nat.le_refl _, .inr ⟨rfl, rfl⟩, fun s hs => MnK.nil fun key hk => edge_lo hup hkey hs hk, fun p hp => by cases hp⟩ ?_ (he := Ent.nilS.trans (Ent.head stars_nil))
  rintro ⟨i, oa, oc, ps⟩ ⟨g1, g2, g3, g4⟩
  simp only at g1 g2 g3 g4 ⊢
  refine sx ?_
  refine s_if rfl (fun t1 => ?_) (fun t1 => ?_)
  · have t1 : (i : Int) + 1 < (ks.length : Int) := t1
    obtain ⟨s, hs⟩ := get_lt ks i (by omega)
    obtain ⟨t, ht⟩ := get_lt ks (i + 1) (by omega)
    obtain ⟨b, hb, hbI⟩ := hby i s hs
    have hK := g3 s hs
    have hst : cmp s.xs t.xs < 0 := hup.lt (Nat.lt_succ_self i) hs ht
    have hcs : ∀ key, cmp s.xs key ≤ 0 → cmp key t.xs < 0 → getM (ms.map Mg.d) key = getM (ms.map Mg.d) s.xs := fun key h1 h2 => getM_congr fun m hmm => cut_same hup hkey hs ht h1 h2 hmm
    have hss := hrs s (List.mem_of_getElem? hs)
    have htt := hrs t (List.mem_of_getElem? ht)
    have zs0 := hks s (List.mem_of_getElem? hs)
    have zt0 := hks t (List.mem_of_getElem? ht)
    have zs : s.xs.length ≤ 140737488355328 := Nat.le_trans zs0 hKz
    have zt : t.xs.length ≤ 140737488355328 := Nat.le_trans zt0 hKz
    have hrb' : RSl w0 (ol 83 oa oc ps :: stars oP ps :: .star L :: H) ba bc bs := hrb.tl.tl
    rcases hbI.get with ⟨rfl, hgn⟩ | ⟨j, m', rfl, hmj, hhas, hgj⟩
    · refine sx ?_
      refine s_again ⟨i + 1, oa, oc, ps⟩ ⟨by simp only; omega, .inl (by simp only; omega), fun s2 hs2 => ?_, g4⟩ (by simp only; omega)
      simp only at hs2 ⊢
      rw [ht] at hs2
      cases hs2
      exact hK.mono hst fun key h1 h2 => by rw [hcs key h1 h2]; exact hgn
    obtain ⟨m, hmi, rfl⟩ : ∃ m, ms[j]? = some m ∧ m.d = m' := by
      rw [List.getElem?_map] at hmj
      cases h : ms[j]? with
      | none => rw [h] at hmj; cases hmj
      | some m => rw [h] at hmj; exact ⟨m, rfl, Option.some.inj hmj⟩
    have hmr := hm.el m (List.mem_of_getElem? hmi)
    obtain ⟨z1, z2, z3⟩ := hz m (List.mem_of_getElem? hmi)
    have hjl := (List.getElem?_eq_some_iff.1 hmi).1
    have hmv := hmr.v
    refine sx ?_
    refine s_if rfl (fun t2 => ?_) (fun t2 => ?_)
    · have hlo : s.xs = m.lo := by
        rw [show saidR m.d = (m.lo, m.lo ++ [0], false) by unfold saidR; rw [if_pos (.inl t2)], has_one] at hhas
        exact hhas
      have hone : ∀ key, cmp s.xs key ≤ 0 → cmp key t.xs < 0 → key = s.xs := fun key h1 h2 => by
        have h3 := (cut_same hup hkey hs ht h1 h2 (List.mem_of_getElem? hmj)).2 hhas
        rw [show saidR m.d = (m.lo, m.lo ++ [0], false) by unfold saidR; rw [if_pos (.inl t2)], has_one] at h3
        rw [h3, hlo]
      rw [if_pos t2] at hgj
      refine sx ?_; refine s_drH (.star L :: H) (.one true 0 (.one true 1 (.one true 2 (.one true 3 (.one true 4 (.one true 6 (.one true 7 (.one true 8 (.one true 9 (.one true 10 (.one true 11 (.one true 12 (.one true 13 (.one false 5 (.one false 14 (.one true 15 (.one false 16 (.one false 17 (.one true 18 .nil))))))))))))))))))) mixed (by kernel_rfl) ?_; refine sx ?_
      refine s_rw (t := 59) (v' := .slice s.a s.xs.length s.c) rfl rfl ?_
      refine s_call rfl (qcopy_s (xs := s.xs) (by exact rby) zs) ?_
      rintro _ _ ⟨k1, rfl, rfl⟩
      refine ⟨chk_held (by exact ent), ?_⟩
      refine sx ?_
      refine s_call rfl (qcopy_s (xs := m.v) (by exact rby) z3) ?_
      rintro _ _ ⟨v1, rfl, rfl⟩
      refine ⟨chk_held (by exact ent), ?_⟩
      refine sx ?_
      refine s_bsl [(⟨true, k1, s.xs.length, s.xs, v1, m.v.length, m.v, rg0⟩ : Pc)] rfl rfl fun b71 => ?_
      refine s_app (xs := ps) (ys := [(⟨true, k1, s.xs.length, s.xs, v1, m.v.length, m.v, rg0⟩ : Pc)]) ?_ (hby := by simp only [List.length_cons, List.length_nil]; omega)
      intro a4 c4
      refine sx ?_
      refine s_again ⟨i + 1, a4, c4, ps ++ [⟨true, k1, s.xs.length, s.xs, v1, m.v.length, m.v, rg0⟩]⟩ ⟨by simp only [List.length_append, List.length_cons, List.length_nil]; omega, .inl (by simp only; omega), fun s2 hs2 => ?_, snoc_all g4 ⟨zs0, (hkz m (List.mem_of_getElem? hmi)).2.2, Nat.zero_le _, Nat.zero_le _⟩⟩ (by simp only; omega) (he := ?_)
      · simp only at hs2 ⊢
        rw [ht] at hs2
        cases hs2
        rw [List.map_append]
        exact hK.put hst hgj hone
      · refine Ent.cons (by exact rm) ?_
        refine Ent.trans (H' := oP ⟨true, k1, s.xs.length, s.xs, v1, m.v.length, m.v, rg0⟩ ++ stars oP ps :: .star L :: H) ?_ stars_snoc
        refine Ent.cons (by exact rm) (Ent.cons (by exact rm) ?_)
        exact Ent.nilS.trans (Ent.head (Ent.nilS.trans (Ent.head (by exact ent))))
    · rw [if_neg t2] at hgj
      have hgn : ∀ key, cmp s.xs key ≤ 0 → cmp key t.xs < 0 → getM (ms.map Mg.d) key = some none := fun key h1 h2 => by rw [hcs key h1 h2]; exact hgj
      have hsp : RBy w0 (ol 83 oa oc ps :: stars oP ps :: .star L :: H) s.a s.c s.xs := hss.tl.tl
      have htp : RBy w0 (ol 83 oa oc ps :: stars oP ps :: .star L :: H) t.a t.c t.xs := htt.tl.tl
      by_cases hT : ∃ p, ps[ps.length - 1]? = some p ∧ 0 < ps.length ∧ p.put = false ∧ p.g.hi = s.xs
      · obtain ⟨p, hp, h0, hput, hhi⟩ := hT
        have hgl := hK.wf.1 p.d (List.mem_map_of_mem (List.mem_of_getElem? hp))
        refine sx ?_
        refine s_rwC (t := 7) (v' := .int .i64 ((ps.length - 1 : Nat) : Int)) rfl (ci (by omega)) ?_
        refine s_dr (.one true 0 (.one true 1 (.one true 2 (.one true 3 (.one true 4 (.one true 5 (.one true 6 (.one true 7 (.one true 8 (.one true 9 (.one true 10 (.one true 11 (.one true 12 (.one true 13 (.one true 14 (.one true 15 (.one true 16 (.one true 17 (.one true 18 (.one true 19 (.one false 20 (.one true 21 (.one true 22 .nil))))))))))))))))))))))) mixed (by kernel_rfl) ?_
        refine sx ?_
        refine s_gT rfl (by simp [hput]) ?_
        refine sx ?_
        refine s_yH rfl rfl rfl (y_ldG rfl RSl.hd hp) ?_
        refine sx ?_
        have hrp : RRg w0 (ol 83 oa oc ps :: stars oP ps :: .star L :: H) p.g := (RPc.st (List.mem_of_getElem? hp)).g.tl
        refine s_callV rfl (touch_s hrp hsp) ?_
        refine sx ?_
        refine s_rwC (t := 73) (v' := .bool true) rfl (congrArg Value.bool (decide_eq_true hhi)) ?_
        refine sx ?_
        refine s_rw (t := 102) (v' := .slice t.a t.xs.length t.c) rfl rfl ?_
        refine s_call rfl (qcopy_s (xs := t.xs) (by exact rby) zt) ?_
        rintro _ _ ⟨k1, rfl, rfl⟩
        refine ⟨chk_seq, ?_⟩
        refine s_knL (RSl.some (RSl.tl RSl.hd : RSl w0 (ob k1 t.xs.length t.xs :: ol 83 oa oc ps :: stars oP ps :: .star L :: H) oa oc ps) h0) fun ⟨ad, hoa⟩ => ?_
        subst hoa
        refine sx ?_
        refine s_rw (t := 106) (v' := .pointer (some ((ad.add ((ps.length - 1) * 6)).add 4))) rfl (by rw [add_add]; rfl) ?_
        obtain ⟨p', hp'⟩ : ∃ p' : Pc, p' = ⟨p.put, p.ka, p.kc, p.key, p.va, p.vc, p.v, ⟨p.g.la, p.g.lc, p.g.lo, k1, t.xs.length, t.xs, p.g.all⟩⟩ := ⟨_, rfl⟩
        refine s_setF (y := p') (o := 4) rfl rfl (by exact at_) hp (by rw [hp']; rfl) (by decide) rfl ?_
        refine sx ?_
        have hlt : ps.length - 1 < ps.length := by omega
        refine s_again ⟨i + 1, some ad, oc, ps.set (ps.length - 1) p'⟩ ⟨by simp only [List.length_set]; omega, .inl (by simp only; omega), fun s2 hs2 => ?_, set_all g4 (by rw [hp']; exact ⟨(g4 p (List.mem_of_getElem? hp)).1, (g4 p (List.mem_of_getElem? hp)).2.1, (g4 p (List.mem_of_getElem? hp)).2.2.1, zt0⟩)⟩ (by simp only; omega) (hs := by simp only [List.length_set]; repeat (first | exact trivial | refine And.intro (by first | exact rfl | exact congrArg some (ci (by omega))) ?_)) (he := ?_)
        · simp only at hs2 ⊢
          rw [ht] at hs2
          cases hs2
          have hsp : ps = ps.take (ps.length - 1) ++ [p] := by
            conv => lhs; rw [← List.take_append_drop (ps.length - 1) ps, dropG hp]
            rw [List.drop_of_length_le (by omega)]
          have hset : ps.set (ps.length - 1) p' = ps.take (ps.length - 1) ++ [p'] := by
            rw [List.set_eq_take_append_cons_drop, if_pos hlt, List.drop_of_length_le (by omega)]
          obtain ⟨q1, q2, q3, q4⟩ : p.key = [] ∧ p.v = [] ∧ Nef p.g.d ∧ p.g.all = false := by
            unfold okP at hgl
            rw [if_neg (by show ¬ p.put = true; rw [hput]; decide)] at hgl
            exact hgl
          have hpd : p.d = ⟨false, [], [], (p.g.lo, s.xs, false)⟩ := by
            show (⟨p.put, p.key, p.v, (p.g.lo, p.g.hi, p.g.all)⟩ : PD) = _
            rw [hput, q1, q2, q4, hhi]
          have hpd' : p'.d = ⟨false, [], [], (p.g.lo, t.xs, false)⟩ := by
            rw [hp']
            show (⟨p.put, p.key, p.v, (p.g.lo, t.xs, p.g.all)⟩ : PD) = _
            rw [hput, q1, q2, q4]
          rw [hset, List.map_append, List.map_cons, List.map_nil, hpd']
          rw [hsp, List.map_append, List.map_cons, List.map_nil, hpd] at hK
          exact hK.ext hst hgn
        · refine Ent.cons (by exact rm) ?_
          refine Ent.trans (H' := oP p' ++ stars oP (ps.eraseIdx (ps.length - 1)) :: .star L :: H) ?_ (stars_put hlt)
          refine Ent.trans (H' := stars oP ps :: ob k1 t.xs.length t.xs :: .star L :: H) (by exact ent) ?_
          refine (stars_get hp).trans ?_
          rw [hp']
          show Ent (ob p.ka p.kc p.key :: ob p.va p.vc p.v :: ob p.g.la p.g.lc p.g.lo :: ob p.g.ha p.g.hc p.g.hi :: stars oP (ps.eraseIdx (ps.length - 1)) :: ob k1 t.xs.length t.xs :: .star L :: H) (ob p.ka p.kc p.key :: ob p.va p.vc p.v :: ob p.g.la p.g.lc p.g.lo :: ob k1 t.xs.length t.xs :: stars oP (ps.eraseIdx (ps.length - 1)) :: .star L :: H)
          exact ent
      have hfar : ∀ q ∈ ps.map Pc.d, q.put = false → cmp (endP q) s.xs < 0 := by
        rcases List.eq_nil_or_concat ps with hps | ⟨qs, p, hps⟩
        · rw [hps]; intro q hq; cases hq
        · rw [hps, List.concat_eq_append, List.map_append] at hK ⊢
          refine hK.far fun hg => ?_
          have hg : p.put = false := hg
          have h1 := hK.end_ p.d (by simp)
          have e : endP p.d = p.g.hi := by unfold endP; rw [if_neg (by show ¬ p.put = true; rw [hg]; decide)]
          rw [e] at h1 ⊢
          rcases Int.lt_or_eq_of_le h1 with g | g
          · exact g
          · exact absurd ⟨p, by rw [hps, List.concat_eq_append]; simp, by rw [hps]; simp, hg, (cmp_eq _ _).1 g⟩ hT
      have stp : StopAt 7 := trivial
      refine sx ?_
      apply s_joinU
      · intro kk
        rcases Nat.eq_zero_or_pos ps.length with h0 | h0
        · refine s_dr (.one true 0 (.one true 1 (.one true 2 (.one true 3 (.one true 4 (.one true 5 (.one true 6 (.one true 7 (.one true 8 (.one true 9 (.one true 10 (.one true 11 (.one true 12 (.one true 13 (.one true 14 (.one true 15 (.one true 16 (.one true 17 (.one true 18 (.one true 19 (.one false 20 (.one true 21 (.one true 22 .nil))))))))))))))))))))))) mixed (by kernel_rfl) ?_
          refine sxs ?_
          refine s_gF rfl (by rw [decide_eq_false]; omega) ?_
          refine sxs ?_
          refine s_sub (l' := [(0, .slice a ms.length c), (3, .slice ka ks.length kc), (4, .slice ba bs.length bc), (5, .slice oa ps.length oc), (6, .int .i64 i)]) ?_ (by repeat (first | exact trivial | refine And.intro (by first | exact rfl | exact congrArg some (ci (by omega))) ?_))
          exact kk.out
        · obtain ⟨p, hp⟩ := get_lt ps (ps.length - 1) (by omega)
          refine s_rwC (t := 7) (v' := .int .i64 ((ps.length - 1 : Nat) : Int)) rfl (ci (by omega)) ?_
          refine s_dr (.one true 0 (.one true 1 (.one true 2 (.one true 3 (.one true 4 (.one true 5 (.one true 6 (.one true 7 (.one true 8 (.one true 9 (.one true 10 (.one true 11 (.one true 12 (.one true 13 (.one true 14 (.one true 15 (.one true 16 (.one true 17 (.one true 18 (.one true 19 (.one false 20 (.one true 21 (.one true 22 .nil))))))))))))))))))))))) mixed (by kernel_rfl) ?_
          refine sxs ?_
          by_cases hput : p.put = true
          · refine s_gF rfl (by simp [hput]) ?_
            refine sxs ?_
            refine s_sub (l' := [(0, .slice a ms.length c), (3, .slice ka ks.length kc), (4, .slice ba bs.length bc), (5, .slice oa ps.length oc), (6, .int .i64 i)]) ?_ (by repeat (first | exact trivial | refine And.intro (by first | exact rfl | exact congrArg some (ci (by omega))) ?_))
            exact kk.out
          · refine s_gT rfl (by simp [hput]) ?_
            refine sxs ?_
            refine s_yH rfl rfl rfl (y_ldG rfl RSl.hd hp) ?_
            refine sxs ?_
            have hrp : RRg w0 (ol 83 oa oc ps :: stars oP ps :: .star L :: H) p.g := (RPc.st (List.mem_of_getElem? hp)).g.tl
            refine s_callV rfl (touch_s hrp hsp) ?_
            refine sxs ?_
            refine s_rwC (t := 73) (v' := .bool false) rfl (congrArg Value.bool (decide_eq_false fun g => hT ⟨p, hp, h0, by simpa using hput, g⟩)) ?_
            refine sxs ?_
            refine s_sub (l' := [(0, .slice a ms.length c), (3, .slice ka ks.length kc), (4, .slice ba bs.length bc), (5, .slice oa ps.length oc), (6, .int .i64 i)]) ?_ (by repeat (first | exact trivial | refine And.intro (by first | exact rfl | exact congrArg some (ci (by omega))) ?_))
            exact kk.out
      clear stp
      refine sx ?_; refine s_drH (.star L :: H) (.one true 0 (.one true 1 (.one true 2 (.one true 3 (.one true 4 (.one true 6 (.one true 7 (.one true 8 (.one true 9 (.one true 10 (.one false 5 (.one false 11 (.one true 12 (.one true 13 (.one false 14 (.one false 15 (.one true 16 .nil))))))))))))))))) mixed (by kernel_rfl) ?_; refine sx ?_
      refine s_rw (t := 27) (v' := .slice s.a s.xs.length s.c) rfl rfl ?_
      refine s_rw (t := 33) (v' := .slice t.a t.xs.length t.c) rfl rfl ?_
      refine s_call rfl (qcopy_s (xs := s.xs) (by exact rby) zs) ?_
      rintro _ _ ⟨k1, rfl, rfl⟩
      refine ⟨chk_held (by exact ent), ?_⟩
      refine sx ?_
      refine s_call rfl (qcopy_s (xs := t.xs) (by exact rby) zt) ?_
      rintro _ _ ⟨k2, rfl, rfl⟩
      refine ⟨chk_held (by exact ent), ?_⟩
      refine sx ?_
      refine s_bsl [(⟨false, none, 0, [], none, 0, [], ⟨k1, s.xs.length, s.xs, k2, t.xs.length, t.xs, false⟩⟩ : Pc)] rfl rfl fun b71 => ?_
      refine s_app (xs := ps) (ys := [(⟨false, none, 0, [], none, 0, [], ⟨k1, s.xs.length, s.xs, k2, t.xs.length, t.xs, false⟩⟩ : Pc)]) ?_ (hby := by simp only [List.length_cons, List.length_nil]; omega)
      intro a4 c4
      refine sx ?_
      refine s_again ⟨i + 1, a4, c4, ps ++ [⟨false, none, 0, [], none, 0, [], ⟨k1, s.xs.length, s.xs, k2, t.xs.length, t.xs, false⟩⟩]⟩ ⟨by simp only [List.length_append, List.length_cons, List.length_nil]; omega, .inl (by simp only; omega), fun s2 hs2 => ?_, snoc_all g4 ⟨Nat.zero_le _, Nat.zero_le _, zs0, zt0⟩⟩ (by simp only; omega) (he := ?_)
      · simp only at hs2 ⊢
        rw [ht] at hs2
        cases hs2
        rw [List.map_append]
        exact hK.gone hst hfar hgn
      · refine Ent.cons (by exact rm) ?_
        refine Ent.trans (H' := oP ⟨false, none, 0, [], none, 0, [], ⟨k1, s.xs.length, s.xs, k2, t.xs.length, t.xs, false⟩⟩ ++ stars oP ps :: .star L :: H) ?_ stars_snoc
        refine Ent.nilS.trans (Ent.head (Ent.nilS.trans (Ent.head ?_)))
        exact Ent.cons (by exact rm) (Ent.cons (by exact rm) (by exact ent))
  · have t1 : ¬ (i : Int) + 1 < (ks.length : Int) := t1
    refine sx ?_
    refine s_ret1 rfl rfl ⟨oa, oc, ps, rfl, by omega, ?_, g4, rfl⟩
    rcases g2 with g2 | ⟨g2, g2'⟩
    · obtain ⟨s, hs⟩ := get_lt ks i g2
      exact (g3 s hs).fin fun key hk => edge_hi hup hkey hs (by omega) hk
    · subst g2
      rcases List.eq_nil_or_concat ks with h | ⟨qs, q, h⟩
      · rw [g2']
        exact ⟨⟨fun p hp => (by cases hp), List.Pairwise.nil⟩, fun key o => by
          rw [edge_no hkey h key]
          exact ⟨fun ⟨p, hp, _⟩ => (by cases hp), fun e => (by cases e)⟩⟩
      · obtain ⟨s, hs⟩ := get_lt ks 0 (by rw [h]; simp)
        exact (g3 s hs).fin fun key hk => edge_hi hup hkey hs (by omega) hk
theorem rmeaning_s {a : Option Addr} {c : Nat} {ms : List Mg} (hm : RMs w0 H a c ms) (hl : ms.length ≤ 137438953472) (hz : ∀ m ∈ ms, m.lo.length ≤ 140737488355327 ∧ m.hi.length ≤ 140737488355328 ∧ m.v.length ≤ 140737488355328) :
    FnS Tryz.prog w0 H 95 #[.slice a ms.length c] (fun v H' => ∃ a' c' ps, v = .slice a' (ps : List Pc).length c' ∧ ps.length ≤ 2 * ms.length ∧ IsMean (ms.map Mg.d) (ps.map Pc.d) ∧ H' = ol 83 a' c' ps :: stars oP ps :: H) :=
  (rmeaningK_s (Kz := 140737488355328) hm hl (fun m h => by have := hz m h; omega) (Nat.le_refl _)).mono fun _ _ ⟨a', c', ps, h1, h2, h3, _, h5⟩ => ⟨a', c', ps, h1, h2, h3, h5⟩
end Go.Sx

