/- Part of a proof: Meaning, walked (printed by genGH.py). -/
import Derived.Test.YtimakbpghggdfaaGreatCGGj
import Derived.Test.YtimakbpghggdfaaGreatCGI
import Derived.Test.YtimakbpghggdfaaGreatCGDj
namespace Go.Sx
open Go Go.Proofs
set_option maxRecDepth 10000
variable {w0 : World} {H : List Ck}
/-- A piece's bytes, of one's own. -/
@[reducible] def oP (p : Pc) : List Ck := [ob p.ka p.kc p.key, ob p.va p.vc p.v, ob p.g.la p.g.lc p.g.lo, ob p.g.ha p.g.hc p.g.hi]
/-- A range that is gone, as a piece. -/
abbrev gP (r : Rg) : Pc := ⟨false, none, 0, [], none, 0, [], r⟩
structure MeI where
  k : Nat
  oa : Option Addr
  oc : Nat
  os : List Rg
  ga : Option Addr
  gc : Nat
  gs : List Rg
  GL : List Ck
  pa : Option Addr
  pc : Nat
  ps : List Pc
set_option maxHeartbeats 4000000 in
theorem mmeaning_s {a : Option Addr} {c : Nat} {ms : List Mg} (hx : RMs w0 H a c ms) (hl : ms.length ≤ 137438953472) (hz : ∀ m ∈ ms, m.lo.length ≤ 140737488355327 ∧ m.hi.length ≤ 140737488355328 ∧ m.v.length ≤ 140737488355328) :
    FnS Tryz.prog w0 H 16 #[.slice a ms.length c] (fun v H' => ∃ a' c' ps, v = .slice a' (ps : List Pc).length c' ∧ IsMean (ms.map Mg.d) (ps.map Pc.d) ∧ H' = ol 83 a' c' ps :: stars oP ps :: H) := by
  refine fns_enter Tryz.func16 rfl rfl rfl ?_
  have hsl := hx.sl
  refine s_kn (Kn.sl hsl) fun l1 => ?_
  simp only [maxLen] at l1
  refine sx ?_
  refine s_loop (fun q : MeI => [(0, .slice a ms.length c), (3, .slice q.oa q.os.length q.oc), (4, .slice q.ga q.gs.length q.gc), (5, .slice q.pa q.ps.length q.pc), (6, .int .i64 ((q.k : Int) - 1))])
    (fun q => ol 53 q.oa q.oc q.os :: stars oRs q.os :: ol 53 q.ga q.gc q.gs :: .star q.GL :: ol 83 q.pa q.pc q.ps :: stars oP q.ps :: H)
    (fun q => q.k ≤ ms.length ∧ q.os.length ≤ ms.length - q.k ∧ q.ps.length ≤ ms.length - q.k ∧ MnSt ((ms.drop q.k).map Mg.d) (q.os.map Rg.d) (q.gs.map Rg.d) (q.ps.map Pc.d) ∧ GnL ((ms.drop q.k).map Mg.d) (q.os.map Rg.d) (q.gs.map Rg.d) ∧ (∀ o ∈ q.os, QK 140737488355328 o.d) ∧ (∀ g ∈ q.gs, QK 140737488355328 g.d) ∧ ∀ g ∈ q.gs, RRg w0 (.star q.GL :: H) g) (fun q => q.k)
    ⟨ms.length, none, 0, [], none, 0, [], [], none, 0, []⟩ ⟨Nat.le_refl _, Nat.zero_le _, Nat.zero_le _, by rw [List.drop_length]; exact MnSt.nil, by rw [List.drop_length]; exact GnL.nil, fun o h => (by cases h), fun o h => (by cases h), fun o h => (by cases h)⟩ ?_ (he := ?_)
  · rintro ⟨k, oa, oc, os, ga, gc, gs, GL, pa, pc, ps⟩ ⟨hk, hol, hpl, hmn, hgn, hqk, hqg, hrg⟩
    simp only at hk hol hpl hmn hgn hqk hqg hrg ⊢
    have hgl := hgn.len
    simp only [List.length_map, List.length_drop] at hgl
    refine sx ?_
    refine s_if rfl (fun t1 => ?_) (fun t1 => ?_)
    · have t1 : 0 ≤ (k : Int) - 1 := t1
      obtain ⟨j, rfl⟩ : ∃ j, k = j + 1 := ⟨k - 1, by omega⟩
      obtain ⟨m, hm⟩ := get_lt ms j (by omega)
      have hmm := List.mem_of_getElem? hm
      have hrm := hx.el m hmm
      obtain ⟨z1, z2, z3⟩ := hz m hmm
      have hdr : (ms.drop j).map Mg.d = m.d :: (ms.drop (j + 1)).map Mg.d := by rw [dropG hm, List.map_cons]
      have hms2 : RSl w0 (ol 53 oa oc os :: stars oRs os :: ol 53 ga gc gs :: .star GL :: ol 83 pa pc ps :: stars oP ps :: H) a c ms := hsl.tl.tl.tl.tl.tl.tl
      have hrm2 : RMg w0 (ol 53 oa oc os :: stars oRs os :: ol 53 ga gc gs :: .star GL :: ol 83 pa pc ps :: stars oP ps :: H) m := hrm.tl.tl.tl.tl.tl.tl
      refine s_rwC (t := 6) (v' := .int .i64 (j : Int)) rfl (ci (by omega)) ?_
      refine sx ?_
      refine s_call rfl (msaidG_s (m := m) hrm2 z1) ?_
      rintro _ _ ⟨r, a', c', ys, rfl, hrd, rfl, hrG⟩
      have hrr := hrG _ hrm2
      refine ⟨chk_seq, ?_⟩
      have hqr : QK 140737488355328 r.d := by rw [hrd]; exact qk_said (m := m.d) (by show m.lo.length + 1 ≤ _; omega) z2
      have rr : RRg w0 (ob a' c' ys :: H) r := hrG H hrm
      have hqa : ∀ q ∈ os ++ [r], QK 140737488355328 q.d := fun q hq => by
        rcases List.mem_append.1 hq with hq | hq
        · exact hqk q hq
        · rw [List.mem_singleton.1 hq]; exact hqr
      refine sx ?_
      refine s_alloc fun b7 => ?_
      refine sx ?_
      refine s_call rfl (without_s (r := r) (os := os) hrr.tl RSl.hd.tl.tl (fun o ho => (RRg.st ho).tl.tl.tl) (by omega) hqr (fun o ho => hqk o ho)) ?_
      rintro _ _ ⟨wa, wc, ws, L, rfl, rfl, hps, hwl, hwG, hwr⟩
      refine ⟨chk_seq, ?_⟩
      refine sx ?_
      rw [hrd] at hps
      refine s_if rfl (fun t2 => ?_) (fun t2 => ?_)
      · have t2 : (ws.length : Int) = 0 := t2
        have e0 : woR (saidR m.d) (os.map Rg.d) = [] := by
          rw [← hps, List.length_eq_zero_iff.1 (by omega : ws.length = 0)]; rfl
        refine sx ?_
        refine s_again ⟨j, oa, oc, os, ga, gc, gs, GL, pa, pc, ps⟩ ⟨by simp only; omega, by simp only; omega, by simp only; omega, ?_, ?_, hqk, hqg, hrg⟩ (by simp only; omega) (he := by exact entq)
        · rw [hdr]; exact hmn.skip e0
        · rw [hdr]; exact hgn.skip
      · have t2 : ¬ (ws.length : Int) = 0 := t2
        have e0 : woR (saidR m.d) (os.map Rg.d) ≠ [] := fun g => by
          rw [← hps] at g
          have := congrArg List.length g
          rw [List.length_map] at this
          exact t2 (by rw [this]; rfl)
        have hms3 : RSl w0 (.star L :: .hb b7 53 r.cells :: ob a' c' ys :: ol 53 oa oc os :: stars oRs os :: ol 53 ga gc gs :: .star GL :: ol 83 pa pc ps :: stars oP ps :: H) a c ms := hms2.tl.tl.tl
        refine sx ?_
        refine s_callV rfl (mmeant_s (m := m)) ?_
        by_cases hk1 : m.kd = 1
        · rw [show mntV m = .iface 91 (.agg #[.slice m.la m.lo.length m.lc, .slice m.va m.v.length m.vc]) by unfold mntV; rw [if_pos hk1]]
          refine s_yS rfl rfl rfl (y_taT rfl) ?_
          refine sx ?_
          refine s_alloc fun b9 => ?_
          have hbl : RBy w0 H m.la m.lc m.lo := hrm.lo
          have hbv : RBy w0 H m.va m.vc m.v := hrm.v
          refine sx ?_; refine s_drH ([.hb b9 91 [.slice m.la m.lo.length m.lc, .slice m.va m.v.length m.vc]]) (.one true 0 (.one true 1 (.one true 2 (.one true 4 (.one true 5 (.one false 3 (.one false 6 (.one true 7 (.one false 8 (.one false 9 (.one true 10 .nil))))))))))) mixed (by kernel_rfl) ?_; refine sx ?_
          refine s_call rfl (mcopied_s (xs := m.lo) (by exact rby) (by omega)) ?_
          rintro _ _ ⟨x1, rfl, rfl⟩
          refine ⟨chk_held (by exact ent), ?_⟩
          refine sx ?_
          refine s_call rfl (mcopied_s (xs := m.v) (by exact rby) (by omega)) ?_
          rintro _ _ ⟨x2, rfl, rfl⟩
          refine ⟨chk_held (by exact ent), ?_⟩
          refine sx ?_
          refine s_bsl [(⟨true, x1, m.lo.length, m.lo, x2, m.v.length, m.v, rg0⟩ : Pc)] rfl rfl fun b50 => ?_
          refine sx ?_
          refine s_app (xs := ps) (ys := [(⟨true, x1, m.lo.length, m.lo, x2, m.v.length, m.v, rg0⟩ : Pc)]) ?_ (hby := by simp only [List.length_cons, List.length_nil]; omega)
          intro pa2 pc2
          refine sx ?_
          refine s_bsl [r] rfl rfl fun b57 => ?_
          refine sx ?_
          refine s_app (xs := os) (ys := [r]) ?_ (hby := by simp only [List.length_cons, List.length_nil]; omega)
          intro oa2 oc2
          refine sx ?_
          refine s_entL (ol 53 oa2 oc2 (os ++ [r]) :: stars oRs os :: ob a' c' ys :: ol 53 ga gc gs :: .star GL :: ol 83 pa2 pc2 (ps ++ [(⟨true, x1, m.lo.length, m.lo, x2, m.v.length, m.v, rg0⟩ : Pc)]) :: stars oP (ps ++ [(⟨true, x1, m.lo.length, m.lo, x2, m.v.length, m.v, rg0⟩ : Pc)]) :: H) ?_ ?_
          · refine Ent.trans (H' := ob x1 m.lo.length m.lo :: ob x2 m.v.length m.v :: stars oP ps :: ol 53 oa2 oc2 (os ++ [r]) :: stars oRs os :: ob a' c' ys :: ol 53 ga gc gs :: .star GL :: ol 83 pa2 pc2 (ps ++ [(⟨true, x1, m.lo.length, m.lo, x2, m.v.length, m.v, rg0⟩ : Pc)]) :: H) (by exact entq) ?_
            refine Ent.trans (H' := ob x1 m.lo.length m.lo :: ob x2 m.v.length m.v :: ob none 0 [] :: ob none 0 [] :: stars oP ps :: ol 53 oa2 oc2 (os ++ [r]) :: stars oRs os :: ob a' c' ys :: ol 53 ga gc gs :: .star GL :: ol 83 pa2 pc2 (ps ++ [(⟨true, x1, m.lo.length, m.lo, x2, m.v.length, m.v, rg0⟩ : Pc)]) :: H) (Ent.head (Ent.head (Ent.trans Ent.nilS Ent.nilS))) ?_
            exact Ent.trans (stars_snoc (f := oP) (s := ⟨true, x1, m.lo.length, m.lo, x2, m.v.length, m.v, rg0⟩)) (by exact entq)
          refine s_call rfl (pcoverO_s (rs := os ++ [r]) RSl.hd (by simp only [List.length_append, List.length_cons, List.length_nil]; omega) (fun q hq => ?_) hqa) ?_
          · rcases List.mem_append.1 hq with hq | hq
            · exact (RRg.st hq).tl
            · rw [List.mem_singleton.1 hq]
              exact ⟨rr.lo.ent (by exact ent), rr.hi.ent (by exact ent)⟩
          rintro _ _ ⟨na, nc, ns, rfl, rfl, hnl, hcv, hnk⟩
          refine ⟨chk_seq, ?_⟩
          refine sx ?_
          rw [List.map_append, List.map_cons, List.map_nil, hrd] at hcv
          simp only [List.length_append, List.length_cons, List.length_nil] at hnl
          refine s_again ⟨j, na, nc, ns, ga, gc, gs, GL, pa2, pc2, ps ++ [⟨true, x1, m.lo.length, m.lo, x2, m.v.length, m.v, rg0⟩]⟩ ⟨by simp only; omega, by simp only; omega, by simp only [List.length_append, List.length_cons, List.length_nil]; omega, ?_, ?_, hnk _ hqa, hqg, hrg⟩ (by simp only; omega) (he := by exact entq)
          · rw [hdr, List.map_append]; exact hmn.put e0 hk1 hcv
          · rw [hdr]; exact hgn.put hcv
        · refine s_yS rfl rfl rfl (y_taP hk1 rfl) ?_
          refine sx ?_
          refine s_alloc fun b9 => ?_
          refine sx ?_
          have hw2 : RSl w0 (.hb b9 91 [.slice none 0 0, .slice none 0 0] :: .star L :: .hb b7 53 r.cells :: ob a' c' ys :: ol 53 oa oc os :: stars oRs os :: ol 53 ga gc gs :: .star GL :: ol 83 pa pc ps :: stars oP ps :: H) wa wc ws := (hwG _).tl
          refine s_app (xs := gs) (ys := ws) ?_ (hby := by omega)
          intro ga2 gc2
          refine sx ?_
          refine s_bsl [r] rfl rfl fun b57 => ?_
          refine sx ?_
          refine s_app (xs := os) (ys := [r]) ?_ (hby := by simp only [List.length_cons, List.length_nil]; omega)
          intro oa2 oc2
          refine sx ?_
          refine s_entL (ol 53 oa2 oc2 (os ++ [r]) :: stars oRs os :: ob a' c' ys :: ol 53 ga2 gc2 (gs ++ ws) :: .star L :: .star GL :: ol 83 pa pc ps :: stars oP ps :: H) ?_ ?_
          · exact entq
          refine s_call rfl (pcoverO_s (rs := os ++ [r]) RSl.hd (by simp only [List.length_append, List.length_cons, List.length_nil]; omega) (fun q hq => ?_) hqa) ?_
          · rcases List.mem_append.1 hq with hq | hq
            · exact (RRg.st hq).tl
            · rw [List.mem_singleton.1 hq]
              exact ⟨rr.lo.ent (by exact ent), rr.hi.ent (by exact ent)⟩
          rintro _ _ ⟨na, nc, ns, rfl, rfl, hnl, hcv, hnk⟩
          refine ⟨chk_seq, ?_⟩
          refine sx ?_
          rw [List.map_append, List.map_cons, List.map_nil, hrd] at hcv
          simp only [List.length_append, List.length_cons, List.length_nil] at hnl
          have hg2 : ∀ g ∈ gs ++ ws, RRg w0 (.star (ob a' c' ys :: .star L :: GL) :: H) g := fun g hg => by
            rcases List.mem_append.1 hg with hg | hg
            · exact RRg.ent (hrg g hg) (Ent.open (Ent.tl (Ent.tl (Ent.star Ent.refl))))
            · exact RRg.ent (hwr (ob a' c' ys :: H) rr g hg) (Ent.trans (H' := ob a' c' ys :: .star L :: .star GL :: H) (Ent.open (Ent.head (Ent.head (Ent.star Ent.refl)))) (by exact entq))
          have hq2 : ∀ g ∈ gs ++ ws, QK 140737488355328 g.d := fun g hg => by
            rcases List.mem_append.1 hg with hg | hg
            · exact hqg g hg
            · refine qk_wo (l := os.map Rg.d) (r := saidR m.d) (by rw [← hrd]; exact hqr) (fun x hx => ?_) g.d (by rw [← hps]; exact List.mem_map.2 ⟨g, hg, rfl⟩)
              obtain ⟨o, ho, rfl⟩ := List.mem_map.1 hx
              exact hqk o ho
          refine s_again ⟨j, na, nc, ns, ga2, gc2, gs ++ ws, ob a' c' ys :: .star L :: GL, pa, pc, ps⟩ ⟨by simp only; omega, by simp only; omega, by simp only; omega, ?_, ?_, hnk _ hqa, hq2, hg2⟩ (by simp only; omega) (he := ?_)
          · rw [hdr, List.map_append, hps]; exact hmn.gone hk1 hcv
          · rw [hdr, List.map_append, hps]; exact hgn.gone hmn hcv
          · simp only
            refine Ent.trans (H' := ol 53 na nc ns :: stars oRs ns :: ol 53 ga2 gc2 (gs ++ ws) :: ob a' c' ys :: .star L :: .star GL :: ol 83 pa pc ps :: stars oP ps :: H) (by exact entq) ?_
            exact Ent.head (Ent.head (Ent.head (Ent.star (Ent.head (Ent.head (Ent.open Ent.refl))))))
    · have t1 : ¬ 0 ≤ (k : Int) - 1 := t1
      obtain rfl : k = 0 := by omega
      rw [List.drop_zero] at hmn hgn
      refine sx ?_
      refine s_call rfl (pcoverO_s (rs := gs) RSl.hd.tl.tl (by omega) (fun g hg => RRg.ent (hrg g hg) (by exact ent)) (fun g hg => hqg g hg)) ?_
      rintro _ _ ⟨ca, cc, cs, rfl, rfl, hcl, hcv, _⟩
      refine ⟨chk_seq, ?_⟩
      refine sx ?_
      refine s_ent (ol 53 ca cc cs :: ol 83 pa pc ps :: stars oP ps :: stars oRs cs :: H) (by exact entq) ?_
      refine s_loop (fun q : Nat × Option Addr × Nat × List Pc => [(5, .slice q.2.1 q.2.2.2.length q.2.2.1), (61, .slice ca cs.length cc), (62, .int .i64 cs.length), (63, .int .i64 q.1)])
        (fun q => ol 53 ca cc cs :: ol 83 q.2.1 q.2.2.1 q.2.2.2 :: stars oP q.2.2.2 :: stars oRs (cs.drop q.1) :: H) (fun q => q.1 ≤ cs.length ∧ q.2.2.2 = ps ++ (cs.take q.1).map gP) (fun q => cs.length - q.1) (0, pa, pc, ps) ⟨Nat.zero_le _, by simp⟩ ?_ (he := by exact Ent.refl)
      rintro ⟨i, pa, pc, ps1⟩ ⟨hi, hp1⟩
      simp only at hi hp1 ⊢
      refine sx ?_
      refine s_if rfl (fun t1 => ?_) (fun t1 => ?_)
      · have t1 : (i : Int) < (cs.length : Int) := t1
        obtain ⟨r, hri⟩ := get_lt cs i (by omega)
        have hsn : ps1 ++ [gP r] = ps ++ (cs.take (i + 1)).map gP := by
          rw [hp1, snocT hri, List.map_append, List.append_assoc]; rfl
        have hlen : ps1.length ≤ ms.length + cs.length := by
          rw [hp1]; simp only [List.length_append, List.length_map, List.length_take]; omega
        refine sx ?_
        refine s_alloc fun b12 => ?_
        refine sx ?_
        refine s_bsl [gP r] rfl rfl fun b70 => ?_
        refine sx ?_
        refine s_app (xs := ps1) (ys := [gP r]) ?_ (hby := by simp only [List.length_cons, List.length_nil]; omega)
        intro pa2 pc2
        refine sx ?_
        refine s_again ⟨i + 1, pa2, pc2, ps1 ++ [gP r]⟩ ⟨by simp only; omega, hsn⟩ (by simp only; omega) (he := ?_)
        simp only
        rw [dropG hri]
        refine Ent.trans (H' := stars oRs (r :: cs.drop (i + 1)) :: stars oP ps1 :: ol 53 ca cc cs :: ol 83 pa2 pc2 (ps1 ++ [gP r]) :: H) (by exact entq) ?_
        refine Ent.trans (H' := ob r.la r.lc r.lo :: ob r.ha r.hc r.hi :: stars oRs (cs.drop (i + 1)) :: stars oP ps1 :: ol 53 ca cc cs :: ol 83 pa2 pc2 (ps1 ++ [gP r]) :: H) (stars_cons (f := oRs) (s := r)) ?_
        refine Ent.trans (H' := ob r.la r.lc r.lo :: ob r.ha r.hc r.hi :: stars oP ps1 :: stars oRs (cs.drop (i + 1)) :: ol 53 ca cc cs :: ol 83 pa2 pc2 (ps1 ++ [gP r]) :: H) (by exact entq) ?_
        refine Ent.trans (H' := ob none 0 [] :: ob none 0 [] :: ob r.la r.lc r.lo :: ob r.ha r.hc r.hi :: stars oP ps1 :: stars oRs (cs.drop (i + 1)) :: ol 53 ca cc cs :: ol 83 pa2 pc2 (ps1 ++ [gP r]) :: H) (Ent.trans Ent.nilS Ent.nilS) ?_
        exact Ent.trans (stars_snoc (f := oP) (s := gP r)) (by exact entq)
      · have t1 : ¬ (i : Int) < (cs.length : Int) := t1
        obtain rfl : i = cs.length := by omega
        rw [List.take_length] at hp1
        refine sx ?_
        refine s_alloc fun b13 => ?_
        refine sx ?_
        refine s_entL (ol 83 pa pc ps1 :: .hb b13 107 ([Value.nilFunc].set 0 (.func (.func 49) #[] #[])) :: stars oP ps1 :: H) (by exact entq) ?_
        refine s_call rfl (sortP_s (bk := b13) (rs := ps1) ?_ ?_ (fun w hw => Sat.hbOf (c' := .star []) .hd hw)) ?_
        · rw [hp1]; simp only [List.length_append, List.length_map]; omega
        · intro p hp
          have h1 : RBy w0 (stars oP ps1 :: H) p.ka p.kc p.key := RBy.ent (H' := oP p) RBy.hd (stars_mem hp)
          have h2 : RBy w0 (stars oP ps1 :: H) p.g.la p.g.lc p.g.lo := RBy.ent (H' := oP p) RBy.hd.tl.tl (stars_mem hp)
          unfold Pc.aa Pc.ac atP
          by_cases g : p.put = true
          · rw [if_pos g, if_pos g, if_pos g]; exact h1.tl
          · rw [if_neg g, if_neg g, if_neg g]; exact h2.tl
        rintro _ _ ⟨rfl, srt, hperm, hsrt, rfl⟩
        refine ⟨chk_seq, ?_⟩
        rw [show (Value.slice pa ps1.length pc) = Value.slice pa srt.length pc by rw [hperm.length_eq]]
        refine sx ?_
        refine s_ret1 rfl rfl ⟨pa, pc, srt, rfl, mean_of hmn hcv (srt := srt.map Pc.d) ?_ (List.pairwise_map.2 hsrt), rfl⟩ ?_
        · have e : ps.map Pc.d ++ (cs.map Rg.d).map gpP = ps1.map Pc.d := by
            rw [hp1, List.map_append, List.map_map, List.map_map]; rfl
          rw [e]
          exact hperm.map _
        · exact Ent.trans (H' := ol 83 pa pc srt :: stars oP ps1 :: H) (by exact entq) (Ent.head (stars_perm hperm))
  · exact Ent.trans (stars_nil (f := oP)) (Ent.trans Ent.nilS (Ent.trans Ent.star0 (Ent.trans Ent.nilS (Ent.trans (stars_nil (f := oRs)) Ent.nilS))))
end Go.Sx

