/- Part of a proof: the document's Apply and Settle, walked. -/
import Derived.Test.YtimakbpghggdfaaGreatCPQj
import Derived.Test.YtimakbpghggdfaaGreatCPO
import Derived.Test.YtimakbpghggdfaaGreatCMR
namespace Go.Sx
open Go Go.Proofs
set_option maxRecDepth 10000
variable {w0 : World} {H : List Ck}
structure RaI where
  i : Nat
  k : Nat
  a : Option Addr
  c : Nat
  os : List KV
def endF (ps : List Pc) : Nat → Option Bs
  | 0 => none
  | i + 1 => (ps[i]?).map fun p => endP p.d
@[reducible] def raH (q : RaI) (ma : Option Addr) (mc : Nat) (es0 : List KV) (pa : Option Addr) (pc : Nat) (ps : List Pc) (H : List Ck) : List Ck :=
  ol 31 q.a q.c q.os :: stars oKVs q.os :: stars oKVs (es0.drop q.k) :: ol 31 ma mc es0 :: ol 83 pa pc ps :: stars oP ps :: H
set_option maxHeartbeats 8000000 in
theorem rapply_s {a b : Option Addr} {c d : Nat} {es : List KV} {ms : List Mg} (hx : RSl w0 H a c es) (hr : ∀ e ∈ es, REe w0 H e) (hm : RMs w0 H b d ms) (hl : es.length + ms.length ≤ 137438953472) (hz : ∀ m ∈ ms, m.lo.length ≤ 140737488355327 ∧ m.hi.length ≤ 140737488355328 ∧ m.v.length ≤ 140737488355328) (hy : ∀ e ∈ es, e.k.length ≤ 140737488355328 ∧ e.v.length ≤ 140737488355328) :
    FnS Tryz.prog w0 H 91 #[.slice a es.length c, .slice b ms.length d] (fun v H' => ∃ a' c' out, v = .slice a' (out : List KV).length c' ∧ IsApp es (ms.map Mg.d) out ∧ out.length ≤ es.length + 2 * ms.length ∧ H' = ol 31 a' c' out :: stars oKVs out :: H) := by
  refine fns_enter Tryz.func91 rfl rfl rfl ?_
  refine sx ?_
  refine s_call rfl (rmap_s (es := es) (by omega) hx hr hy) ?_
  rintro _ _ ⟨ma, mc, es0, so, rfl, hM, ho, rfl⟩
  refine ⟨chk_seq, ?_⟩
  obtain ⟨hri, hget⟩ := map_says hM ho
  have hol : es0.length ≤ es.length := by
    have h1 := congrArg List.length ho
    rw [List.length_map, List.length_map] at h1
    have h2 := (lasts_sub so).length_le
    have h3 := hM.st.len
    omega
  have hyo : ∀ e ∈ es0, e.k.length ≤ 140737488355328 ∧ e.v.length ≤ 140737488355328 := by
    intro e he
    have h1 : e.p ∈ (lastsE so).map KV.p := by rw [← ho]; exact List.mem_map_of_mem he
    obtain ⟨e', he', h2⟩ := List.mem_map.1 h1
    have h3 := hy e' (hM.st.perm.mem_iff.2 ((lasts_sub so).subset he'))
    simp only [KV.p, Prod.mk.injEq] at h2
    rw [← h2.1, ← h2.2]
    exact h3
  clear ho hM
  refine sx ?_
  refine s_call rfl (rmeaning_s (ms := ms) hm.tl.tl (by omega) hz) ?_
  rintro _ _ ⟨pa, pc, ps, rfl, hpn, hmean, rfl⟩
  refine ⟨chk_seq, ?_⟩
  -- what is asked of a piece, of the pieces' places
  have hps : ∀ {i : Nat} {p : Pc}, ps[i]? = some p → okP p.d := fun h => hmean.1.1 _ (List.mem_map_of_mem (List.mem_of_getElem? h))
  have hpd : ∀ {i j : Nat} {p q : Pc}, i < j → ps[i]? = some p → ps[j]? = some q → stepP p.d q.d := fun {i j p q} hij h1 h2 => by
    obtain ⟨b1, e1⟩ := List.getElem?_eq_some_iff.1 h1
    obtain ⟨b2, e2⟩ := List.getElem?_eq_some_iff.1 h2
    have := List.pairwise_iff_getElem.1 hmean.1.2 i j (by simpa using b1) (by simpa using b2) hij
    simp only [List.getElem_map, e1, e2] at this
    exact this
  have hFs : ∀ {i : Nat} {p : Pc}, ps[i]? = some p → endF ps (i + 1) = some (endP p.d) := fun h => by simp [endF, h]
  have hF : ∀ {i : Nat} {p : Pc}, ps[i]? = some p → ∀ f, endF ps i = some f → cmp f (atP p.d) ≤ 0 := fun {i p} h f hf => by
    cases i with
    | zero => cases hf
    | succ i =>
      obtain ⟨q, hq⟩ := get_lt ps i (by have := (List.getElem?_eq_some_iff.1 h).1; omega)
      rw [hFs hq] at hf
      obtain rfl := Option.some.inj hf
      exact (hpd (Nat.lt_succ_self i) hq h).1
  have hgap : ∀ {i : Nat}, i ≤ ps.length → ∀ key, ¬ blw (endF ps i) key → (∀ p, ps[i]? = some p → cmp key (atP p.d) < 0) → getM (ms.map Mg.d) key = none := fun {i} hi key h1 h2 => by
    cases hg : getM (ms.map Mg.d) key with
    | none => rfl
    | some o =>
      exfalso
      obtain ⟨pd, hpm, hsp⟩ := (hmean.2 key o).2 hg
      obtain ⟨q, hqm, rfl⟩ := List.mem_map.1 hpm
      obtain ⟨t, ht⟩ := List.getElem?_of_mem hqm
      obtain ⟨s1, s2⟩ := sp_in (hps ht) hsp
      rcases Nat.lt_or_ge t i with g | g
      · obtain ⟨i', rfl⟩ : ∃ i', i = i' + 1 := ⟨i - 1, by omega⟩
        obtain ⟨q', hq'⟩ := get_lt ps i' (by omega)
        rw [hFs hq'] at h1
        apply h1
        show cmp key (endP q'.d) < 0
        rcases Nat.eq_or_lt_of_le (show t ≤ i' by omega) with e | e
        · subst e
          rw [ht] at hq'
          cases hq'
          exact s2
        · have h3 := (hpd e ht hq').1
          have h4 := at_end (hps hq')
          exact lt_tr s2 (le_tr h3 (by omega))
      · obtain ⟨q', hq'⟩ := get_lt ps i (by have := (List.getElem?_eq_some_iff.1 ht).1; omega)
        have h3 := h2 q' hq'
        rcases Nat.eq_or_lt_of_le g with e | e
        · subst e
          rw [ht] at hq'
          cases hq'
          have := cmp_anti key (atP q.d)
          omega
        · have h4 := (hpd e hq' ht).1
          have h5 := at_end (hps hq')
          have h6 := lt_tr h3 (le_tr (show cmp (atP q'.d) (endP q'.d) ≤ 0 by omega) h4)
          have := cmp_anti key (atP q.d)
          omega
  have hsay : ∀ {i : Nat} {p : Pc}, ps[i]? = some p → ∀ key, cmp (atP p.d) key ≤ 0 → cmp key (endP p.d) < 0 → (p.put = true → key = p.key) ∧ getM (ms.map Mg.d) key = if p.d.put = true then some (some p.v) else some none := fun {i p} h key h1 h2 => by
    have hm2 := List.mem_map_of_mem (f := Pc.d) (List.mem_of_getElem? h)
    have hok := hps h
    by_cases g : p.put = true
    · have e1 : atP p.d = p.key := by unfold atP; rw [if_pos (show p.d.put = true from g)]
      have e2 : endP p.d = p.key ++ [0] := by unfold endP; rw [if_pos (show p.d.put = true from g)]
      rw [e1] at h1
      rw [e2] at h2
      have hk : key = p.key := by
        rcases Int.lt_or_eq_of_le h1 with x | x
        · have := near_next p.key key x
          omega
        · exact ((cmp_eq _ _).1 x).symm
      refine ⟨fun _ => hk, ?_⟩
      rw [if_pos (show p.d.put = true from g)]
      exact (hmean.2 key _).1 ⟨p.d, hm2, by unfold spP; rw [if_pos (show p.d.put = true from g), if_pos hk.symm]⟩
    · have e1 : atP p.d = p.g.lo := by unfold atP; rw [if_neg (show ¬ p.d.put = true from g)]
      have e2 : endP p.d = p.g.hi := by unfold endP; rw [if_neg (show ¬ p.d.put = true from g)]
      rw [e1] at h1
      rw [e2] at h2
      refine ⟨fun x => absurd x g, ?_⟩
      rw [if_neg (show ¬ p.d.put = true from g)]
      have hb : hasB p.g.d key = true := hasB_iff.2 ⟨h1, .inr h2⟩
      exact (hmean.2 key _).1 ⟨p.d, hm2, by unfold spP; rw [if_neg (show ¬ p.d.put = true from g), if_pos hb]⟩
  refine sx ?_
  refine s_loop (fun q : RaI => [(5, .slice ma es0.length mc), (6, .slice pa ps.length pc), (7, .slice q.a q.os.length q.c), (8, .int .i64 q.k), (9, .int .i64 q.i)]) (fun q => raH q ma mc es0 pa pc ps H) (fun q => q.i ≤ ps.length ∧ q.k ≤ es0.length ∧ q.os.length ≤ q.k + q.i ∧ ApK (es0.map KV.p) (ms.map Mg.d) (endF ps q.i) (q.os.map KV.p) ((es0.drop q.k).map KV.p)) (fun q => ps.length - q.i) ⟨0, 0, none, 0, []⟩ ⟨Nat.zero_le _, Nat.zero_le _, Nat.le_refl _, ApK.nil hri⟩ ?_ (he := ?_)
  rotate_left
  · refine Ent.nilS.trans (Ent.head (stars_nil.trans (Ent.head ?_)))
    exact ent
  rintro ⟨i, k, oa, oc, os⟩ ⟨g1, g2, g3, g4⟩
  simp only [raH] at g1 g2 g3 g4 ⊢
  refine sx ?_
  refine s_if rfl (fun t1 => ?_) (fun t1 => ?_)
  · obtain ⟨p, hp⟩ := get_lt ps i (by omega)
    refine sx ?_
    refine s_alloc fun b10 => ?_
    refine sx ?_
    have hok := hps hp
    refine s_cutB (ι := RaI) (fun q : RaI => [(5, .slice ma es0.length mc), (6, .slice pa ps.length pc), (7, .slice q.a q.os.length q.c), (8, .int .i64 q.k), (9, .int .i64 i), (10, .pointer (some ⟨b10, 0, none⟩))]) (fun q : RaI => .hb b10 83 (Cel.f p) :: ol 31 q.a q.c q.os :: stars oKVs q.os :: stars oKVs (es0.drop q.k) :: ol 31 ma mc es0 :: ol 83 pa pc ps :: stars oP ps :: H) (fun q => (k ≤ q.k ∧ q.k ≤ es0.length ∧ q.os.length ≤ q.k + i ∧ q.os.map KV.p = os.map KV.p ++ (((es0.drop k).map KV.p).take (q.k - k)).filter (ltB (atP p.d)) ∧ ∀ e ∈ ((es0.drop k).map KV.p).take (q.k - k), cmp e.1 (endP p.d) < 0) ∧ ∀ e ∈ (es0.drop q.k).map KV.p, ¬ cmp e.1 (endP p.d) < 0) ?_ ?_
    · refine s_loop (fun q : RaI => [(5, .slice ma es0.length mc), (6, .slice pa ps.length pc), (7, .slice q.a q.os.length q.c), (8, .int .i64 q.k), (9, .int .i64 i), (10, .pointer (some ⟨b10, 0, none⟩))]) (fun q : RaI => .hb b10 83 (Cel.f p) :: ol 31 q.a q.c q.os :: stars oKVs q.os :: stars oKVs (es0.drop q.k) :: ol 31 ma mc es0 :: ol 83 pa pc ps :: stars oP ps :: H) (fun q => k ≤ q.k ∧ q.k ≤ es0.length ∧ q.os.length ≤ q.k + i ∧ q.os.map KV.p = os.map KV.p ++ (((es0.drop k).map KV.p).take (q.k - k)).filter (ltB (atP p.d)) ∧ ∀ e ∈ ((es0.drop k).map KV.p).take (q.k - k), cmp e.1 (endP p.d) < 0) (fun q => es0.length - q.k) ⟨i, k, oa, oc, os⟩ ⟨Nat.le_refl _, g2, g3, by simp, fun e he => by simp at he⟩ ?_
      rintro ⟨_, j, xa, xc, xs⟩ ⟨q1, q2, q3, q4, q5⟩
      simp only at q1 q2 q3 q4 q5 ⊢
      refine sx ?_
      refine s_if rfl (fun t2 => ?_) (fun t2 => ?_)
      rotate_left
      · have t2 : ¬ (j : Int) < (es0.length : Int) := t2
        refine sx ?_
        exact s_mid ⟨i, j, xa, xc, xs⟩ ⟨⟨q1, q2, q3, q4, q5⟩, fun e he => by
          simp only at he
          rw [List.drop_of_length_le (by omega)] at he
          cases he⟩
      have t2 : (j : Int) < (es0.length : Int) := t2
      obtain ⟨e, he⟩ := get_lt es0 j (by omega)
      have hed : (es0.map KV.p)[j]? = some e.p := get_map (f := KV.p) he
      have htk : ((es0.drop k).map KV.p).take (j + 1 - k) = ((es0.drop k).map KV.p).take (j - k) ++ [e.p] := by
        rw [show j + 1 - k = (j - k) + 1 by omega]
        refine snocT ?_
        rw [List.getElem?_map, List.getElem?_drop, show k + (j - k) = j by omega, he]
        rfl
      have hnx : cmp e.k (endP p.d) < 0 → ∀ x ∈ ((es0.drop k).map KV.p).take (j + 1 - k), cmp x.1 (endP p.d) < 0 := fun hlt x hx => by
        rw [htk] at hx
        rcases List.mem_append.1 hx with hx | hx
        · exact q5 x hx
        · rw [List.mem_singleton.1 hx]; exact hlt
      have hge : ¬ cmp e.k (endP p.d) < 0 → ∀ x ∈ (es0.drop j).map KV.p, ¬ cmp x.1 (endP p.d) < 0 := fun h x hx => by
        rw [List.map_drop, dropG hed] at hx
        rcases List.mem_cons.1 hx with rfl | hx
        · exact h
        · have h1 : cmp e.p.1 x.1 < 0 := by
            have h2 := List.Pairwise.sublist (List.drop_sublist j (es0.map KV.p)) hri
            rw [dropG hed] at h2
            exact (List.pairwise_cons.1 h2).1 x hx
          intro g
          have := lt_tr h1 (show cmp x.1 (endP p.d) ≤ 0 by omega)
          exact h this
      have hre : REe w0 (stars oKVs (es0.drop j) :: ol 31 ma mc es0 :: ol 83 pa pc ps :: stars oP ps :: H) e := REe.st (by rw [dropG he]; simp)
      have hek := hre.k
      have hrp : RPc w0 (stars oP ps :: H) p := RPc.st (List.mem_of_getElem? hp)
      have hpk := hrp.key
      have hpg := hrp.g
      have hlo := hpg.lo
      refine sx ?_
      cases hput : p.put
      · have hnp : ¬ p.d.put = true := by show ¬ p.put = true; rw [hput]; decide
        have e1 : atP p.d = p.g.lo := by unfold atP; rw [if_neg hnp]
        have e2 : endP p.d = p.g.hi := by unfold endP; rw [if_neg hnp]
        have hall : p.g.all = false := by
          have := hok
          unfold okP at this
          rw [if_neg hnp] at this
          exact this.2.2.2
        have hlh : cmp p.g.lo p.g.hi < 0 := by have := at_end hok; rw [e1, e2] at this; exact this
        have hhas : hasB p.g.d e.k = true ↔ cmp p.g.lo e.k ≤ 0 ∧ cmp e.k p.g.hi < 0 := by
          rw [hasB_iff]
          show _ ∧ (p.g.all = true ∨ _) ↔ _
          rw [hall]
          simp only [Bool.false_eq_true, false_or]
        refine sx ?_; refine s_drH (.hb b10 83 (Cel.f p) :: stars oKVs (es0.drop j) :: ol 31 ma mc es0 :: ol 83 pa pc ps :: stars oP ps :: H) (.one true 0 (.one true 1 (.one true 2 (.one true 3 (.one true 4 (.one true 5 (.one true 6 (.one true 7 (.one false 8 (.one true 9 .nil)))))))))) mixed (by kernel_rfl) ?_; refine sx ?_
        refine s_rw (t := 59) (v' := .pointer (some ((⟨b10, 0, none⟩ : Addr).add 3))) rfl rfl ?_
        refine sx ?_
        refine s_callV rfl (qless_s (xs := e.k) (ys := p.g.lo) (by exact rby) (by exact rby)) ?_
        refine sx ?_
        refine s_drH (.hb b10 83 (Cel.f p) :: stars oKVs (es0.drop j) :: ol 31 ma mc es0 :: ol 83 pa pc ps :: stars oP ps :: H) (.one true 0 (.one true 1 (.one true 2 (.one true 3 (.one true 4 (.one true 5 (.one true 6 (.one false 7 (.one true 8 .nil))))))))) mixed (by kernel_rfl) ?_ (he := by exact ent)
        refine sx ?_
        refine s_rw (t := 63) (v' := .agg p.g.cells.toArray) rfl rfl ?_
        refine s_callV rfl (qhas_s (r := p.g) (key := e.k) (by exact rrg) (by exact rby)) ?_
        refine sx ?_
        have hanti := cmp_anti e.k p.g.lo
        by_cases h1 : cmp e.k p.g.lo < 0
        · have hat : cmp e.k (atP p.d) < 0 := by rw [e1]; exact h1
          have hap : cmp e.p.1 (atP p.d) < 0 := hat
          have hlt : cmp e.k (endP p.d) < 0 := by rw [e2]; exact lt_tr h1 (by omega)
          refine s_gF rfl (by simp [h1]) ?_
          refine sx ?_
          refine s_cT rfl (by simp [h1]) ?_
          refine sx ?_
          refine s_bsl [e] rfl rfl fun b51 => ?_
          refine s_app (xs := xs) (ys := [e]) ?_ (hby := by simp only [List.length_cons, List.length_nil]; omega)
          intro a4 c4
          refine sx ?_
          refine s_again ⟨i, j + 1, a4, c4, xs ++ [e]⟩ ⟨by simp only; omega, by simp only; omega, by simp only [List.length_append, List.length_cons, List.length_nil]; omega, ?_, hnx hlt⟩ (by simp only; omega) (he := ?_)
          · simp only [List.map_append, List.map_cons, List.map_nil]
            rw [q4, htk, List.filter_append, List.filter_cons_of_pos (by simp only [ltB, decide_eq_true_eq]; exact hat), List.filter_nil, List.append_assoc]
          · simp only
            refine Ent.cons (by exact rm) ?_
            refine Ent.cons (by exact rm) ?_
            refine Ent.trans (H' := oKVs e ++ stars oKVs xs :: stars oKVs (es0.drop (j + 1)) :: ol 31 ma mc es0 :: ol 83 pa pc ps :: stars oP ps :: H) ?_ stars_snoc
            refine Ent.trans (H' := stars oKVs (es0.drop j) :: stars oKVs xs :: ol 31 ma mc es0 :: ol 83 pa pc ps :: stars oP ps :: H) (by exact ent) ?_
            rw [dropG he]
            refine stars_cons.trans ?_
            show Ent (ob e.ka e.kc e.k :: ob e.va e.vc e.v :: stars oKVs (es0.drop (j + 1)) :: stars oKVs xs :: ol 31 ma mc es0 :: ol 83 pa pc ps :: stars oP ps :: H) (ob e.ka e.kc e.k :: ob e.va e.vc e.v :: stars oKVs xs :: stars oKVs (es0.drop (j + 1)) :: ol 31 ma mc es0 :: ol 83 pa pc ps :: stars oP ps :: H)
            exact ent
        · have hat : ¬ cmp e.k (atP p.d) < 0 := by rw [e1]; exact h1
          have hap : ¬ cmp e.p.1 (atP p.d) < 0 := hat
          refine s_gT rfl (by simp [h1]) ?_
          refine sx ?_
          by_cases h2 : cmp e.k p.g.hi < 0
          · have hlt : cmp e.k (endP p.d) < 0 := by rw [e2]; exact h2
            refine s_cF rfl (by rw [hhas.2 ⟨by omega, h2⟩]; rfl) ?_
            refine sx ?_
            refine s_cF rfl (by simp [h1]) ?_
            refine sx ?_
            refine s_again ⟨i, j + 1, xa, xc, xs⟩ ⟨by simp only; omega, by simp only; omega, by simp only; omega, ?_, hnx hlt⟩ (by simp only; omega) (he := ?_)
            · simp only
              rw [q4, htk, List.filter_append, List.filter_cons_of_neg (by simp only [ltB, decide_eq_true_eq]; exact hat), List.filter_nil, List.append_nil]
            · simp only
              refine Ent.cons (by exact rm) (Ent.cons (by exact rm) (Ent.cons (by exact rm) ?_))
              refine Ent.trans (H' := stars oKVs (es0.drop j) :: ol 31 ma mc es0 :: ol 83 pa pc ps :: stars oP ps :: H) (by exact ent) ?_
              rw [dropG he]
              refine stars_cons.trans ?_
              exact Ent.tl (Ent.tl Ent.refl)
          · have hno : ¬ cmp e.k (endP p.d) < 0 := by rw [e2]; exact h2
            have hnb : hasB p.g.d e.k = false := by
              cases hc : hasB p.g.d e.k with
              | false => rfl
              | true => exact absurd (hhas.1 hc).2 h2
            refine s_cT rfl (by rw [hnb]; rfl) ?_
            refine sx ?_
            exact s_mid ⟨i, j, xa, xc, xs⟩ ⟨⟨q1, q2, q3, q4, q5⟩, hge hno⟩
      · have hnp : p.d.put = true := hput
        have e1 : atP p.d = p.key := by unfold atP; rw [if_pos hnp]
        have e2 : endP p.d = p.key ++ [0] := by unfold endP; rw [if_pos hnp]
        refine sx ?_; refine s_drH (.hb b10 83 (Cel.f p) :: stars oKVs (es0.drop j) :: ol 31 ma mc es0 :: ol 83 pa pc ps :: stars oP ps :: H) (.one true 0 (.one true 1 (.one true 2 (.one true 3 (.one true 4 (.one true 5 (.one true 6 (.one false 7 (.one true 8 .nil))))))))) mixed (by kernel_rfl) ?_; refine sx ?_
        refine s_callV rfl (qcmp_s (xs := e.k) (ys := p.key) (by exact rby) (by exact rby)) ?_
        refine sx ?_
        refine s_if rfl (fun t3 => ?_) (fun t3 => ?_)
        · have t3 : 0 < cmp e.k p.key := t3
          have hno : ¬ cmp e.k (endP p.d) < 0 := by
            rw [e2]
            have := near_next p.key e.k (by have := cmp_anti e.k p.key; omega)
            omega
          refine sx ?_
          exact s_mid ⟨i, j, xa, xc, xs⟩ ⟨⟨q1, q2, q3, q4, q5⟩, hge hno⟩
        · have t3 : ¬ 0 < cmp e.k p.key := t3
          have hlt : cmp e.k (endP p.d) < 0 := by
            rw [e2]
            have h1 : cmp p.key (p.key ++ [0]) = -1 := cmp_next _
            rcases Int.lt_or_eq_of_le (show cmp e.k p.key ≤ 0 by omega) with x | x
            · exact lt_tr x (by omega)
            · rw [(cmp_eq _ _).1 x]; omega
          refine sx ?_
          refine s_if rfl (fun t4 => ?_) (fun t4 => ?_)
          · have hat : cmp e.k (atP p.d) < 0 := by rw [e1]; exact t4
            have hap : cmp e.p.1 (atP p.d) < 0 := hat
            refine sx ?_
            refine s_bsl [e] rfl rfl fun b51 => ?_
            refine s_app (xs := xs) (ys := [e]) ?_ (hby := by simp only [List.length_cons, List.length_nil]; omega)
            intro a4 c4
            refine sx ?_
            refine s_again ⟨i, j + 1, a4, c4, xs ++ [e]⟩ ⟨by simp only; omega, by simp only; omega, by simp only [List.length_append, List.length_cons, List.length_nil]; omega, ?_, hnx hlt⟩ (by simp only; omega) (he := ?_)
            · simp only [List.map_append, List.map_cons, List.map_nil]
              rw [q4, htk, List.filter_append, List.filter_cons_of_pos (by simp only [ltB, decide_eq_true_eq]; exact hat), List.filter_nil, List.append_assoc]
            · simp only
              refine Ent.cons (by exact rm) ?_
              refine Ent.cons (by exact rm) ?_
              refine Ent.trans (H' := oKVs e ++ stars oKVs xs :: stars oKVs (es0.drop (j + 1)) :: ol 31 ma mc es0 :: ol 83 pa pc ps :: stars oP ps :: H) ?_ stars_snoc
              refine Ent.trans (H' := stars oKVs (es0.drop j) :: stars oKVs xs :: ol 31 ma mc es0 :: ol 83 pa pc ps :: stars oP ps :: H) (by exact ent) ?_
              rw [dropG he]
              refine stars_cons.trans ?_
              show Ent (ob e.ka e.kc e.k :: ob e.va e.vc e.v :: stars oKVs (es0.drop (j + 1)) :: stars oKVs xs :: ol 31 ma mc es0 :: ol 83 pa pc ps :: stars oP ps :: H) (ob e.ka e.kc e.k :: ob e.va e.vc e.v :: stars oKVs xs :: stars oKVs (es0.drop (j + 1)) :: ol 31 ma mc es0 :: ol 83 pa pc ps :: stars oP ps :: H)
              exact ent
          · have hat : ¬ cmp e.k (atP p.d) < 0 := by rw [e1]; exact t4
            have hap : ¬ cmp e.p.1 (atP p.d) < 0 := hat
            refine sx ?_
            refine s_again ⟨i, j + 1, xa, xc, xs⟩ ⟨by simp only; omega, by simp only; omega, by simp only; omega, ?_, hnx hlt⟩ (by simp only; omega) (he := ?_)
            · simp only
              rw [q4, htk, List.filter_append, List.filter_cons_of_neg (by simp only [ltB, decide_eq_true_eq]; exact hat), List.filter_nil, List.append_nil]
            · simp only
              refine Ent.cons (by exact rm) (Ent.cons (by exact rm) (Ent.cons (by exact rm) ?_))
              refine Ent.trans (H' := stars oKVs (es0.drop j) :: ol 31 ma mc es0 :: ol 83 pa pc ps :: stars oP ps :: H) (by exact ent) ?_
              rw [dropG he]
              refine stars_cons.trans ?_
              exact Ent.tl (Ent.tl Ent.refl)
    · rintro ⟨_, j, xa, xc, xs⟩ ⟨⟨q1, q2, q3, q4, q5⟩, q6⟩
      simp only at q1 q2 q3 q4 q5 q6 ⊢
      have hspl : (es0.drop k).map KV.p = ((es0.drop k).map KV.p).take (j - k) ++ (es0.drop j).map KV.p := by
        conv => lhs; rw [← List.take_append_drop (j - k) ((es0.drop k).map KV.p)]
        rw [← List.map_drop, List.drop_drop, show k + (j - k) = j by omega]
      have hstep := g4.step hri hok (hF hp) hspl q5 q6 (fun key h1 h2 => hgap g1 key h1 (fun p' hp' => by
        have : some p = some p' := hp.symm.trans hp'
        cases this
        exact h2)) (fun key h1 h2 => (hsay hp key h1 h2).2) (fun hpp key h1 h2 => (hsay hp key h1 h2).1 hpp)
      rw [← q4, ← hFs hp] at hstep
      have hrp : RPc w0 (stars oP ps :: H) p := RPc.st (List.mem_of_getElem? hp)
      refine sx ?_
      cases hput : p.put
      · rw [if_neg (by show ¬ p.put = true; rw [hput]; decide), List.append_nil] at hstep
        refine sx ?_
        refine s_again ⟨i + 1, j, xa, xc, xs⟩ ⟨by simp only; omega, q2, by simp only; omega, hstep⟩ (by simp only; omega) (he := ?_)
        exact Ent.tl Ent.refl
      · have hpp : p.d.put = true := hput
        rw [if_pos hpp] at hstep
        obtain ⟨mm, hmm, _, hmv, hml⟩ := getM_putJ ((hmean.2 p.key (some p.v)).1 ⟨p.d, List.mem_map_of_mem (List.mem_of_getElem? hp), by unfold spP; rw [if_pos hpp, if_pos rfl]⟩)
        obtain ⟨mg, hmg, rfl⟩ := List.mem_map.1 hmm
        have hzm := hz mg hmg
        have hpk := hrp.key
        have hpv := hrp.v
        have zk : p.key.length ≤ 140737488355328 := by rw [← hml]; show mg.lo.length ≤ _; omega
        have zv : p.v.length ≤ 140737488355328 := by rw [← hmv]; show mg.v.length ≤ _; omega
        refine sx ?_; refine s_drH (.hb b10 83 (Cel.f p) :: ol 31 ma mc es0 :: ol 83 pa pc ps :: stars oP ps :: H) (.one true 0 (.one true 1 (.one true 2 (.one true 4 (.one true 5 (.one false 3 (.one false 6 (.one true 7 (.one false 8 (.one false 9 (.one true 10 .nil))))))))))) mixed (by kernel_rfl) ?_; refine sx ?_
        refine s_call rfl (qcopy_s (xs := p.key) (by exact rby) zk) ?_
        rintro _ _ ⟨k1, rfl, rfl⟩
        refine ⟨chk_held (by exact ent), ?_⟩
        refine sx ?_
        refine s_call rfl (qcopy_s (xs := p.v) (by exact rby) zv) ?_
        rintro _ _ ⟨k2, rfl, rfl⟩
        refine ⟨chk_held (by exact ent), ?_⟩
        refine sx ?_
        refine s_bsl [(⟨k1, p.key.length, p.key, k2, p.v.length, p.v⟩ : KV)] rfl rfl fun b51 => ?_
        refine s_app (xs := xs) (ys := [(⟨k1, p.key.length, p.key, k2, p.v.length, p.v⟩ : KV)]) ?_ (hby := by simp only [List.length_cons, List.length_nil]; omega)
        intro a4 c4
        refine sx ?_
        refine s_again ⟨i + 1, j, a4, c4, xs ++ [⟨k1, p.key.length, p.key, k2, p.v.length, p.v⟩]⟩ ⟨by simp only; omega, q2, by simp only [List.length_append, List.length_cons, List.length_nil]; omega, ?_⟩ (by simp only; omega) (he := ?_)
        · simp only
          rw [List.map_append]
          exact hstep
        · refine Ent.cons (by exact rm) ?_
          refine Ent.trans (H' := oKVs ⟨k1, p.key.length, p.key, k2, p.v.length, p.v⟩ ++ stars oKVs xs :: stars oKVs (es0.drop j) :: ol 31 ma mc es0 :: ol 83 pa pc ps :: stars oP ps :: H) ?_ stars_snoc
          exact Ent.cons (by exact rm) (Ent.cons (by exact rm) (by exact ent))
  · have t1 : ¬ (i : Int) < (ps.length : Int) := t1
    obtain rfl : i = ps.length := by omega
    obtain ⟨f1, f2⟩ := g4.fin hri (fun key h1 => hgap g1 key h1 (fun p' hp' => by
      have := (List.getElem?_eq_some_iff.1 hp').1
      omega))
    have hld : (es0.drop k).length = es0.length - k := List.length_drop
    have hrd : RSl w0 (ol 31 oa oc os :: stars oKVs os :: stars oKVs (es0.drop k) :: ol 31 ma mc es0 :: ol 83 pa pc ps :: stars oP ps :: H) ma mc es0 := RSl.hd.tl.tl.tl
    have hrdd := hrd.drop (j := k) g2
    refine s_kn (Kn.sl hrd) fun ⟨mc1, mc2⟩ => ?_
    simp only [maxLen] at mc2
    refine sx ?_
    refine s_rw (t := 101) (v' := .slice (sl ma mc k 2) (es0.drop k).length (mc - k)) rfl (by rw [hld]) ?_
    refine s_app (xs := os) (ys := es0.drop k) ?_ (hby := by omega)
    intro a4 c4
    refine sx ?_
    refine s_ret1 rfl rfl ⟨a4, c4, os ++ es0.drop k, rfl, ⟨?_, fun key v => ?_⟩, by rw [List.length_append]; omega, rfl⟩ ?_
    · have : RiL ((os ++ es0.drop k).map KV.p) := by rw [List.map_append]; exact f1
      unfold RiL at this
      rw [List.pairwise_map] at this
      exact this
    · rw [← hget, ← f2, ← List.map_append]
      constructor
      · rintro ⟨e, he, rfl, rfl⟩
        exact List.mem_map_of_mem he
      · intro h
        obtain ⟨e, he, hp⟩ := List.mem_map.1 h
        exact ⟨e, he, congrArg Prod.fst hp, congrArg Prod.snd hp⟩
    · refine Ent.cons (by exact rm) ?_
      refine Ent.trans ?_ stars_append'
      exact ent
end Go.Sx

