/- Part of a proof: merge.Same, walked. -/
import Derived.Test.YtpnhoafmlhlfgaaGreatCMF
namespace Go.Sx
open Go Go.Proofs
set_option maxRecDepth 10000
variable {w0 : World} {H : List Ck}
theorem mequal_s {a a' : Option Addr} {c c' : Nat} {xs ys : Bs} (ha : RBy w0 H a c xs) (hb : RBy w0 H a' c' ys) : FnV Tryz.prog w0 H 66 #[.slice a xs.length c, .slice a' ys.length c'] (.bool (decide (xs = ys))) := by
  refine fns_enter Tryz.func66 rfl rfl rfl ?_
  refine sx ?_
  exact s_ret1 rfl rfl ⟨rfl, rfl⟩
theorem st_tail {A B H : List Ck} (h : Ent A (B ++ H)) : Ent A (B ++ [.star H]) := h.trans (Ent.appL st_one')
@[reducible] def saL (b4 b5 bh : Nat) (t : Bool) (a : Option Addr) (c : Nat) (rs : List KV) (oa : Option Addr) (oc : Nat) (os : List KV) (H : List Ck) : List Ck := .hb b4 4 [.bool t] :: .hb b5 117 [.pointer (some ⟨bh, 0, none⟩)] :: .hb bh 119 [.slice a rs.length c] :: ol 51 oa oc os :: stars oKVs os :: H
/-- A rest of a list that was laid. -/
structure Sf (w0 : World) (oa : Option Addr) (oc : Nat) (os : List KV) (a : Option Addr) (c : Nat) (rs : List KV) : Prop where
  sl : RSl w0 [ol 51 oa oc os] a c rs
  mem : ∀ x ∈ rs, x ∈ os
set_option maxHeartbeats 4000000 in
theorem same_s {o o' : Bool} {g g2' : Ck} {gm gm' : Nat → Ck} {va vb : Value} {La Lb : List Pp} (hA : TvS Tryz.prog w0 o g gm g g va La) (hB : TvS Tryz.prog w0 o' g gm' g g2' vb Lb) (hl : Lb.length ≤ 549755813888) (hsm : SmL Lb) :
    FnS Tryz.prog w0 (g :: H) 25 #[va, vb] (fun v' H' => v' = .bool (decide (La = Lb)) ∧ H' = g :: H) := by
  refine fns_enterM Tryz.func25 rfl rfl rfl ?_
  refine sx ?_
  refine s_alloc fun b4 => ?_
  refine sx ?_
  refine s_call rfl ((all_s (most := -1) hB hl hsm).ent (Ent.cons (by exact rm) Ent.refl)) ?_
  rintro _ _ ⟨oa, oc, os, rfl, ho, rfl⟩
  rw [tk_all] at ho
  refine ⟨chk_seq, ?_⟩
  rw [show allG (-1) Lb.length g g g2' = g by simp [allG]]
  refine sx ?_
  refine s_boxA (cs := [.slice oa os.length oc]) rfl fun bh => ?_
  refine sx ?_
  refine s_alloc fun b5 => ?_
  refine sx ?_
  refine s_call rfl (of_s hA) ?_
  rintro _ _ ⟨⟨k, cap, rfl, hk, ht⟩, rfl⟩
  refine ⟨chk_seq, ?_⟩
  haveI := hk
  refine sx ?_
  refine s_rangeF (cap := cap) (ps := [14, 15]) rfl (fun ll D pd K => ∃ a c rs t, Sf w0 oa oc os a c rs ∧ (pd = none ∧ La = Lb.take La.length ∧ rs.map KV.p = Lb.drop La.length ∨ pd = some .ret ∧ t = false ∧ La ≠ Lb) ∧ K = dfk D :: g :: saL b4 b5 bh t a c rs oa oc os H) ?_ ?_ ?_
  · intro ll D σ hσ
    refine FnS.ent (H' := [g, .star (lpk ll σ .ready none :: dfk D :: saL b4 b5 bh false oa oc os oa oc os H)]) ?_ ?_
    · refine FnS.post (ht ll (fun i K => ∃ a c rs, Sf w0 oa oc os a c rs ∧ La.take i = Lb.take i ∧ i ≤ Lb.length ∧ rs.map KV.p = Lb.drop i ∧ K = lpk ll σ .ready none :: dfk D :: saL b4 b5 bh false a c rs oa oc os H) (fun K => ∃ a c rs, Sf w0 oa oc os a c rs ∧ La ≠ Lb ∧ K = lpk ll σ .done (some .ret) :: dfk D :: saL b4 b5 bh false a c rs oa oc os H) ?_ _ ⟨oa, oc, os, ⟨RSl.hd, fun _ h => h⟩, by simp, by simp, by simpa using ho, rfl⟩) ?_
      · rintro i x u K T E hx ⟨a, c, rs, hrs, hm, hil, hrm, rfl⟩ hT hr
        have h1 : RBy w0 (.star T :: .star H :: gm u :: E) x.ka x.kc x.k := hr.k.ent (Ent.head (Ent.tl (Ent.tl Ent.refl)))
        have h2 : RBy w0 (.star T :: .star H :: gm u :: E) x.va x.vc x.v := hr.v.ent (Ent.head (Ent.tl (Ent.tl Ent.refl)))
        refine YldS.ent (H' := lpk ll σ .ready none :: dfk D :: saL b4 b5 bh false a c rs oa oc os (.star T :: .star H :: gm u :: E)) ?_ ?_
        · refine yld_of (args := [_, _]) hσ (by exact rm) rfl rfl ?_
          refine sx ?_
          refine s_beg (by exact rm) ?_
          have hend : ∀ st pd, Ent (lpk ll σ st pd :: dfk D :: saL b4 b5 bh false a c rs oa oc os (.star T :: .star H :: gm u :: E)) (.star (lpk ll σ st pd :: dfk D :: saL b4 b5 bh false a c rs oa oc os H) :: gm u :: E) := fun st pd => by
            refine Ent.trans ?_ (st_app' (A := lpk ll σ st pd :: dfk D :: saL b4 b5 bh false a c rs oa oc os []))
            show Ent _ (lpk ll σ st pd :: dfk D :: saL b4 b5 bh false a c rs oa oc os (.star H :: gm u :: E))
            exact entq
          cases rs with
          | nil =>
            refine sx ?_
            refine s_callV rfl (FnV.rm (by exact rm) (hok_s (es := []))) ?_
            refine sx ?_
            refine s_rndR (by exact rm) ⟨_, .inr ⟨rfl, a, c, [], hrs, ?_, rfl⟩, rfl⟩ ?_
            · rintro rfl
              have := (List.getElem?_eq_some_iff.1 hx).1
              have h := List.drop_eq_nil_iff.1 hrm.symm
              omega
            · refine Ent.trans ?_ (hend .done (some .ret))
              dsimp only [saL]
              exact ent
          | cons e r =>
            have hl1 : 1 ≤ (e :: r).length := by simp
            have heb : e ∈ os := hrs.mem e (by simp)
            have hek : REe w0 (stars oKVs os :: .star T :: .star H :: gm u :: E) e := REe.st heb
            have hek1 := hek.k
            have hek2 := hek.v
            have hrsl : RSl w0 (ol 51 oa oc os :: stars oKVs os :: .star T :: .star H :: gm u :: E) a c (e :: r) := hrs.sl.ent (Ent.cons (by exact rm) Ent.nil)
            have hbi : Lb[i]? = some e.p := by
              have h := List.getElem?_drop (xs := Lb) (i := i) (j := 0)
              rw [← hrm] at h
              simpa using h.symm
            refine sx ?_
            refine s_callV rfl (FnV.rm (by exact rm) (hok_s (es := e :: r))) ?_
            refine s_rw (t := 17) (v' := .bool true) rfl (by simp) ?_
            refine sx ?_
            refine s_callV rfl (mequal_s (xs := e.k) (ys := x.k) (by exact rby) (by exact rby)) ?_
            have hne : ¬ (e.k = x.k ∧ e.v = x.v) → La ≠ Lb := by
              rintro hn rfl
              rw [hx] at hbi
              have : x.p = e.p := Option.some.inj hbi
              exact hn ⟨congrArg Prod.fst this.symm, congrArg Prod.snd this.symm⟩
            by_cases q1 : e.k = x.k
            · rw [show decide (e.k = x.k) = true from decide_eq_true q1]
              refine sx ?_
              refine s_callV rfl (mequal_s (xs := e.v) (ys := x.v) (by exact rby) (by exact rby)) ?_
              by_cases q2 : e.v = x.v
              · rw [show decide (e.v = x.v) = true from decide_eq_true q2]
                refine sx ?_
                have hst : RSl w0 (lpk ll σ .busy none :: dfk D :: .hb b4 4 [.bool false] :: .hb b5 117 [.pointer (some ⟨bh, 0, none⟩)] :: ol 51 oa oc os :: stars oKVs os :: .star T :: .star H :: gm u :: E) a c (e :: r) := hrs.sl.ent (Ent.cons (by exact rm) Ent.nil)
                refine s_call rfl (FnS.ent (hstep_s (es := r) hst) (Ent.cons (by exact rm) Ent.refl)) ?_
                rintro _ _ ⟨rfl, rfl⟩
                refine ⟨chk_seq, ?_⟩
                refine sx ?_
                refine s_rnd (by exact rm) ⟨_, .inl ⟨rfl, sl a c 1 2, c - 1, r, ⟨hrs.sl.drop (j := 1) (by simp), fun y h => hrs.mem y (List.mem_cons_of_mem _ h)⟩, ?_, ?_, ?_, rfl⟩, rfl⟩ ?_
                · rw [snocT hx, snocT hbi, hm]
                  show _ ++ [(x.k, x.v)] = _ ++ [(e.k, e.v)]
                  rw [q1, q2]
                · have := (List.getElem?_eq_some_iff.1 hbi).1
                  omega
                · rw [← List.drop_drop, ← hrm]
                  rfl
                · refine Ent.trans ?_ (st_app' (A := lpk ll σ .ready none :: dfk D :: saL b4 b5 bh false (sl a c 1 2) (c - 1) r oa oc os []))
                  show Ent _ (lpk ll σ .ready none :: dfk D :: .hb b4 4 [.bool false] :: .hb b5 117 [.pointer (some ⟨bh, 0, none⟩)] :: .hb bh 119 [.slice (sl a c 1 2) r.length (c - 1)] :: ol 51 oa oc os :: stars oKVs os :: .star H :: gm u :: E)
                  exact ent
              · rw [show decide (e.v = x.v) = false from decide_eq_false q2]
                refine sx ?_
                refine s_rndR (by exact rm) ⟨_, .inr ⟨rfl, a, c, e :: r, hrs, hne fun h => q2 h.2, rfl⟩, rfl⟩ ?_
                refine Ent.trans ?_ (hend .done (some .ret))
                dsimp only [saL]
                exact ent
            · rw [show decide (e.k = x.k) = false from decide_eq_false q1]
              refine sx ?_
              refine s_rndR (by exact rm) ⟨_, .inr ⟨rfl, a, c, e :: r, hrs, hne fun h => q1 h.1, rfl⟩, rfl⟩ ?_
              refine Ent.trans ?_ (hend .done (some .ret))
              dsimp only [saL]
              exact ent
        · refine Ent.trans st_sw ?_
          refine Ent.trans (st_app (A := lpk ll σ .ready none :: dfk D :: saL b4 b5 bh false a c rs oa oc os []) (B := H)) ?_
          show Ent (lpk ll σ .ready none :: dfk D :: saL b4 b5 bh false a c rs oa oc os (.star H :: .star T :: gm u :: E)) _
          exact entq
      · rintro v' K' ⟨rfl, K2, ⟨⟨a, c, rs, hrs, hm, hil, hrm, rfl⟩, rfl⟩ | ⟨⟨a, c, rs, hrs, hm, rfl⟩, rfl⟩⟩
        · refine ⟨_, ⟨.ready, none, _, (fun e => by cases e), rfl, a, c, rs, false, hrs, .inl ⟨rfl, by rw [← hm, List.take_length], hrm⟩, rfl⟩, ?_⟩
          refine Ent.trans (Ent.perm (.swap _ _ _)) ?_
          refine Ent.trans (st_app (A := lpk ll σ .ready none :: dfk D :: saL b4 b5 bh false a c rs oa oc os []) (B := H)) ?_
          show Ent (lpk ll σ .ready none :: dfk D :: saL b4 b5 bh false a c rs oa oc os (.star H :: [g])) _
          refine Ent.trans (H' := lpk ll σ .ready none :: dfk D :: g :: saL b4 b5 bh false a c rs oa oc os [.star H]) (by exact entq) ?_
          exact Ent.head (Ent.head (Ent.head (Ent.head (Ent.head (Ent.head (Ent.head (Ent.head st_one)))))))
        · refine ⟨_, ⟨.done, some .ret, _, (fun e => by cases e), rfl, a, c, rs, false, hrs, .inr ⟨rfl, rfl, hm⟩, rfl⟩, ?_⟩
          refine Ent.trans (Ent.perm (.swap _ _ _)) ?_
          refine Ent.trans (st_app (A := lpk ll σ .done (some .ret) :: dfk D :: saL b4 b5 bh false a c rs oa oc os []) (B := H)) ?_
          show Ent (lpk ll σ .done (some .ret) :: dfk D :: saL b4 b5 bh false a c rs oa oc os (.star H :: [g])) _
          refine Ent.trans (H' := lpk ll σ .done (some .ret) :: dfk D :: g :: saL b4 b5 bh false a c rs oa oc os [.star H]) (by exact entq) ?_
          exact Ent.head (Ent.head (Ent.head (Ent.head (Ent.head (Ent.head (Ent.head (Ent.head st_one)))))))
    · refine Ent.cons (by exact rm) ?_
      refine Ent.trans ?_ (st_app' (A := lpk ll σ .ready none :: dfk D :: saL b4 b5 bh false oa oc os oa oc os []) (B := H))
      refine st_tail (B := lpk ll σ .ready none :: dfk D :: saL b4 b5 bh false oa oc os oa oc os []) ?_
      show Ent _ (lpk ll σ .ready none :: dfk D :: saL b4 b5 bh false oa oc os oa oc os H)
      exact ent
  · rintro ll D K2 ⟨a, c, rs, t, hrs, hg, rfl⟩
    rcases hg with ⟨_, hg1, hg2⟩ | ⟨hg, _⟩
    · refine sx ?_
      refine s_callV rfl (FnV.rm (by exact rm) (hok_s (es := rs))) ?_
      refine sx ?_
      have hdec : Value.bool (!decide (0 < (rs.length : Int))) = .bool (decide (La = Lb)) := by
        have hz : (rs.length = 0) ↔ (La = Lb) := by
          have h := congrArg List.length hg2
          simp only [List.length_map, List.length_drop] at h
          constructor
          · intro h0
            rw [hg1, List.take_of_length_le (by omega)]
          · rintro rfl
            omega
        congr 1
        by_cases q : La = Lb
        · rw [decide_eq_true q, decide_eq_false (p := 0 < (rs.length : Int)) (by have := hz.2 q; omega)]
          rfl
        · rw [decide_eq_false q, decide_eq_true (p := 0 < (rs.length : Int)) (by have : ¬ rs.length = 0 := fun h => q (hz.1 h); omega)]
          rfl
      refine s_mEndD (by exact rm) (resMC (v := .bool !decide (0 < (rs.length : Int))) rfl rfl (by exact at_)) ⟨hdec, rfl⟩ ?_ (.inl rfl)
      exact Ent.cons (by exact rm) (by exact ent)
    · cases hg
  · rintro ll D cd K2 ⟨a, c, rs, t, hrs, hg, rfl⟩
    rcases hg with ⟨hg, _⟩ | ⟨hg, rfl, hm⟩
    · cases hg
    obtain rfl := Option.some.inj hg
    refine sx ?_
    refine s_mEndD (by exact rm) (resMC (v := .bool false) rfl rfl (by exact at_)) ⟨by rw [decide_eq_false hm], rfl⟩ ?_ (.inl rfl)
    exact Ent.cons (by exact rm) (by exact ent)
end Go.Sx

