/- Part of a proof: Within tells. -/
import Derived.Test.YtpnhoafmlhlfgaaGreatCMVj
import Derived.Test.YtpnhoafmlhlfgaaGreatCMK
namespace Go.Sx
open Go Go.Proofs
set_option maxRecDepth 10000
variable {w0 : World} {H : List Ck}
def abvR (r : T3) (k : Bs) : Bool := !r.2.2 && decide (0 ≤ cmp k r.2.1)
def inT (r : T3) : List Pp → List Pp
  | [] => []
  | p :: l => if abvR r p.1 = true then [] else if 0 ≤ cmp p.1 r.1 then p :: inT r l else inT r l
def inL (r : T3) (l : List Pp) : List Pp := if emR r = true then [] else inT r l
@[reducible] def wnG (b2 b3 : Nat) (v : Value) (r : Rg) (g : Ck) : Ck := .star [.hb b2 40 [v], .hb b3 57 r.cells, oR r, g]
@[reducible] def wnS (b2 b3 b4 ll : Nat) (v : Value) (r : Rg) (K R : List Ck) : List Ck := .star K :: .hb b4 78 [yv ll] :: .hb b2 40 [v] :: .hb b3 57 r.cells :: oR r :: R
set_option maxHeartbeats 4000000 in
theorem within_tell {b2 b3 : Nat} {r : Rg} {v : Value} {o : Bool} {g : Ck} {gm : Nat → Ck} {L0 : List Pp} (hT : TvS Tryz.prog w0 o g gm g g v L0) (hsm : SmL L0) :
    TellS Tryz.prog w0 true (wnG b2 b3 v r g) (fun u => wnG b2 b3 v r (gm u)) (wnG b2 b3 v r g) (wnG b2 b3 v r g) 48 [.pointer (some ⟨b3, 0, none⟩), .pointer (some ⟨b2, 0, none⟩)] (inL r.d L0) := by
  intro ll φ fin hy K h0
  obtain ⟨L, hLd⟩ : ∃ L, L = inL r.d L0 := ⟨_, rfl⟩
  rw [← hLd] at hy ⊢
  refine FnS.ent (H' := .hb b2 40 [v] :: .hb b3 57 r.cells :: oR r :: g :: [.star K]) ?_ (Ent.open Ent.refl)
  have hrr : ∀ {B : List Ck}, RRg w0 (oR r :: B) r := RRg.oR
  refine fns_enterM Tryz.func48 rfl rfl rfl ?_
  refine sx ?_
  refine s_box1 rfl rfl fun b4 => ?_
  refine sx ?_
  refine s_callV rfl (oempty_s (r := r) (by exact rrg)) ?_
  refine sx ?_
  refine s_cond rfl (fun t1 => ?_) (fun t1 => ?_)
  · refine sx ?_
    refine s_mEnd (resM0 rfl) ⟨rfl, K, .inl ⟨?_, rfl⟩⟩ ?_ (.inl rfl)
    rotate_left
    · rw [hLd, inL, if_pos t1]
      exact h0
    · exact Ent.star (L := [.hb b2 40 [v], .hb b3 57 r.cells, oR r, g]) (by exact ent)
  have hLT : L = inT r.d L0 := by rw [hLd, inL, if_neg (by simp [t1])]
  refine sx ?_
  refine s_call rfl (of_s hT) ?_
  rintro _ _ ⟨⟨k, cap, rfl, hk, ht⟩, rfl⟩
  refine ⟨chk_seq, ?_⟩
  haveI := hk
  refine s_entL (wnS b2 b3 b4 ll v r K [g]) (by exact ent) ?_
  refine sx ?_
  refine s_rangeF (cap := cap) (ps := [10, 11]) rfl (fun ll2 D pd K' => (pd = none ∧ ∃ K1, φ L.length K1 ∧ K' = dfk D :: wnS b2 b3 b4 ll v r K1 [g]) ∨ (pd = some .ret ∧ ∃ K1, (φ L.length K1 ∨ fin K1) ∧ K' = dfk D :: wnS b2 b3 b4 ll v r K1 [g])) ?_ ?_ ?_
  · intro ll2 D σ hσ
    refine FnS.ent (H' := [g, .star (lpk ll2 σ .ready none :: dfk D :: wnS b2 b3 b4 ll v r K [])]) ?_ ?_
    · refine FnS.post (ht ll2 (fun i Kin => ∃ K1 j, φ j K1 ∧ j ≤ L.length ∧ L.drop j = inT r.d (L0.drop i) ∧ Kin = lpk ll2 σ .ready none :: dfk D :: wnS b2 b3 b4 ll v r K1 [])
        (fun Kin => ∃ K1, (φ L.length K1 ∨ fin K1) ∧ Kin = lpk ll2 σ .done (some .ret) :: dfk D :: wnS b2 b3 b4 ll v r K1 []) ?_ _ ⟨K, 0, h0, Nat.zero_le _, by rw [List.drop_zero, List.drop_zero]; exact hLT, rfl⟩) ?_
      · rintro i x u Kc T E hx ⟨K1, j, hφ, hj, hL, rfl⟩ hT hr
        obtain ⟨y1, y2⟩ := hsm _ (List.mem_of_getElem? hx)
        replace y1 : x.k.length ≤ 140737488355328 := y1
        replace y2 : x.v.length ≤ 140737488355328 := y2
        have h1 : RBy w0 (.star T :: gm u :: E) x.ka x.kc x.k := hr.k.ent (Ent.head (Ent.tl Ent.refl))
        have h2 : RBy w0 (.star T :: gm u :: E) x.va x.vc x.v := hr.v.ent (Ent.head (Ent.tl Ent.refl))
        rw [dropG hx] at hL
        have hlo : ∀ {B : List Ck}, RBy w0 (oR r :: B) r.la r.lc r.lo := RRg.oR.lo
        have hhi : ∀ {B : List Ck}, RBy w0 (oR r :: B) r.ha r.hc r.hi := RRg.oR.hi
        refine YldS.ent (H' := lpk ll2 σ .ready none :: dfk D :: wnS b2 b3 b4 ll v r K1 (.star T :: gm u :: E)) ?_ ?_
        · refine yld_of (args := [_, _]) hσ (by exact rm) rfl rfl ?_
          refine sx ?_
          refine s_beg (by exact rm) ?_
          refine sx ?_
          by_cases hab : abvR r.d x.k = true
          · have hal : r.all = false ∧ 0 ≤ cmp x.k r.hi := by
              unfold abvR at hab
              simpa using hab
            refine s_rw (t := 15) (v' := .bool true) rfl (by rw [hal.1]; rfl) ?_
            refine sx ?_
            refine s_callV rfl (compare_s (xs := x.k) (ys := r.hi) (by exact rby) (by first | exact hhi | exact hhi.tl | exact hhi.tl.tl | exact hhi.tl.tl.tl | exact hhi.tl.tl.tl.tl | exact hhi.tl.tl.tl.tl.tl | exact hhi.tl.tl.tl.tl.tl.tl)) ?_
            refine sx ?_
            refine s_if rfl (fun _ => ?_) (fun t => absurd hal.2 t)
            refine sx ?_
            refine s_rndR (by exact rm) ⟨_, .inr ⟨rfl, K1, .inl ?_, rfl⟩, rfl⟩ ?_
            · rw [inT, if_pos (show abvR r.d x.p.1 = true from hab)] at hL
              have : L.length ≤ j := List.drop_eq_nil_iff.1 hL
              rw [show L.length = j by omega]
              exact hφ
            · refine Ent.star (L := lpk ll2 σ .done (some .ret) :: dfk D :: wnS b2 b3 b4 ll v r K1 []) ?_
              show Ent _ (lpk ll2 σ .done (some .ret) :: dfk D :: wnS b2 b3 b4 ll v r K1 (gm u :: E))
              exact ent
          · have stp : StopAt 6 := trivial
            apply s_joinU
            · intro kk
              rcases hal : r.all with _ | _
              rotate_left
              · refine s_rw (t := 15) (v' := .bool false) rfl (by first | rfl | (rw [hal]; rfl)) ?_
                refine sxs ?_
                refine s_sub (l' := [(1, .pointer (some ⟨b3, 0, none⟩)), (3, .pointer (some ⟨b4, 0, none⟩)), (4, .slice x.ka x.k.length x.kc), (5, .slice x.va x.v.length x.vc)]) ?_ (by repeat (first | exact trivial | refine And.intro (by first | exact rfl | exact congrArg some (ci (by omega))) ?_))
                exact kk.out
              · have hlt : ¬ 0 ≤ cmp x.k r.hi := fun g => hab (by unfold abvR; simp [hal, g])
                refine s_rw (t := 15) (v' := .bool true) rfl (by first | rfl | (rw [hal]; rfl)) ?_
                refine sxs ?_
                refine s_callV rfl (compare_s (xs := x.k) (ys := r.hi) (by exact rby) (by first | exact hhi | exact hhi.tl | exact hhi.tl.tl | exact hhi.tl.tl.tl | exact hhi.tl.tl.tl.tl | exact hhi.tl.tl.tl.tl.tl | exact hhi.tl.tl.tl.tl.tl.tl)) ?_
                refine sxs ?_
                refine s_if rfl (fun t => absurd t hlt) (fun _ => ?_)
                refine sxs ?_
                refine s_sub (l' := [(1, .pointer (some ⟨b3, 0, none⟩)), (3, .pointer (some ⟨b4, 0, none⟩)), (4, .slice x.ka x.k.length x.kc), (5, .slice x.va x.v.length x.vc)]) ?_ (by repeat (first | exact trivial | refine And.intro (by first | exact rfl | exact congrArg some (ci (by omega))) ?_))
                exact kk.out
            clear stp
            rw [inT, if_neg (show ¬ abvR r.d x.p.1 = true from hab)] at hL
            refine sx ?_
            refine s_drH [.hb b3 57 r.cells, .hb b4 78 [yv ll]] (.one true 0 (.one true 1 (.one true 2 (.one false 3 (.one true 4 (.one true 5 (.one true 6 (.one true 7 (.one true 9 (.one false 8 (.one false 10 (.one false 11 (.one true 12 (.one true 13 .nil)))))))))))))) mixed (by kernel_rfl) ?_ (he := by exact ent)
            refine sx ?_
            refine s_callV rfl (compare_s (xs := x.k) (ys := r.lo) (by exact rby) (by first | exact hlo | exact hlo.tl | exact hlo.tl.tl | exact hlo.tl.tl.tl | exact hlo.tl.tl.tl.tl | exact hlo.tl.tl.tl.tl.tl | exact hlo.tl.tl.tl.tl.tl.tl)) ?_
            by_cases hlw : 0 ≤ cmp x.k r.lo
            · rw [if_pos (show 0 ≤ cmp x.p.1 r.d.1 from hlw)] at hL
              have hLj : L[j]? = some x.p := by
                have h := List.getElem?_drop (xs := L) (i := j) (j := 0)
                rw [hL] at h
                simpa using h.symm
              have hjl := (List.getElem?_eq_some_iff.1 hLj).1
              have hL3 : L.drop (j + 1) = inT r.d (L0.drop (i + 1)) := by
                rw [← List.drop_drop, hL]
                rfl
              refine sx ?_
              refine s_rw (t := 27) (v' := .bool true) rfl (congrArg Value.bool (decide_eq_true hlw)) ?_
              refine sx ?_
              refine s_call rfl (copied_s (xs := x.k) (by exact rby) y1) ?_
              rintro _ _ ⟨k1, rfl, rfl⟩
              refine ⟨chk_held (by exact ent), ?_⟩
              refine sx ?_
              refine s_call rfl (copied_s (xs := x.v) (by exact rby) y2) ?_
              rintro _ _ ⟨v1, rfl, rfl⟩
              refine ⟨chk_held (by exact ent), ?_⟩
              refine sx ?_
              refine s_yld rfl rfl ((hy _ ⟨k1, x.k.length, x.k, v1, x.v.length, x.v⟩ u K1 _ (lpk ll2 σ .busy none :: dfk D :: .hb b4 78 [yv ll] :: .star T :: E) hLj hφ (fun _ => rfl) REe.of).ent ?_) ?_
              · refine ent_oKVs (by exact rm) (by exact rm) ?_
                refine Ent.cons (by exact rm) ?_
                exact Ent.star (L := [.hb b2 40 [v], .hb b3 57 r.cells, oR r, gm u]) (by exact ent)
              rintro _ _ ⟨K3, hK3, rfl⟩
              have hop : Ent (.star K3 :: wnG b2 b3 v r (gm u) :: lpk ll2 σ .busy none :: dfk D :: .hb b4 78 [yv ll] :: .star T :: E) (lpk ll2 σ .busy none :: dfk D :: wnS b2 b3 b4 ll v r K3 (.star T :: gm u :: E)) := (Ent.head (Ent.open Ent.refl)).trans (by exact ent)
              refine ⟨chk_held (hop.trans (by exact ent)), ?_⟩
              refine s_entL _ hop ?_
              rcases hK3 with ⟨rfl, hK3⟩ | ⟨rfl, hK3⟩
              · refine sx ?_
                refine s_rnd (by exact rm) ⟨_, .inl ⟨rfl, K3, j + 1, hK3, by omega, hL3, rfl⟩, rfl⟩ ?_
                refine Ent.star (L := lpk ll2 σ .ready none :: dfk D :: wnS b2 b3 b4 ll v r K3 []) ?_
                show Ent _ (lpk ll2 σ .ready none :: dfk D :: wnS b2 b3 b4 ll v r K3 (gm u :: E))
                exact ent
              · refine sx ?_
                refine s_rndR (by exact rm) ⟨_, .inr ⟨rfl, K3, .inr hK3, rfl⟩, rfl⟩ ?_
                refine Ent.star (L := lpk ll2 σ .done (some .ret) :: dfk D :: wnS b2 b3 b4 ll v r K3 []) ?_
                show Ent _ (lpk ll2 σ .done (some .ret) :: dfk D :: wnS b2 b3 b4 ll v r K3 (gm u :: E))
                exact ent
            · rw [if_neg (show ¬ 0 ≤ cmp x.p.1 r.d.1 from hlw)] at hL
              refine sx ?_
              refine s_rw (t := 27) (v' := .bool false) rfl (congrArg Value.bool (decide_eq_false hlw)) ?_
              refine sx ?_
              refine s_rnd (by exact rm) ⟨_, .inl ⟨rfl, K1, j, hφ, hj, hL, rfl⟩, rfl⟩ ?_
              refine Ent.star (L := lpk ll2 σ .ready none :: dfk D :: wnS b2 b3 b4 ll v r K1 []) ?_
              show Ent _ (lpk ll2 σ .ready none :: dfk D :: wnS b2 b3 b4 ll v r K1 (gm u :: E))
              exact ent
        · exact Ent.trans st_sw (Ent.open (L := lpk ll2 σ .ready none :: dfk D :: wnS b2 b3 b4 ll v r K1 []) Ent.refl)
      · rintro v' K' ⟨rfl, K2, ⟨⟨K1, j, hφ, hj, hL, rfl⟩, rfl⟩ | ⟨⟨K1, hf, rfl⟩, rfl⟩⟩
        · refine ⟨_, ⟨.ready, none, _, (fun e => by cases e), rfl, .inl ⟨rfl, K1, ?_, rfl⟩⟩, ?_⟩
          · rw [List.drop_length] at hL
            have : L.length ≤ j := List.drop_eq_nil_iff.1 hL
            rw [show L.length = j by omega]
            exact hφ
          · exact Ent.trans (Ent.perm (.swap _ _ _)) (Ent.open (L := lpk ll2 σ .ready none :: dfk D :: wnS b2 b3 b4 ll v r K1 []) Ent.refl)
        · refine ⟨_, ⟨.done, some .ret, _, (fun e => by cases e), rfl, .inr ⟨rfl, K1, hf, rfl⟩⟩, ?_⟩
          exact Ent.trans (Ent.perm (.swap _ _ _)) (Ent.open (L := lpk ll2 σ .done (some .ret) :: dfk D :: wnS b2 b3 b4 ll v r K1 []) Ent.refl)
    · refine Ent.cons (by exact rm) ?_
      refine Ent.star ?_
      show Ent _ (lpk ll2 σ .ready none :: dfk D :: wnS b2 b3 b4 ll v r K [])
      exact entq
  · rintro ll2 D K' (⟨_, K1, hφ, rfl⟩ | ⟨hpd, _⟩)
    · refine sx ?_
      refine s_mEndD (by exact rm) (resM0 rfl) ⟨rfl, K1, .inl ⟨hφ, rfl⟩⟩ ?_ (.inr rfl)
      exact Ent.star (L := [.hb b2 40 [v], .hb b3 57 r.cells, oR r, g]) (by exact ent)
    · cases hpd
  · rintro ll2 D cd K' (⟨hpd, _⟩ | ⟨hpd, K1, hf, rfl⟩)
    · cases hpd
    · obtain rfl := Option.some.inj hpd
      refine sx ?_
      refine s_mEndD (by exact rm) (resM0 rfl) ⟨rfl, K1, hf.imp (fun h => ⟨h, rfl⟩) (fun h => ⟨h, rfl⟩)⟩ ?_ (.inl rfl)
      exact Ent.star (L := [.hb b2 40 [v], .hb b3 57 r.cells, oR r, g]) (by exact ent)
end Go.Sx

