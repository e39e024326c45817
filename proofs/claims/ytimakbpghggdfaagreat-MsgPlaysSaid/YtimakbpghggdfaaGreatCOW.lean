/- Part of a proof: Cover, by the program: what comes out is one's own, range by range. -/
import Derived.Test.YtimakbpghggdfaaGreatCOCj
import Derived.Test.YtimakbpghggdfaaGreatCKB
namespace Go.Sx
open Go Go.Proofs
set_option maxRecDepth 10000
variable {w0 : World} {H : List Ck}
@[reducible] def oRs (r : Rg) : List Ck := [ob r.la r.lc r.lo, ob r.ha r.hc r.hi]
theorem RRg.st {r : Rg} {F : List Rg} (h : r ∈ F) : RRg w0 (stars oRs F :: H) r :=
  RRg.ent (H' := oRs r) ⟨RBy.hd, RBy.hd.tl⟩ (stars_mem h)
/-- No key of it is longer. -/
abbrev QK (k : Nat) (d : T3) : Prop := d.1.length ≤ k ∧ d.2.1.length ≤ k
theorem qk_cv {k : Nat} : ∀ (rs out : List T3), (∀ o ∈ out, QK k o) → (∀ r ∈ rs, QK k r) → ∀ o ∈ rs.foldl cvP out, QK k o
  | [], _, ho, _ => ho
  | r :: rs, out, ho, hr => by
    have h1 := hr r (by simp)
    refine qk_cv rs (cvP out r) (fun o h => ?_) (fun q h => hr q (by simp [h]))
    unfold cvP at h
    have ap : ∀ o ∈ out ++ [r], QK k o := fun o h => by
      rcases List.mem_append.1 h with h | h
      · exact ho o h
      · rw [List.mem_singleton.1 h]; exact h1
    split at h
    · exact ap o h
    · rename_i l hl
      split at h
      · exact ap o h
      split at h
      · rcases List.mem_append.1 h with h | h
        · exact ho o (List.dropLast_subset _ h)
        · rw [List.mem_singleton.1 h]
          exact ⟨(ho l (List.mem_of_getLast? hl)).1, h1.2⟩
      · exact ho o h
theorem qk_fo {k : Nat} {d : T3} (h : QK k d) : QK k (foR d) := by
  unfold foR
  split
  · exact ⟨Nat.zero_le _, Nat.zero_le _⟩
  split
  · exact ⟨h.1, Nat.zero_le _⟩
  · exact h
structure CwI where
  j : Nat
  a : Option Addr
  c : Nat
  out : List Rg
set_option maxHeartbeats 1000000 in
theorem pcoverO_s {rs : List Rg} {a : Option Addr} {c : Nat} (hx : RSl w0 H a c rs) (hn : rs.length ≤ 1099511627776) (hr : ∀ r ∈ rs, RRg w0 H r) (hb : ∀ r ∈ rs, Lr r) :
    FnS Tryz.prog w0 H 48 #[.slice a rs.length c] (fun v H' => ∃ a' c' os, v = .slice a' (os : List Rg).length c' ∧ H' = ol 53 a' c' os :: stars oRs os :: H ∧ os.length ≤ rs.length ∧ IsCv (rs.map Rg.d) (os.map Rg.d) ∧ ∀ k, (∀ r ∈ rs, QK k r.d) → ∀ o ∈ os, QK k o.d) := by
  refine fns_enter Tryz.func48 rfl rfl rfl ?_
  refine sx ?_
  refine s_loop (fun m : CwI => [(3, .slice m.a m.out.length m.c), (10, .slice a rs.length c), (11, .int .i64 rs.length), (12, .int .i64 m.j)]) (fun m => ol 53 m.a m.c m.out :: stars oRs m.out :: H)
    (fun m => m.j ≤ rs.length ∧ m.out.length ≤ m.j ∧ m.out.map Rg.d = ((rs.take m.j).filter fun r => !emR r.d).map (fun r => foR r.d)) (fun m => rs.length - m.j) ⟨0, none, 0, []⟩ ⟨Nat.zero_le _, Nat.zero_le _, rfl⟩ ?_ (he := Ent.trans stars_nil Ent.nilS)
  rintro ⟨j, a3, c3, out⟩ ⟨hj, hol, hod⟩
  simp only at hj hol hod ⊢
  refine sx ?_
  refine s_if rfl (fun t1 => ?_) (fun t1 => ?_)
  · obtain ⟨r, hri⟩ := get_lt rs j (by omega)
    have hrm := List.mem_of_getElem? hri
    have rr := ((hr r hrm).tl (d := stars oRs out)).tl (d := ol 53 a3 c3 out)
    have hx1 := (hx.tl (d := stars oRs out)).tl (d := ol 53 a3 c3 out)
    refine sx ?_
    refine s_alloc fun b5 => ?_
    refine sx ?_
    refine s_callV rfl (oempty_s (r := r) (by exact rrg)) ?_
    refine sx ?_
    refine s_cond rfl (fun t2 => ?_) (fun t2 => ?_)
    · refine sx ?_
      refine s_call rfl (oform_s (r := r) (by exact rrg) (hb _ hrm)) ?_
      rintro _ _ ⟨x, rfl, hx, rfl⟩
      refine ⟨chk_seq, ?_⟩
      refine sx ?_
      refine s_bsl [x] rfl rfl fun b1 => ?_
      refine sx ?_
      refine s_app ?_
      intro a4 c4
      refine sx ?_
      refine s_again ⟨j + 1, a4, c4, out ++ [x]⟩ ⟨by simp only; omega, by simp only [List.length_append, List.length_cons, List.length_nil]; omega, ?_⟩ (by simp only; omega) (he := ?_)
      · simp only
        rw [snocT hri, List.filter_append, List.map_append, List.map_append, hod, List.filter_cons, if_pos t2, List.filter_nil, List.map_cons, List.map_nil, List.map_cons, List.map_nil, hx]
      · refine Ent.cons (by exact rm) ?_
        refine Ent.trans (H' := oR x :: stars oRs out :: H) (by exact ent) ?_
        exact Ent.trans (Ent.open Ent.refl) (stars_snoc (f := oRs) (s := x))
    · refine sx ?_
      refine s_again ⟨j + 1, a3, c3, out⟩ ⟨by simp only; omega, by simp only; omega, ?_⟩ (by simp only; omega)
      simp only
      rw [snocT hri, List.filter_append, List.map_append, ← hod, List.filter_cons, if_neg (by rw [t2]; simp), List.filter_nil, List.map_nil, List.append_nil]
  obtain rfl : j = rs.length := by omega
  rw [List.take_length] at hod
  refine sx ?_
  have hsr : ∀ r ∈ out, RBy w0 (stars oRs out :: H) r.la r.lc r.lo := fun r h => (RRg.st h).lo
  refine s_call rfl (sort_s (by omega) hsr) ?_
  rintro _ _ ⟨rfl, srt, hp, hs, rfl⟩
  refine ⟨chk_seq, ?_⟩
  have hcv := perm_cv hod hp hs
  have hsl := hp.length_eq
  rw [hsl]
  refine s_entL (ol 53 a3 c3 srt :: stars oRs srt :: H) (Ent.head (stars_perm hp)) ?_
  refine sx ?_
  refine s_loop (fun m : CwI => [(6, .slice m.a m.out.length m.c), (27, .slice a3 srt.length c3), (28, .int .i64 srt.length), (29, .int .i64 m.j)]) (fun m => ol 53 m.a m.c m.out :: ol 53 a3 c3 srt :: stars oRs m.out :: stars oRs (srt.drop m.j) :: H)
    (fun m => m.j ≤ srt.length ∧ m.out.length ≤ m.j ∧ m.out.map Rg.d = ((srt.take m.j).map Rg.d).foldl cvP []) (fun m => srt.length - m.j) ⟨0, none, 0, []⟩ ⟨Nat.zero_le _, Nat.zero_le _, rfl⟩ ?_ (he := Ent.nilS.trans (Ent.head (Ent.head stars_nil)))
  rintro ⟨j, a4, c4, on⟩ ⟨hj', hol', hod'⟩
  simp only at hj' hol' hod' ⊢
  refine sx ?_
  refine s_if rfl (fun t3 => ?_) (fun t3 => ?_)
  · obtain ⟨⟨rla, rlc, rlo, rha, rhc, rhi, ral⟩, hrj⟩ := get_lt srt j (by omega)
    have hdr := dropG hrj
    have hstep : ((srt.take (j + 1)).map Rg.d).foldl cvP [] = cvP (on.map Rg.d) (rlo, rhi, ral) := by
      rw [snocT hrj, List.map_append, List.foldl_append, ← hod']
      rfl
    refine s_ent (ol 53 a4 c4 on :: ol 53 a3 c3 srt :: ob rla rlc rlo :: ob rha rhc rhi :: stars oRs on :: stars oRs (srt.drop (j + 1)) :: H) (by
      rw [hdr]
      refine Ent.head (Ent.head ?_)
      refine Ent.trans (Ent.perm (.swap _ _ _)) ?_
      exact Ent.trans (H' := ob rla rlc rlo :: ob rha rhc rhi :: stars oRs (srt.drop (j + 1)) :: stars oRs on :: H) (stars_cons (f := oRs)) (by exact entq)) ?_
    have rr : RRg w0 (ol 53 a4 c4 on :: ol 53 a3 c3 srt :: ob rla rlc rlo :: ob rha rhc rhi :: stars oRs on :: stars oRs (srt.drop (j + 1)) :: H) ⟨rla, rlc, rlo, rha, rhc, rhi, ral⟩ := ⟨RBy.hd.tl.tl, RBy.hd.tl.tl.tl⟩
    have hx2 : RSl w0 (ol 53 a4 c4 on :: ol 53 a3 c3 srt :: ob rla rlc rlo :: ob rha rhc rhi :: stars oRs on :: stars oRs (srt.drop (j + 1)) :: H) a3 c3 srt := RSl.hd.tl
    refine sx ?_
    refine s_alloc fun b8 => ?_
    refine sx ?_
    have hsn : ∀ {a5 : Option Addr} {c5 : Nat}, Ent (ol 53 a5 c5 (on ++ [⟨rla, rlc, rlo, rha, rhc, rhi, ral⟩]) :: ol 53 a3 c3 srt :: ob rla rlc rlo :: ob rha rhc rhi :: stars oRs on :: stars oRs (srt.drop (j + 1)) :: H) (ol 53 a5 c5 (on ++ [⟨rla, rlc, rlo, rha, rhc, rhi, ral⟩]) :: ol 53 a3 c3 srt :: stars oRs (on ++ [⟨rla, rlc, rlo, rha, rhc, rhi, ral⟩]) :: stars oRs (srt.drop (j + 1)) :: H) := fun {a5 c5} => Ent.head (Ent.head (stars_snoc (f := oRs) (s := ⟨rla, rlc, rlo, rha, rhc, rhi, ral⟩)))
    by_cases h0 : on = []
    · subst h0
      refine s_rwC (t := 9) (v' := .int .i64 (-1)) rfl (by simp) ?_
      refine sx ?_; refine s_dr (.one true 0 (.one true 1 (.one true 2 (.one true 3 (.one true 4 (.one true 5 (.one true 6 (.one true 7 (.one true 8 (.one true 9 (.one true 10 (.one true 11 (.one true 12 (.one true 13 (.one true 14 (.one true 15 (.one true 16 (.one false 17 (.one true 18 (.one true 19 (.one true 20 .nil))))))))))))))))))))) mixed (by kernel_rfl) ?_; refine sx ?_
      refine sx ?_
      refine s_bsl [(⟨rla, rlc, rlo, rha, rhc, rhi, ral⟩ : Rg)] rfl rfl fun b1 => ?_
      refine sx ?_
      refine s_app ?_
      intro a5 c5
      refine sx ?_
      refine s_again ⟨j + 1, a5, c5, [] ++ [⟨rla, rlc, rlo, rha, rhc, rhi, ral⟩]⟩ ⟨by simp only; omega, by simp only [List.length_append, List.length_cons, List.length_nil]; omega, ?_⟩ (by simp only; omega) (he := Ent.trans (by exact entq) hsn)
      simp only
      rw [hstep, List.map_nil, cvP_nil]
      rfl
    · have hpos : 0 < on.length := List.length_pos_iff.2 h0
      obtain ⟨⟨lla, llc, llo, lha, lhc, lhi, lal⟩, hl⟩ := get_lt on (on.length - 1) (by omega)
      have rl : RRg w0 (ol 53 a4 c4 on :: ol 53 a3 c3 srt :: ob rla rlc rlo :: ob rha rhc rhi :: stars oRs on :: stars oRs (srt.drop (j + 1)) :: H) ⟨lla, llc, llo, lha, lhc, lhi, lal⟩ := (RRg.st (List.mem_of_getElem? hl)).tl.tl.tl.tl
      refine s_kn (φ := ∃ ad, a4 = some ad) (fun w hw => own_gA (c := c4) (Sat.ownOf (c' := ol 53 a4 c4 on) (.tl .hd) hw) (by omega)) ?_
      rintro ⟨ad, rfl⟩
      refine s_rwC (t := 9) (v' := .int .i64 ((on.length - 1 : Nat) : Int)) rfl (ci (by omega)) ?_
      generalize hk : on.length - 1 = k at hl
      cases lal
      · refine sx ?_; refine s_dr (.one true 0 (.one true 1 (.one true 2 (.one true 3 (.one true 4 (.one true 5 (.one true 6 (.one true 7 (.one true 8 (.one true 9 (.one true 10 (.one true 11 (.one true 12 (.one true 13 (.one true 14 (.one true 15 (.one true 16 (.one false 17 (.one true 18 (.one true 19 (.one true 20 .nil))))))))))))))))))))) mixed (by kernel_rfl) ?_; refine sx ?_
        refine s_callV rfl (compare_s (xs := lhi) (ys := rlo) rl.hi.tl rr.lo.tl) ?_
        refine sx ?_
        refine s_if rfl (fun t5 => ?_) (fun t5 => ?_)
        · refine sx ?_
          refine s_bsl [(⟨rla, rlc, rlo, rha, rhc, rhi, ral⟩ : Rg)] rfl rfl fun b1 => ?_
          refine sx ?_
          refine s_app ?_
          intro a5 c5
          refine sx ?_
          refine s_again ⟨j + 1, a5, c5, on ++ [⟨rla, rlc, rlo, rha, rhc, rhi, ral⟩]⟩ ⟨by simp only; omega, by simp only [List.length_append, List.length_cons, List.length_nil]; omega, ?_⟩ (by simp only; omega) (he := Ent.trans (by exact entq) hsn)
          simp only
          rw [hstep, cvP_far (l := ⟨lla, llc, llo, lha, lhc, lhi, false⟩) (by rw [hk]; exact hl) rfl t5, List.map_append]
          rfl
        · refine sx ?_
          refine sx ?_; refine s_dr (.one true 0 (.one true 1 (.one true 2 (.one true 3 (.one true 4 (.one false 5 .nil)))))) mixed (by kernel_rfl) ?_; refine sx ?_
          refine s_callV rfl (obelow_s (r := ⟨lla, llc, llo, lha, lhc, lhi, false⟩) (q := ⟨rla, rlc, rlo, rha, rhc, rhi, ral⟩) (by exact rrg) (by exact rrg)) ?_
          refine sx ?_
          refine s_cond rfl (fun t6 => ?_) (fun t6 => ?_)
          · refine sx ?_
            refine sx ?_; refine s_drR (ol 53 (some ad) c4 on) (by exact rm) (.one true 0 (.one true 1 (.one true 2 (.one true 3 (.one true 4 (.one true 5 (.one true 6 (.one true 7 (.one true 8 (.one true 9 (.one false 10 (.one true 11 (.one true 12 (.one false 13 .nil)))))))))))))) mixed (by kernel_rfl) ?_; refine sx ?_
            refine s_setF (o := 1) (i := k) (x0 := (⟨lla, llc, llo, lha, lhc, lhi, false⟩ : Rg)) (y := (⟨lla, llc, llo, rha, rhc, rhi, false⟩ : Rg)) rfl rfl (by exact at_) hl rfl (by omega) rfl ?_
            refine sx ?_
            have hkl : k < on.length := by omega
            refine s_setF (o := 2) (i := k) (x0 := (⟨lla, llc, llo, rha, rhc, rhi, false⟩ : Rg)) (y := (⟨lla, llc, llo, rha, rhc, rhi, ral⟩ : Rg)) rfl rfl (by exact at_) (by rw [List.getElem?_set_self hkl]) rfl (by omega) rfl ?_
            refine sx ?_
            rw [List.set_set]
            refine s_rwQ (t := 6) (v' := .slice (some ad) (on.set k ⟨lla, llc, llo, rha, rhc, rhi, ral⟩).length c4) rfl (by rw [List.length_set]) ?_
            refine s_again ⟨j + 1, some ad, c4, on.set k ⟨lla, llc, llo, rha, rhc, rhi, ral⟩⟩ ⟨by simp only; omega, by simp only [List.length_set]; omega, ?_⟩ (by simp only; omega) (he := ?_)
            · simp only
              rw [hstep, cvP_near (l := ⟨lla, llc, llo, lha, lhc, lhi, false⟩) (y := ⟨lla, llc, llo, rha, rhc, rhi, ral⟩) (by rw [hk]; exact hl) (fun h => t5 h.2) t6 rfl, hk]
            · simp only
              refine Ent.cons (by exact rm) (Ent.cons (by exact rm) ?_)
              refine Ent.trans (H' := stars oRs on :: ob rha rhc rhi :: stars oRs (srt.drop (j + 1)) :: H) (by exact entq) ?_
              refine Ent.trans (H' := ob lla llc llo :: ob lha lhc lhi :: stars oRs (on.eraseIdx k) :: ob rha rhc rhi :: stars oRs (srt.drop (j + 1)) :: H) (stars_get (f := oRs) hl) ?_
              refine Ent.trans (H' := ob lla llc llo :: ob rha rhc rhi :: stars oRs (on.eraseIdx k) :: stars oRs (srt.drop (j + 1)) :: H) (by exact entq) ?_
              exact stars_put (f := oRs) (s := ⟨lla, llc, llo, rha, rhc, rhi, ral⟩) hkl
          · refine sx ?_
            refine s_again ⟨j + 1, some ad, c4, on⟩ ⟨by simp only; omega, by simp only; omega, ?_⟩ (by simp only; omega) (he := by exact entq)
            simp only
            rw [hstep, cvP_in (l := ⟨lla, llc, llo, lha, lhc, lhi, false⟩) (by rw [hk]; exact hl) (fun h => t5 h.2) (by rw [t6]; simp)]
      · refine sx ?_; refine s_dr (.one true 0 (.one true 1 (.one true 2 (.one true 3 (.one true 4 (.one true 5 (.one true 6 (.one true 7 (.one true 8 (.one true 9 (.one true 10 (.one true 11 (.one true 12 (.one true 13 (.one true 14 (.one true 15 (.one true 16 (.one false 17 (.one true 18 (.one true 19 (.one true 20 .nil))))))))))))))))))))) mixed (by kernel_rfl) ?_; refine sx ?_
        refine sx ?_
        refine sx ?_; refine s_dr (.one true 0 (.one true 1 (.one true 2 (.one true 3 (.one true 4 (.one false 5 .nil)))))) mixed (by kernel_rfl) ?_; refine sx ?_
        refine s_callV rfl (obelow_s (r := ⟨lla, llc, llo, lha, lhc, lhi, true⟩) (q := ⟨rla, rlc, rlo, rha, rhc, rhi, ral⟩) (by exact rrg) (by exact rrg)) ?_
        refine sx ?_
        have hb0 : beR (Rg.d ⟨lla, llc, llo, lha, lhc, lhi, true⟩) (Rg.d ⟨rla, rlc, rlo, rha, rhc, rhi, ral⟩) = false := Bool.eq_false_iff.2 fun h => by
          have := (beR_iff.1 h).1
          cases this
        refine s_again ⟨j + 1, some ad, c4, on⟩ ⟨by simp only; omega, by simp only; omega, ?_⟩ (by simp only; omega) (he := by exact entq)
        simp only
        rw [hstep, cvP_in (l := ⟨lla, llc, llo, lha, lhc, lhi, true⟩) (by rw [hk]; exact hl) (fun h => by cases h.1) (fun h => by
          have h : beR (Rg.d ⟨lla, llc, llo, lha, lhc, lhi, true⟩) (Rg.d ⟨rla, rlc, rlo, rha, rhc, rhi, ral⟩) = true := h
          rw [hb0] at h
          cases h)]
  · obtain rfl : j = srt.length := by omega
    rw [List.take_length] at hod'
    refine sx ?_
    refine s_ret1 rfl rfl ⟨a4, c4, on, rfl, rfl, by omega, by rw [hod']; exact hcv, fun k hk o ho => ?_⟩ (by exact entq)
    have h1 : o.d ∈ (srt.map Rg.d).foldl cvP [] := by rw [← hod']; exact List.mem_map.2 ⟨o, ho, rfl⟩
    refine qk_cv _ _ (fun o h => by cases h) (fun r hr => ?_) _ h1
    obtain ⟨x, hx, rfl⟩ := List.mem_map.1 hr
    have h2 : x.d ∈ out.map Rg.d := List.mem_map.2 ⟨x, hp.mem_iff.2 hx, rfl⟩
    rw [hod] at h2
    obtain ⟨y, hy, e⟩ := List.mem_map.1 h2
    rw [← e]
    exact qk_fo (hk y (List.mem_filter.1 hy).1)
end Go.Sx

