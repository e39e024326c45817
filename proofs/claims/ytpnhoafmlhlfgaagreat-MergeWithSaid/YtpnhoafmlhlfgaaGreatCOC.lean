/- Part of a proof: Cover, by the program, walked. -/
import Derived.Test.YtpnhoafmlhlfgaaGreatCQ6j
import Derived.Test.YtpnhoafmlhlfgaaGreatCOBj
import Derived.Test.YtpnhoafmlhlfgaaGreatCQCj
namespace Go.Sx
open Go Go.Proofs
set_option maxRecDepth 10000
variable {w0 : World} {H : List Ck}
theorem cvP_nil {r : T3} : cvP [] r = [r] := rfl
theorem cvP_far {out : List Rg} {l : Rg} {r : T3} (h : out[out.length - 1]? = some l) (h1 : l.all = false) (h2 : cmp l.hi r.1 < 0) : cvP (out.map Rg.d) r = out.map Rg.d ++ [r] := by
  simp only [cvP, map_getLast h]
  rw [if_pos ⟨h1, h2⟩]
theorem cvP_in {out : List Rg} {l : Rg} {r : T3} (h : out[out.length - 1]? = some l) (h1 : ¬ (l.all = false ∧ cmp l.hi r.1 < 0)) (h2 : ¬ beR l.d r = true) : cvP (out.map Rg.d) r = out.map Rg.d := by
  simp only [cvP, map_getLast h]
  rw [if_neg h1, if_neg h2]
theorem cvP_near {out : List Rg} {l : Rg} {r : T3} (h : out[out.length - 1]? = some l) (h1 : ¬ (l.all = false ∧ cmp l.hi r.1 < 0)) (h2 : beR l.d r = true) {y : Rg} (hy : y.d = (l.lo, r.2.1, r.2.2)) : cvP (out.map Rg.d) r = (out.set (out.length - 1) y).map Rg.d := by
  simp only [cvP, map_getLast h]
  rw [if_neg h1, if_pos h2, set_last (by have := (List.getElem?_eq_some_iff.1 h).1; omega), List.map_append, List.map_dropLast]
  simp only [List.map_cons, List.map_nil, hy]
theorem perm_cv {rs : List Rg} {ins srt : List Rg} (hi : ins.map Rg.d = (rs.filter fun r => !emR r.d).map fun r => foR r.d) (hp : ins.Perm srt) (hs : srt.Pairwise fun x y => cmp x.lo y.lo ≤ 0) : IsCv (rs.map Rg.d) ((srt.map Rg.d).foldl cvP []) := by
  refine cvP_is ?_ (List.pairwise_map.2 hs)
  refine (hp.symm.map Rg.d).trans ?_
  rw [hi, List.filter_map, List.map_map]
  exact .refl _
set_option maxHeartbeats 1000000 in
theorem pcover_s {rs : List Rg} {a : Option Addr} {c : Nat} (hx : RSl w0 H a c rs) (hn : rs.length ≤ 1099511627776) (hr : ∀ r ∈ rs, RRg w0 H r) (hb : ∀ r ∈ rs, Lr r) :
    FnS Tryz.prog w0 H 76 #[.slice a rs.length c] (fun v H' => ∃ a' c' os L, v = .slice a' (os : List Rg).length c' ∧ H' = .star L :: H ∧ os.length ≤ rs.length ∧ IsCv (rs.map Rg.d) (os.map Rg.d) ∧ (∀ H0, RSl w0 (.star L :: H0) a' c' os) ∧ ∀ o ∈ os, ∀ H0, RRg w0 (.star L :: H0) o) := by
  refine fns_enter Tryz.func76 rfl rfl rfl ?_
  refine sx ?_
  refine s_loop (fun m : CvI => [(3, .slice m.a m.out.length m.c), (10, .slice a rs.length c), (11, .int .i64 rs.length), (12, .int .i64 m.j)]) (fun m => ol 57 m.a m.c m.out :: fam 5 m.bs :: H)
    (fun m => m.j ≤ rs.length ∧ m.out.length ≤ m.j ∧ m.out.map Rg.d = ((rs.take m.j).filter fun r => !emR r.d).map (fun r => foR r.d) ∧ ∀ x ∈ m.out, GdR m.bs x) (fun m => rs.length - m.j) ⟨0, none, 0, [], []⟩ ⟨Nat.zero_le _, Nat.zero_le _, rfl, fun x h => by cases h⟩ ?_ (he := Ent.trans fam_nil Ent.nilS)
  rintro ⟨j, a3, c3, out, fs⟩ ⟨hj, hol, hod, hog⟩
  simp only at hj hol hod hog ⊢
  refine sx ?_
  refine s_if rfl (fun t1 => ?_) (fun t1 => ?_)
  · obtain ⟨r, hri⟩ := get_lt rs j (by omega)
    have hrm := List.mem_of_getElem? hri
    have rr := ((hr r hrm).tl (d := fam 5 fs)).tl (d := ol 57 a3 c3 out)
    have hx1 := (hx.tl (d := fam 5 fs)).tl (d := ol 57 a3 c3 out)
    refine sx ?_
    refine s_alloc fun b5 => ?_
    refine sx ?_
    refine s_callV rfl (oempty_s (r := r) (by exact rrg)) ?_
    refine sx ?_
    refine s_cond rfl (fun t2 => ?_) (fun t2 => ?_)
    · refine sx ?_
      refine s_call rfl (oform_s (r := r) (by exact rrg) (hb _ hrm)) ?_
      rintro _ _ ⟨x, rfl, hx, rfl⟩
      refine ⟨chk_seq, ?_⟩
      refine sx ?_
      refine s_bsl [x] rfl rfl fun b1 => ?_
      refine sx ?_
      refine s_app ?_
      intro a4 c4
      refine sx ?_
      refine s_again ⟨j + 1, a4, c4, out ++ [x], (fs ++ [(⟨x.la, x.lc, x.lo⟩ : SB)]) ++ [(⟨x.ha, x.hc, x.hi⟩ : SB)]⟩ ⟨by simp only; omega, by simp only [List.length_append, List.length_cons, List.length_nil]; omega, ?_, ?_⟩ (by simp only; omega) (he := ?_)
      · simp only
        rw [snocT hri, List.filter_append, List.map_append, List.map_append, hod, List.filter_cons, if_pos t2, List.filter_nil, List.map_cons, List.map_nil, List.map_cons, List.map_nil, hx]
      · intro y hy
        simp only at hy ⊢
        rcases List.mem_append.1 hy with h | h
        · exact (hog y h).mono fun s g => List.mem_append_left _ (List.mem_append_left _ g)
        · rw [List.mem_singleton.1 h]
          exact ⟨List.mem_append_left _ (List.mem_append_right _ (List.mem_singleton.2 rfl)), .inl (List.mem_append_right _ (List.mem_singleton.2 rfl))⟩
      · refine Ent.cons (by exact rm) ?_
        refine Ent.trans (H' := oR x :: fam 5 fs :: H) (by exact ent) ?_
        refine Ent.trans (Ent.open Ent.refl) ?_
        refine Ent.trans (H' := fam 5 (fs ++ [(⟨x.la, x.lc, x.lo⟩ : SB)]) :: ob x.ha x.hc x.hi :: H) ?_ ?_
        · refine Ent.famS (s := (⟨x.la, x.lc, x.lo⟩ : SB)) (by exact rm) (by exact rm) ?_
          exact ent
        · refine Ent.famS (s := (⟨x.ha, x.hc, x.hi⟩ : SB)) (by exact rm) (by exact rm) ?_
          exact ent
    · refine sx ?_
      refine s_again ⟨j + 1, a3, c3, out, fs⟩ ⟨by simp only; omega, by simp only; omega, ?_, hog⟩ (by simp only; omega)
      simp only
      rw [snocT hri, List.filter_append, List.map_append, ← hod, List.filter_cons, if_neg (by rw [t2]; simp), List.filter_nil, List.map_nil, List.append_nil]
  obtain rfl : j = rs.length := by omega
  rw [List.take_length] at hod
  refine sx ?_
  have hsr : ∀ r ∈ out, RBy w0 (fam 5 fs :: H) r.la r.lc r.lo := fun r h => (GdR.rrg (hog r h)).lo
  refine s_call rfl (sort_s (by omega) hsr) ?_
  rintro _ _ ⟨rfl, srt, hp, hs, rfl⟩
  refine ⟨chk_seq, ?_⟩
  have hcv := perm_cv hod hp hs
  have hsl := hp.length_eq
  rw [hsl]
  have hsg : ∀ x ∈ srt, GdR fs x := fun x h => hog x (hp.mem_iff.2 h)
  refine sx ?_
  refine s_loop (fun m : CvI => [(6, .slice m.a m.out.length m.c), (27, .slice a3 srt.length c3), (28, .int .i64 srt.length), (29, .int .i64 m.j)]) (fun m => ol 57 m.a m.c m.out :: ol 57 a3 c3 srt :: fam 5 fs :: H)
    (fun m => m.j ≤ srt.length ∧ m.out.length ≤ m.j ∧ m.out.map Rg.d = ((srt.take m.j).map Rg.d).foldl cvP [] ∧ ∀ x ∈ m.out, GdR fs x) (fun m => srt.length - m.j) ⟨0, none, 0, [], []⟩ ⟨Nat.zero_le _, Nat.zero_le _, rfl, fun x h => by cases h⟩ ?_ (he := Ent.nilS)
  rintro ⟨j, a4, c4, on, fs0⟩ ⟨hj', hol', hod', hog'⟩
  simp only at hj' hol' hod' hog' ⊢
  refine sx ?_
  refine s_if rfl (fun t3 => ?_) (fun t3 => ?_)
  · obtain ⟨⟨rla, rlc, rlo, rha, rhc, rhi, ral⟩, hrj⟩ := get_lt srt j (by omega)
    have hrg := hsg _ (List.mem_of_getElem? hrj)
    have rr : RRg w0 (ol 57 a4 c4 on :: ol 57 a3 c3 srt :: fam 5 fs :: H) ⟨rla, rlc, rlo, rha, rhc, rhi, ral⟩ := (GdR.rrg hrg).tl.tl
    have hstep : ((srt.take (j + 1)).map Rg.d).foldl cvP [] = cvP (on.map Rg.d) (rlo, rhi, ral) := by
      rw [snocT hrj, List.map_append, List.foldl_append, ← hod']
      rfl
    have hx2 : RSl w0 (ol 57 a4 c4 on :: ol 57 a3 c3 srt :: fam 5 fs :: H) a3 c3 srt := RSl.hd.tl
    refine sx ?_
    refine s_alloc fun b8 => ?_
    refine sx ?_
    by_cases h0 : on = []
    · subst h0
      refine s_rwC (t := 9) (v' := .int .i64 (-1)) rfl (by simp) ?_
      refine sx ?_; refine s_dr (.one true 0 (.one true 1 (.one true 2 (.one true 3 (.one true 4 (.one true 5 (.one true 6 (.one true 7 (.one true 8 (.one true 9 (.one true 10 (.one true 11 (.one true 12 (.one true 13 (.one true 14 (.one true 15 (.one true 16 (.one false 17 (.one true 18 (.one true 19 (.one true 20 .nil))))))))))))))))))))) mixed (by kernel_rfl) ?_; refine sx ?_
      refine sx ?_
      refine s_bsl [(⟨rla, rlc, rlo, rha, rhc, rhi, ral⟩ : Rg)] rfl rfl fun b1 => ?_
      refine sx ?_
      refine s_app ?_
      intro a5 c5
      refine sx ?_
      refine s_again ⟨j + 1, a5, c5, [] ++ [⟨rla, rlc, rlo, rha, rhc, rhi, ral⟩], fs⟩ ⟨by simp only; omega, by simp only [List.length_append, List.length_cons, List.length_nil]; omega, ?_, ?_⟩ (by simp only; omega)
      · simp only
        rw [hstep, List.map_nil, cvP_nil]
        rfl
      · intro y hy
        simp only [List.nil_append, List.mem_singleton] at hy ⊢
        rw [hy]
        exact hrg
    · have hpos : 0 < on.length := List.length_pos_iff.2 h0
      obtain ⟨⟨lla, llc, llo, lha, lhc, lhi, lal⟩, hl⟩ := get_lt on (on.length - 1) (by omega)
      have hlg := hog' _ (List.mem_of_getElem? hl)
      have rl : RRg w0 (ol 57 a4 c4 on :: ol 57 a3 c3 srt :: fam 5 fs :: H) ⟨lla, llc, llo, lha, lhc, lhi, lal⟩ := (GdR.rrg hlg).tl.tl
      refine s_kn (φ := ∃ ad, a4 = some ad) (fun w hw => own_gA (c := c4) (Sat.ownOf (c' := ol 57 a4 c4 on) (.tl .hd) hw) (by omega)) ?_
      rintro ⟨ad, rfl⟩
      refine s_rwC (t := 9) (v' := .int .i64 ((on.length - 1 : Nat) : Int)) rfl (ci (by omega)) ?_
      generalize hk : on.length - 1 = k at hl
      cases lal
      · refine sx ?_; refine s_dr (.one true 0 (.one true 1 (.one true 2 (.one true 3 (.one true 4 (.one true 5 (.one true 6 (.one true 7 (.one true 8 (.one true 9 (.one true 10 (.one true 11 (.one true 12 (.one true 13 (.one true 14 (.one true 15 (.one true 16 (.one false 17 (.one true 18 (.one true 19 (.one true 20 .nil))))))))))))))))))))) mixed (by kernel_rfl) ?_; refine sx ?_
        refine s_callV rfl (compare_s (xs := lhi) (ys := rlo) rl.hi.tl rr.lo.tl) ?_
        refine sx ?_
        refine s_if rfl (fun t5 => ?_) (fun t5 => ?_)
        · refine sx ?_
          refine s_bsl [(⟨rla, rlc, rlo, rha, rhc, rhi, ral⟩ : Rg)] rfl rfl fun b1 => ?_
          refine sx ?_
          refine s_app ?_
          intro a5 c5
          refine sx ?_
          refine s_again ⟨j + 1, a5, c5, on ++ [⟨rla, rlc, rlo, rha, rhc, rhi, ral⟩], fs⟩ ⟨by simp only; omega, by simp only [List.length_append, List.length_cons, List.length_nil]; omega, ?_, ?_⟩ (by simp only; omega)
          · simp only
            rw [hstep, cvP_far (l := ⟨lla, llc, llo, lha, lhc, lhi, false⟩) (by rw [hk]; exact hl) rfl t5, List.map_append]
            rfl
          · intro y hy
            simp only at hy ⊢
            rcases List.mem_append.1 hy with h | h
            · exact hog' y h
            · rw [List.mem_singleton.1 h]
              exact hrg
        · refine sx ?_
          refine sx ?_; refine s_dr (.one true 0 (.one true 1 (.one true 2 (.one true 3 (.one true 4 (.one false 5 .nil)))))) mixed (by kernel_rfl) ?_; refine sx ?_
          refine s_callV rfl (obelow_s (r := ⟨lla, llc, llo, lha, lhc, lhi, false⟩) (q := ⟨rla, rlc, rlo, rha, rhc, rhi, ral⟩) (by exact rrg) (by exact rrg)) ?_
          refine sx ?_
          refine s_cond rfl (fun t6 => ?_) (fun t6 => ?_)
          · refine sx ?_
            refine sx ?_; refine s_drR (ol 57 (some ad) c4 on) (by exact rm) (.one true 0 (.one true 1 (.one true 2 (.one true 3 (.one true 4 (.one true 5 (.one true 6 (.one true 7 (.one true 8 (.one true 9 (.one false 10 (.one true 11 (.one true 12 (.one false 13 .nil)))))))))))))) mixed (by kernel_rfl) ?_; refine sx ?_
            refine s_setF (o := 1) (i := k) (x0 := (⟨lla, llc, llo, lha, lhc, lhi, false⟩ : Rg)) (y := (⟨lla, llc, llo, rha, rhc, rhi, false⟩ : Rg)) rfl rfl (by exact at_) hl rfl (by omega) rfl ?_
            refine sx ?_
            have hkl : k < on.length := by omega
            refine s_setF (o := 2) (i := k) (x0 := (⟨lla, llc, llo, rha, rhc, rhi, false⟩ : Rg)) (y := (⟨lla, llc, llo, rha, rhc, rhi, ral⟩ : Rg)) rfl rfl (by exact at_) (by rw [List.getElem?_set_self hkl]) rfl (by omega) rfl ?_
            refine sx ?_
            rw [List.set_set]
            refine s_rwQ (t := 6) (v' := .slice (some ad) (on.set k ⟨lla, llc, llo, rha, rhc, rhi, ral⟩).length c4) rfl (by rw [List.length_set]) ?_
            refine s_again ⟨j + 1, some ad, c4, on.set k ⟨lla, llc, llo, rha, rhc, rhi, ral⟩, fs⟩ ⟨by simp only; omega, by simp only [List.length_set]; omega, ?_, ?_⟩ (by simp only; omega)
            · simp only
              rw [hstep, cvP_near (l := ⟨lla, llc, llo, lha, lhc, lhi, false⟩) (y := ⟨lla, llc, llo, rha, rhc, rhi, ral⟩) (by rw [hk]; exact hl) (fun h => t5 h.2) t6 rfl, hk]
            · intro x hx
              simp only at hx ⊢
              rcases List.mem_or_eq_of_mem_set hx with h | h
              · exact hog' x h
              · rw [h]
                exact ⟨hlg.1, hrg.2⟩
          · refine sx ?_
            refine s_again ⟨j + 1, some ad, c4, on, fs⟩ ⟨by simp only; omega, by simp only; omega, ?_, hog'⟩ (by simp only; omega)
            simp only
            rw [hstep, cvP_in (l := ⟨lla, llc, llo, lha, lhc, lhi, false⟩) (by rw [hk]; exact hl) (fun h => t5 h.2) (by rw [t6]; simp)]
      · refine sx ?_; refine s_dr (.one true 0 (.one true 1 (.one true 2 (.one true 3 (.one true 4 (.one true 5 (.one true 6 (.one true 7 (.one true 8 (.one true 9 (.one true 10 (.one true 11 (.one true 12 (.one true 13 (.one true 14 (.one true 15 (.one true 16 (.one false 17 (.one true 18 (.one true 19 (.one true 20 .nil))))))))))))))))))))) mixed (by kernel_rfl) ?_; refine sx ?_
        refine sx ?_
        refine sx ?_; refine s_dr (.one true 0 (.one true 1 (.one true 2 (.one true 3 (.one true 4 (.one false 5 .nil)))))) mixed (by kernel_rfl) ?_; refine sx ?_
        refine s_callV rfl (obelow_s (r := ⟨lla, llc, llo, lha, lhc, lhi, true⟩) (q := ⟨rla, rlc, rlo, rha, rhc, rhi, ral⟩) (by exact rrg) (by exact rrg)) ?_
        refine sx ?_
        have hb0 : beR (Rg.d ⟨lla, llc, llo, lha, lhc, lhi, true⟩) (Rg.d ⟨rla, rlc, rlo, rha, rhc, rhi, ral⟩) = false := Bool.eq_false_iff.2 fun h => by
          have := (beR_iff.1 h).1
          cases this
        refine s_again ⟨j + 1, some ad, c4, on, fs⟩ ⟨by simp only; omega, by simp only; omega, ?_, hog'⟩ (by simp only; omega)
        simp only
        rw [hstep, cvP_in (l := ⟨lla, llc, llo, lha, lhc, lhi, true⟩) (by rw [hk]; exact hl) (fun h => by cases h.1) (fun h => by
          have h : beR (Rg.d ⟨lla, llc, llo, lha, lhc, lhi, true⟩) (Rg.d ⟨rla, rlc, rlo, rha, rhc, rhi, ral⟩) = true := h
          rw [hb0] at h
          cases h)]
  · obtain rfl : j = srt.length := by omega
    rw [List.take_length] at hod'
    refine sx ?_
    refine s_ret1 rfl rfl ⟨a4, c4, on, [ol 57 a4 c4 on, ol 57 a3 c3 srt, fam 5 fs], rfl, rfl, by omega, by rw [hod']; exact hcv, ?_, ?_⟩ ?_
    · exact fun H0 => RSl.ent (RSl.hd (E := 57)) (Ent.mem' (by simp))
    · intro o ho H0
      exact RRg.ent (GdR.rrg (H := []) (hog' o ho)) (Ent.mem' (by simp))
    · refine Ent.trans (H' := ol 57 a4 c4 on :: ol 57 a3 c3 srt :: fam 5 fs :: H) (by exact ent) ?_
      exact Ent.star (L := [ol 57 a4 c4 on, ol 57 a3 c3 srt, fam 5 fs]) Ent.refl
end Go.Sx
