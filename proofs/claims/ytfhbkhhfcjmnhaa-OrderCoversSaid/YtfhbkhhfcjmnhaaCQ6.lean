/- Part of a proof: Cover, by the document, walked. -/
import Derived.Test.YtfhbkhhfcjmnhaaCQ4
namespace Go.Sx
open Go Go.Proofs
set_option maxRecDepth 10000
variable {w0 : World} {H : List Ck}
/-- The bytes of a range are among these. -/
def GdR (bs : List SB) (x : Rg) : Prop := (⟨x.la, x.lc, x.lo⟩ : SB) ∈ bs ∧ ((⟨x.ha, x.hc, x.hi⟩ : SB) ∈ bs ∨ (x.ha = none ∧ x.hc = 0 ∧ x.hi = []))
theorem GdR.mono {bs bs' : List SB} {x : Rg} (h : GdR bs x) (hb : ∀ s, s ∈ bs → s ∈ bs') : GdR bs' x := ⟨hb _ h.1, h.2.imp (hb _) id⟩
theorem GdR.rrg {bs : List SB} {x : Rg} (h : GdR bs x) : RRg w0 (fam 5 bs :: H) x := by
  refine ⟨fam_by h.1, ?_⟩
  rcases h.2 with h | ⟨h1, h2, h3⟩
  · exact fam_by h
  · rw [h1, h2, h3]
    exact RBy.nil
structure CvI where
  j : Nat
  a : Option Addr
  c : Nat
  out : List Rg
  bs : List SB
theorem map_getLast {out : List Rg} {l : Rg} (h : out[out.length - 1]? = some l) : (out.map Rg.d).getLast? = some l.d := by
  rw [List.getLast?_map, List.getLast?_eq_getElem?, h]
  rfl
theorem set_last {α : Type} {out : List α} {y : α} (h : 0 < out.length) : out.set (out.length - 1) y = out.dropLast ++ [y] := by
  rcases List.eq_nil_or_concat out with rfl | ⟨r, x, rfl⟩
  · simp at h
  · simp
theorem set_self {α : Type} {out : List α} {k : Nat} {l : α} (h : out[k]? = some l) : out.set k l = out := by
  obtain ⟨hk, rfl⟩ := List.getElem?_eq_some_iff.1 h
  exact List.set_getElem_self hk
theorem cvS_nil {r : T3} : cvS [] r = [foR r] := rfl
theorem cvS_far {out : List Rg} {l : Rg} {r : T3} (h : out[out.length - 1]? = some l) (h1 : l.all = false) (h2 : cmp l.hi r.1 < 0) : cvS (out.map Rg.d) r = out.map Rg.d ++ [foR r] := by
  simp only [cvS, map_getLast h]
  rw [if_neg]
  rintro (g | g)
  · rw [h1] at g; cases g
  · exact g h2
theorem cvS_near {out : List Rg} {l : Rg} {r : T3} (h : out[out.length - 1]? = some l) (h2 : l.all = true ∨ ¬ cmp l.hi r.1 < 0) {y : Rg} (hy : y.d = if r.2.2 = true ∧ l.all = false then (l.lo, [], true) else if l.all = false ∧ cmp l.hi r.2.1 < 0 then (l.lo, r.2.1, l.all) else l.d) : cvS (out.map Rg.d) r = (out.set (out.length - 1) y).map Rg.d := by
  simp only [cvS, map_getLast h]
  rw [if_pos h2, set_last (by have := (List.getElem?_eq_some_iff.1 h).1; omega), List.map_append, List.map_dropLast]
  simp only [List.map_cons, List.map_nil, hy]
set_option maxHeartbeats 1000000 in
theorem cover_s {rs : List Rg} {a : Option Addr} {c : Nat} (hx : RSl w0 H a c rs) (hn : rs.length ≤ 1099511627776) (hr : ∀ r ∈ rs, RRg w0 H r) (hb : ∀ r ∈ rs, r.lo.length ≤ 140737488355328 ∧ r.hi.length ≤ 140737488355328) :
    FnS Try.prog w0 H 16 #[.slice a rs.length c] (fun v H' => ∃ a' c' os L, v = .slice a' (os : List Rg).length c' ∧ H' = .star L :: H ∧ os.map Rg.d = cvR ((byR rs.length (rs.filter fun r => !emR r.d)).map Rg.d) ∧ RSl w0 (.star L :: H) a' c' os ∧ ∀ o ∈ os, RRg w0 (.star L :: H) o) := by
  refine fns_enter Try.func16 rfl rfl rfl ?_
  refine sx ?_
  refine s_loop (fun m : Nat × Option Addr × Nat × List Rg => [(0, .slice a rs.length c), (3, .slice m.2.1 m.2.2.2.length m.2.2.1), (4, .int .i64 m.1)]) (fun m => ol 26 m.2.1 m.2.2.1 m.2.2.2 :: H) (fun m => m.1 ≤ rs.length ∧ m.2.2.2 = (rs.take m.1).filter (fun r => !emR r.d)) (fun m => rs.length - m.1) (0, none, 0, []) ⟨Nat.zero_le _, rfl⟩ ?_
  rintro ⟨i, a1, c1, ins⟩ ⟨hi, he⟩
  simp only at hi he ⊢
  have hil : ins.length ≤ i := by
    rw [he]
    exact Nat.le_trans (List.length_filter_le _ _) (by rw [List.length_take]; omega)
  refine sx ?_
  refine s_if rfl (fun t1 => ?_) (fun t1 => ?_)
  · obtain ⟨r, hri⟩ := get_lt rs i (by omega)
    have hrm := List.mem_of_getElem? hri
    have rr := (hr r hrm).tl (d := ol 26 a1 c1 ins)
    refine sx ?_
    refine s_callV rfl (qempty_s (r := r) (by exact rrg)) ?_
    refine sx ?_
    refine s_cond rfl (fun t2 => ?_) (fun t2 => ?_)
    · refine sx ?_
      refine s_bsl [r] rfl rfl fun b1 => ?_
      refine sx ?_
      refine s_app ?_
      intro a2 c2
      refine sx ?_
      refine s_again (i + 1, a2, c2, ins ++ [r]) ⟨by simp only; omega, ?_⟩ (by simp only; omega)
      simp only
      rw [snocT hri, List.filter_append, ← he, List.filter_cons, if_pos t2, List.filter_nil]
    · refine sx ?_
      refine s_again (i + 1, a1, c1, ins) ⟨by simp only; omega, ?_⟩ (by simp only; omega)
      simp only
      rw [snocT hri, List.filter_append, ← he, List.filter_cons, if_neg (by rw [t2]; simp), List.filter_nil, List.append_nil]
  obtain rfl : i = rs.length := by omega
  rw [List.take_length] at he
  refine sx ?_
  have him : ∀ x ∈ ins, x ∈ rs := fun x h => by rw [he] at h; exact (List.mem_filter.1 h).1
  refine s_call rfl (byLo_s rs.length (xs := ins) (by omega) (by omega) (by exact rsl) (fun x h => (hr x (him x h)).tl)) ?_
  rintro _ _ ⟨a2, c2, L, rfl, rfl, hm, r2⟩
  refine ⟨chk_seq, ?_⟩
  rw [← he]
  have hbl := byR_len rs.length ins
  generalize byR rs.length ins = bs at hm r2 hbl
  have hbr : ∀ x ∈ bs, RRg w0 (.star L :: ol 26 a1 c1 ins :: H) x := fun x h => (hr x (him x (hm x h))).tl.tl
  have hbb : ∀ x ∈ bs, x.lo.length ≤ 140737488355328 ∧ x.hi.length ≤ 140737488355328 := fun x h => hb x (him x (hm x h))
  refine sx ?_
  refine s_loop (fun m : CvI => [(3, .slice a2 bs.length c2), (6, .slice m.a m.out.length m.c), (7, .int .i64 m.j)]) (fun m => ol 26 m.a m.c m.out :: fam 5 m.bs :: .star L :: ol 26 a1 c1 ins :: H)
    (fun m => m.j ≤ bs.length ∧ m.out.length ≤ m.j ∧ m.out.map Rg.d = ((bs.take m.j).map Rg.d).foldl cvS [] ∧ ∀ x ∈ m.out, GdR m.bs x) (fun m => bs.length - m.j) ⟨0, none, 0, [], []⟩ ⟨Nat.zero_le _, Nat.zero_le _, rfl, fun x h => by cases h⟩ ?_ (he := Ent.trans fam_nil Ent.nilS)
  rintro ⟨j, a3, c3, out, fs⟩ ⟨hj, hol, hod, hog⟩
  simp only at hj hol hod hog ⊢
  refine sx ?_
  refine s_if rfl (fun t3 => ?_) (fun t3 => ?_)
  · obtain ⟨⟨rla, rlc, rlo, rha, rhc, rhi, ral⟩, hrj⟩ := get_lt bs j (by omega)
    have hrjm := List.mem_of_getElem? hrj
    have rr := ((hbr _ hrjm).tl (d := fam 5 fs)).tl (d := ol 26 a3 c3 out)
    have hstep : ((bs.take (j + 1)).map Rg.d).foldl cvS [] = cvS (out.map Rg.d) (rlo, rhi, ral) := by
      rw [snocT hrj, List.map_append, List.foldl_append, ← hod]
      rfl
    refine sx ?_
    refine s_if rfl (fun t4 => ?_) (fun t4 => ?_)
    · obtain ⟨⟨lla, llc, llo, lha, lhc, lhi, lal⟩, hl⟩ := get_lt out (out.length - 1) (by omega)
      have hlg := hog _ (List.mem_of_getElem? hl)
      have rl : RRg w0 (ol 26 a3 c3 out :: fam 5 fs :: .star L :: ol 26 a1 c1 ins :: H) ⟨lla, llc, llo, lha, lhc, lhi, lal⟩ := (GdR.rrg hlg).tl
      refine s_kn (φ := ∃ ad, a3 = some ad) (fun w hw => own_gA (c := c3) (Sat.ownOf (c' := ol 26 a3 c3 out) .hd hw) (by omega)) ?_
      rintro ⟨ad, rfl⟩
      refine s_rwC (t := 8) (v' := .int .i64 ((out.length - 1 : Nat) : Int)) rfl (ci (by omega)) ?_
      generalize hk : out.length - 1 = k at hl
      refine sx ?_; refine s_dr (.one true 0 (.one true 1 (.one true 2 (.one true 3 (.one true 4 (.one true 5 (.one true 6 (.one true 7 (.one true 8 (.one true 9 (.one false 10 (.one true 11 .nil)))))))))))) mixed (by kernel_rfl) ?_; refine sx ?_
      refine s_callV rfl (qless_s (xs := lhi) (ys := rlo) rl.hi rr.lo) ?_
      refine sx ?_
      cases lal
      · refine sx ?_
        refine s_ifn rfl (fun t5 => ?_) (fun t5 => ?_)
        · refine sx ?_
          refine sx ?_; refine s_dr (.one true 0 (.one true 1 (.one true 2 (.one true 3 (.one true 4 (.one true 5 (.one true 6 (.one true 7 (.one true 8 (.one true 9 (.one false 10 (.one true 11 .nil)))))))))))) mixed (by kernel_rfl) ?_; refine sx ?_
          refine s_callV rfl (qless_s (xs := lhi) (ys := rhi) rl.hi rr.hi) ?_
          refine sx ?_
          cases ral
          · refine sx ?_
            refine s_if rfl (fun t6 => ?_) (fun t6 => ?_)
            · refine sx ?_
              refine s_call rfl (qcopy_s (xs := rhi) rr.hi (hbb _ hrjm).2) ?_
              rintro _ _ ⟨a4, rfl, rfl⟩
              refine ⟨chk_seq, ?_⟩
              refine sx ?_
              refine s_setF (o := 1) (i := k) (x0 := (⟨lla, llc, llo, lha, lhc, lhi, false⟩ : Rg)) (y := (⟨lla, llc, llo, a4, rhi.length, rhi, false⟩ : Rg)) rfl rfl (by exact at_) hl rfl (by omega) rfl ?_
              refine sx ?_
              refine s_rwQ (t := 6) (v' := .slice (some ad) (out.set k ⟨lla, llc, llo, a4, rhi.length, rhi, false⟩).length c3) rfl (by rw [List.length_set]) ?_
              refine s_again ⟨j + 1, some ad, c3, out.set k ⟨lla, llc, llo, a4, rhi.length, rhi, false⟩, fs ++ [(⟨a4, rhi.length, rhi⟩ : SB)]⟩ ⟨by simp only; omega, by simp only [List.length_set]; omega, ?_, ?_⟩ (by simp only; omega) (he := ?_)
              · simp only
                rw [hstep, cvS_near (l := ⟨lla, llc, llo, lha, lhc, lhi, false⟩) (y := ⟨lla, llc, llo, a4, rhi.length, rhi, false⟩) (by rw [hk]; exact hl) (.inr t5) (by simp [t6]), hk]
              · intro x hx
                simp only at hx ⊢
                rcases List.mem_or_eq_of_mem_set hx with h | h
                · exact (hog x h).mono fun s g => List.mem_append_left _ g
                · rw [h]
                  exact ⟨List.mem_append_left _ hlg.1, .inl (List.mem_append_right _ (List.mem_singleton.2 rfl))⟩
              · refine Ent.cons (by exact rm) ?_
                refine Ent.famS (s := (⟨a4, rhi.length, rhi⟩ : SB)) (by exact rm) (by exact rm) ?_
                exact ent
            · refine sx ?_
              refine s_rwQ (t := 6) (v' := .slice (some ad) (out.set k ⟨lla, llc, llo, lha, lhc, lhi, false⟩).length c3) rfl (by rw [List.length_set]) ?_
              refine s_again ⟨j + 1, some ad, c3, out.set k ⟨lla, llc, llo, lha, lhc, lhi, false⟩, fs⟩ ⟨by simp only; omega, by simp only [List.length_set]; omega, ?_, ?_⟩ (by simp only; omega) (he := ?_)
              · simp only
                rw [hstep, cvS_near (l := ⟨lla, llc, llo, lha, lhc, lhi, false⟩) (y := ⟨lla, llc, llo, lha, lhc, lhi, false⟩) (by rw [hk]; exact hl) (.inr t5) (by simp [t6]), hk]
              · intro x hx
                simp only at hx ⊢
                rcases List.mem_or_eq_of_mem_set hx with h | h
                · exact hog x h
                · rw [h]
                  exact hlg
              · rw [set_self hl]
                exact Ent.refl
          · refine sx ?_
            refine s_setA (i := k) (⟨lla, llc, llo, none, 0, [], true⟩ : Rg) rfl rfl (by exact at_) rfl (by omega) ?_
            refine sx ?_
            refine s_rwQ (t := 6) (v' := .slice (some ad) (out.set k ⟨lla, llc, llo, none, 0, [], true⟩).length c3) rfl (by rw [List.length_set]) ?_
            refine s_again ⟨j + 1, some ad, c3, out.set k ⟨lla, llc, llo, none, 0, [], true⟩, fs⟩ ⟨by simp only; omega, by simp only [List.length_set]; omega, ?_, ?_⟩ (by simp only; omega) (he := ?_)
            · simp only
              rw [hstep, cvS_near (l := ⟨lla, llc, llo, lha, lhc, lhi, false⟩) (y := ⟨lla, llc, llo, none, 0, [], true⟩) (by rw [hk]; exact hl) (.inr t5) (by simp), hk]
            · intro x hx
              simp only at hx ⊢
              rcases List.mem_or_eq_of_mem_set hx with h | h
              · exact hog x h
              · rw [h]
                exact ⟨hlg.1, .inr ⟨rfl, rfl, rfl⟩⟩
            · exact ent
        · refine sx ?_
          refine s_call rfl (qform_s (r := ⟨rla, rlc, rlo, rha, rhc, rhi, ral⟩) (by exact rrg) (hbb _ hrjm)) ?_
          rintro _ _ ⟨x, rfl, hx, rfl⟩
          refine ⟨chk_seq, ?_⟩
          refine sx ?_
          refine s_bsl [x] rfl rfl fun b1 => ?_
          refine sx ?_
          refine s_app ?_
          intro a4 c4
          refine sx ?_
          refine s_again ⟨j + 1, a4, c4, out ++ [x], (fs ++ [(⟨x.la, x.lc, x.lo⟩ : SB)]) ++ [(⟨x.ha, x.hc, x.hi⟩ : SB)]⟩ ⟨by simp only; omega, by simp only [List.length_append, List.length_cons, List.length_nil]; omega, ?_, ?_⟩ (by simp only; omega) (he := ?_)
          · simp only
            rw [hstep, cvS_far (l := ⟨lla, llc, llo, lha, lhc, lhi, false⟩) (by rw [hk]; exact hl) rfl t5, List.map_append, List.map_cons, List.map_nil, hx]
          · intro y hy
            simp only at hy ⊢
            rcases List.mem_append.1 hy with h | h
            · exact (hog y h).mono fun s g => List.mem_append_left _ (List.mem_append_left _ g)
            · rw [List.mem_singleton.1 h]
              exact ⟨List.mem_append_left _ (List.mem_append_right _ (List.mem_singleton.2 rfl)), .inl (List.mem_append_right _ (List.mem_singleton.2 rfl))⟩
          · refine Ent.cons (by exact rm) ?_
            refine Ent.trans (H' := oR x :: fam 5 fs :: .star L :: ol 26 a1 c1 ins :: H) (by exact ent) ?_
            refine Ent.trans (Ent.open Ent.refl) ?_
            refine Ent.trans (H' := fam 5 (fs ++ [(⟨x.la, x.lc, x.lo⟩ : SB)]) :: ob x.ha x.hc x.hi :: .star L :: ol 26 a1 c1 ins :: H) ?_ ?_
            · refine Ent.famS (s := (⟨x.la, x.lc, x.lo⟩ : SB)) (by exact rm) (by exact rm) ?_
              exact ent
            · refine Ent.famS (s := (⟨x.ha, x.hc, x.hi⟩ : SB)) (by exact rm) (by exact rm) ?_
              exact ent
      · refine sx ?_
        refine sx ?_; refine s_dr (.one true 0 (.one true 1 (.one true 2 (.one true 3 (.one true 4 (.one true 5 (.one true 6 (.one true 7 (.one true 8 (.one true 9 (.one false 10 (.one true 11 .nil)))))))))))) mixed (by kernel_rfl) ?_; refine sx ?_
        refine s_callV rfl (qless_s (xs := lhi) (ys := rhi) rl.hi rr.hi) ?_
        refine sx ?_
        cases ral
        · refine sx ?_
          refine s_rwQ (t := 6) (v' := .slice (some ad) (out.set k ⟨lla, llc, llo, lha, lhc, lhi, true⟩).length c3) rfl (by rw [List.length_set]) ?_
          refine s_again ⟨j + 1, some ad, c3, out.set k ⟨lla, llc, llo, lha, lhc, lhi, true⟩, fs⟩ ⟨by simp only; omega, by simp only [List.length_set]; omega, ?_, ?_⟩ (by simp only; omega) (he := ?_)
          · simp only
            rw [hstep, cvS_near (l := ⟨lla, llc, llo, lha, lhc, lhi, true⟩) (y := ⟨lla, llc, llo, lha, lhc, lhi, true⟩) (by rw [hk]; exact hl) (.inl rfl) (by simp), hk]
          · intro x hx
            simp only at hx ⊢
            rcases List.mem_or_eq_of_mem_set hx with h | h
            · exact hog x h
            · rw [h]
              exact hlg
          · rw [set_self hl]
            exact Ent.refl
        · refine sx ?_
          refine s_rwQ (t := 6) (v' := .slice (some ad) (out.set k ⟨lla, llc, llo, lha, lhc, lhi, true⟩).length c3) rfl (by rw [List.length_set]) ?_
          refine s_again ⟨j + 1, some ad, c3, out.set k ⟨lla, llc, llo, lha, lhc, lhi, true⟩, fs⟩ ⟨by simp only; omega, by simp only [List.length_set]; omega, ?_, ?_⟩ (by simp only; omega) (he := ?_)
          · simp only
            rw [hstep, cvS_near (l := ⟨lla, llc, llo, lha, lhc, lhi, true⟩) (y := ⟨lla, llc, llo, lha, lhc, lhi, true⟩) (by rw [hk]; exact hl) (.inl rfl) (by simp), hk]
          · intro x hx
            simp only at hx ⊢
            rcases List.mem_or_eq_of_mem_set hx with h | h
            · exact hog x h
            · rw [h]
              exact hlg
          · rw [set_self hl]
            exact Ent.refl
    · have h0 : out = [] := List.eq_nil_of_length_eq_zero (by omega)
      refine sx ?_
      refine s_call rfl (qform_s (r := ⟨rla, rlc, rlo, rha, rhc, rhi, ral⟩) (by exact rrg) (hbb _ hrjm)) ?_
      rintro _ _ ⟨x, rfl, hx, rfl⟩
      refine ⟨chk_seq, ?_⟩
      refine sx ?_
      refine s_bsl [x] rfl rfl fun b1 => ?_
      refine sx ?_
      refine s_app ?_
      intro a4 c4
      refine sx ?_
      refine s_again ⟨j + 1, a4, c4, out ++ [x], (fs ++ [(⟨x.la, x.lc, x.lo⟩ : SB)]) ++ [(⟨x.ha, x.hc, x.hi⟩ : SB)]⟩ ⟨by simp only; omega, by simp only [List.length_append, List.length_cons, List.length_nil]; omega, ?_, ?_⟩ (by simp only; omega) (he := ?_)
      · simp only
        rw [hstep, h0, List.map_nil, cvS_nil, List.map_append, List.map_cons, List.map_nil, hx]
        rfl
      · intro y hy
        simp only at hy ⊢
        rcases List.mem_append.1 hy with h | h
        · exact (hog y h).mono fun s g => List.mem_append_left _ (List.mem_append_left _ g)
        · rw [List.mem_singleton.1 h]
          exact ⟨List.mem_append_left _ (List.mem_append_right _ (List.mem_singleton.2 rfl)), .inl (List.mem_append_right _ (List.mem_singleton.2 rfl))⟩
      · refine Ent.cons (by exact rm) ?_
        refine Ent.trans (H' := oR x :: fam 5 fs :: .star L :: ol 26 a1 c1 ins :: H) (by exact ent) ?_
        refine Ent.trans (Ent.open Ent.refl) ?_
        refine Ent.trans (H' := fam 5 (fs ++ [(⟨x.la, x.lc, x.lo⟩ : SB)]) :: ob x.ha x.hc x.hi :: .star L :: ol 26 a1 c1 ins :: H) ?_ ?_
        · refine Ent.famS (s := (⟨x.la, x.lc, x.lo⟩ : SB)) (by exact rm) (by exact rm) ?_
          exact ent
        · refine Ent.famS (s := (⟨x.ha, x.hc, x.hi⟩ : SB)) (by exact rm) (by exact rm) ?_
          exact ent
  obtain rfl : j = bs.length := by omega
  rw [List.take_length] at hod
  refine sx ?_
  refine s_ret1 rfl rfl ⟨a3, c3, out, [ol 26 a3 c3 out, fam 5 fs], rfl, rfl, hod, ?_, ?_⟩ ?_
  · exact RSl.ent (RSl.hd (E := 26)) (Ent.mem' (by simp))
  · intro o ho
    exact RRg.ent (GdR.rrg (H := []) (hog o ho)) (Ent.mem' (by simp))
  · refine Ent.trans (H' := ol 26 a3 c3 out :: fam 5 fs :: H) (by exact ent) ?_
    exact Ent.star (L := [ol 26 a3 c3 out, fam 5 fs]) Ent.refl
end Go.Sx
