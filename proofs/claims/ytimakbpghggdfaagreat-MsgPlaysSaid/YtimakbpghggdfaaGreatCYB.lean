/- Part of a proof: the document's Within, walked. -/
import Derived.Test.YtimakbpghggdfaaGreatCYA
namespace Go.Sx
open Go Go.Proofs
set_option maxRecDepth 10000
variable {w0 : World} {H : List Ck}
theorem me_fol (a b : T3) : meR (foR a) b = meR a b := by
  have hs : ∀ key, hasB (meR (foR a) b) key = true ↔ hasB (meR a b) key = true := fun key => by rw [has_me, has_me, has_fo]
  by_cases h : emR (meR (foR a) b) = true
  · have : emR (meR a b) = true := em_of7 fun key k => has_em h ((hs key).2 k)
    rw [me_nil h, me_nil this]
  · exact nef_uniq ⟨me_fo _ _, h⟩ ⟨me_fo _ _, fun k => h (em_of7 fun key q => has_em k ((hs key).1 q))⟩ hs
theorem wth_one {r : T3} {m : MD} (h : m.kd = 1 ∨ m.kd = 2) : wthM r m = if hasB r m.lo = true then some m else none := by
  unfold wthM
  have key : emR (meR (saidR m) r) = true ↔ ¬ hasB r m.lo = true := by
    constructor
    · intro g k
      exact has_em g (has_me.2 ⟨by rw [said_one h, has_one], k⟩)
    · intro g
      refine em_of7 fun key k => ?_
      rw [has_me, said_one h, has_one] at k
      rw [k.1] at k
      exact g k.2
  rw [if_neg (show ¬ m.kd = 3 by omega)]
  by_cases g : hasB r m.lo = true
  · rw [if_pos g, if_neg fun k => key.1 k g]
  · rw [if_neg g, if_pos (key.2 g)]
theorem wth_oth {r : T3} {m : MD} (h1 : m.kd ≠ 1) (h2 : m.kd ≠ 2) (h3 : m.kd ≠ 3) : wthM r m = none := by
  have : saidR m = t30 := by unfold saidR; rw [if_neg (fun g => g.elim h1 h2), if_neg h3]
  unfold wthM
  rw [this, if_pos]
  exact em_of7 fun key k => has_t30 (has_me.1 k).1
set_option maxHeartbeats 4000000 in
theorem rwithin7_s {a : Option Addr} {c : Nat} {ms : List Mg} {r : Rg} (hx : RMs w0 H a c ms) (hr : RRg w0 H r) (hl : ms.length ≤ 1099511627776) (hz : ∀ m ∈ ms, m.lo.length ≤ 140737488355327 ∧ m.hi.length ≤ 140737488355327 ∧ m.v.length ≤ 140737488355328) (hl1 : r.lo.length ≤ 140737488355328 ∧ r.hi.length ≤ 140737488355328) :
    FnS Tryz.prog w0 H 98 #[.slice a ms.length c, .agg r.cells.toArray] (fun v H' => ∃ a' c' ls, v = .slice a' (ls : List Mg).length c' ∧ ls.map Mg.d = withinL r.d (ms.map Mg.d) ∧ H' = ol 35 a' c' ls :: stars oM ls :: H) := by
  refine fns_enter Tryz.func98 rfl rfl rfl ?_
  have hsl := hx.sl
  refine s_kn (Kn.sl hsl) fun l1 => ?_
  simp only [maxLen] at l1
  refine sx ?_
  refine s_boxA rfl fun b3 => ?_
  refine sx ?_
  refine s_loop (fun q : WiJ => [(0, .slice a ms.length c), (3, .pointer (some ⟨b3, 0, none⟩)), (5, .slice q.a q.ms.length q.c), (6, .int .i64 q.i)]) (fun q => ol 35 q.a q.c q.ms :: stars oM q.ms :: .hb b3 53 r.cells :: H) (fun q => q.i ≤ ms.length ∧ q.ms.length ≤ q.i ∧ q.ms.map Mg.d = withinL r.d ((ms.map Mg.d).take q.i)) (fun q => ms.length - q.i) ⟨0, none, 0, []⟩ ⟨Nat.zero_le _, Nat.zero_le _, by simp [withinL]⟩ ?_ (he := Ent.nilS.trans (Ent.head stars_nil))
  rintro ⟨i, oa, oc, os⟩ ⟨g1, g2, g3⟩
  simp only at g1 g2 g3 ⊢
  refine sx ?_
  refine s_if rfl (fun t1 => ?_) (fun t1 => ?_)
  · obtain ⟨m, hm⟩ := get_lt ms i (by omega)
    have hmd := get_map (f := Mg.d) hm
    have hrm := hx.el m (List.mem_of_getElem? hm)
    obtain ⟨z1, z2, z3⟩ := hz m (List.mem_of_getElem? hm)
    have hst : withinL r.d ((ms.map Mg.d).take (i + 1)) = withinL r.d ((ms.map Mg.d).take i) ++ (wthM r.d m.d).toList := by
      rw [snocT hmd, withinL, withinL, List.filterMap_append]
      congr 1
    rw [← g3] at hst
    refine sx ?_
    refine s_call rfl (rcopy7_s (m := m) hrm.tl.tl.tl (by omega) (by omega) z3) ?_
    rintro _ _ ⟨m', rfl, hmd', rfl⟩
    refine ⟨chk_seq, ?_⟩
    refine sx ?_
    refine s_alloc fun b7 => ?_
    have hkd : m'.kd = m.kd := congrArg MD.kd hmd'
    have hlo : m'.lo = m.lo := congrArg MD.lo hmd'
    have hhi : m'.hi = m.hi := congrArg MD.hi hmd'
    have hrm' : RMg w0 (.hb b7 35 m'.cells :: ob m'.la m'.lc m'.lo :: ob m'.ha m'.hc m'.hi :: ob m'.va m'.vc m'.v :: ol 35 oa oc os :: stars oM os :: .hb b3 53 r.cells :: H) m' := ⟨RBy.hd.tl, RBy.hd.tl.tl, RBy.hd.tl.tl.tl⟩
    have hr' : RRg w0 (.hb b7 35 m'.cells :: ob m'.la m'.lc m'.lo :: ob m'.ha m'.hc m'.hi :: ob m'.va m'.vc m'.v :: ol 35 oa oc os :: stars oM os :: .hb b3 53 r.cells :: H) r := ⟨hr.lo.tl.tl.tl.tl.tl.tl.tl, hr.hi.tl.tl.tl.tl.tl.tl.tl⟩
    refine sx ?_
    have fin : ∀ n : Mg, (hn : n.d = m.d) → (wthM r.d m.d = some m.d) → (os ++ [n]).map Mg.d = withinL r.d ((ms.map Mg.d).take (i + 1)) := fun n hn hw => by
      rw [hst, hw, List.map_append]
      simp [hn]
    by_cases k12 : m'.kd = 1 ∨ m'.kd = 2
    · have hw := wth_one (r := r.d) (m := m.d) (by rw [← hmd']; exact k12)
      refine s_if rfl (fun t2 => ?_) (fun t2 => ?_)
      · refine sx ?_
        refine s_if rfl (fun _ => ?_) (fun g => absurd t2 g)
        refine sx ?_
        refine s_callV rfl (qhas_s (r := r) (key := m'.lo) hr' hrm'.lo) ?_
        refine sx ?_
        rw [hlo]
        cases hh : hasB r.d m.lo
        · have hw2 : wthM r.d m.d = none := by rw [hw]; show (if hasB r.d m.lo = true then some m.d else none) = none; rw [hh]; rfl
          rw [hw2, Option.toList_none, List.append_nil] at hst
          refine sx ?_
          exact s_again ⟨i + 1, oa, oc, os⟩ ⟨by simp only; omega, by simp only; omega, hst.symm⟩ (by simp only; omega) (he := Ent.tl (Ent.tl (Ent.tl (Ent.tl Ent.refl))))
        · have hw2 : wthM r.d m.d = some m.d := by rw [hw]; show (if hasB r.d m.lo = true then some m.d else none) = some m.d; rw [hh]; rfl
          refine sx ?_
          refine s_bsl [m'] rfl rfl fun b34 => ?_
          refine s_app (xs := os) (ys := [m']) ?_ (hby := by simp only [List.length_cons, List.length_nil]; omega)
          intro a4 c4
          refine sx ?_
          exact s_again ⟨i + 1, a4, c4, os ++ [m']⟩ ⟨by simp only; omega, by simp only [List.length_append, List.length_cons, List.length_nil]; omega, fin m' hmd' hw2⟩ (by simp only; omega) (he := Ent.cons (by exact rm) (Ent.trans (H' := ob m'.la m'.lc m'.lo :: ob m'.ha m'.hc m'.hi :: ob m'.va m'.vc m'.v :: stars oM os :: .hb b3 53 r.cells :: H) (Ent.tl (Ent.tl Ent.refl)) (stars_snoc (f := oM) (s := m'))))
      · refine sx ?_
        refine s_if rfl (fun t3 => ?_) (fun g => absurd k12 (fun q => q.elim t2 g))
        refine sx ?_
        refine s_callV rfl (qhas_s (r := r) (key := m'.lo) hr' hrm'.lo) ?_
        refine sx ?_
        rw [hlo]
        cases hh : hasB r.d m.lo
        · have hw2 : wthM r.d m.d = none := by rw [hw]; show (if hasB r.d m.lo = true then some m.d else none) = none; rw [hh]; rfl
          rw [hw2, Option.toList_none, List.append_nil] at hst
          refine sx ?_
          exact s_again ⟨i + 1, oa, oc, os⟩ ⟨by simp only; omega, by simp only; omega, hst.symm⟩ (by simp only; omega) (he := Ent.tl (Ent.tl (Ent.tl (Ent.tl Ent.refl))))
        · have hw2 : wthM r.d m.d = some m.d := by rw [hw]; show (if hasB r.d m.lo = true then some m.d else none) = some m.d; rw [hh]; rfl
          refine sx ?_
          refine s_bsl [m'] rfl rfl fun b34 => ?_
          refine s_app (xs := os) (ys := [m']) ?_ (hby := by simp only [List.length_cons, List.length_nil]; omega)
          intro a4 c4
          refine sx ?_
          exact s_again ⟨i + 1, a4, c4, os ++ [m']⟩ ⟨by simp only; omega, by simp only [List.length_append, List.length_cons, List.length_nil]; omega, fin m' hmd' hw2⟩ (by simp only; omega) (he := Ent.cons (by exact rm) (Ent.trans (H' := ob m'.la m'.lc m'.lo :: ob m'.ha m'.hc m'.hi :: ob m'.va m'.vc m'.v :: stars oM os :: .hb b3 53 r.cells :: H) (Ent.tl (Ent.tl Ent.refl)) (stars_snoc (f := oM) (s := m'))))
    refine s_if rfl (fun t2 => absurd (.inl t2) k12) (fun t2 => ?_)
    refine sx ?_
    refine s_if rfl (fun t3 => absurd (.inr t3) k12) (fun t3 => ?_)
    refine sx ?_
    refine s_if rfl (fun t4 => ?_) (fun t4 => ?_)
    · have stp : StopAt 13 := trivial
      refine sxs ?_
      clear stp
      refine s_cut (ι := Nat × Rg) (fun q => [(0, .slice a ms.length c), (3, .pointer (some ⟨b3, 0, none⟩)), (5, .slice oa os.length oc), (6, .int .i64 i), (7, .pointer (some ⟨b7, 0, none⟩)), (9, .pointer (some ⟨q.1, 0, none⟩))]) (fun q => .hb q.1 53 q.2.cells :: oR q.2 :: .hb b7 35 m'.cells :: ob m'.la m'.lc m'.lo :: ob m'.ha m'.hc m'.hi :: ob m'.va m'.vc m'.v :: ol 35 oa oc os :: stars oM os :: .hb b3 53 r.cells :: H) (fun q => q.2.d = meR (saidR m.d) r.d) ?_ ?_
      · refine sx ?_; refine s_dr (.one true 0 (.one true 2 (.alt (.one false 1 (.alt (.one false 3 (.one false 4 (.one false 5 .nil))) (.one false 4 (.one false 3 (.one false 5 .nil))))) (.one false 4 (.one false 1 (.one false 3 (.one false 5 .nil))))))) mixed (by kernel_rfl) ?_; refine sx ?_
        have hql : ∀ q : Rg, q.d = foR (saidR m'.d) → q.lo.length ≤ 140737488355328 ∧ q.hi.length ≤ 140737488355328 := fun q hq => by
          have h := qk_fo (qk_said (m := m'.d) (k := 140737488355328) (by show m'.lo.length + 1 ≤ _; rw [hlo]; omega) (by show m'.hi.length ≤ _; rw [hhi]; omega))
          rw [← hq] at h
          exact h
        have hqy : ∀ q y : Rg, q.d = foR (saidR m'.d) → y.d = meR q.d r.d → y.d = meR (saidR m.d) r.d := fun q y h1 h2 => by rw [h2, h1, me_fol, hmd']
        have zl : m'.lo.length ≤ 140737488355327 := by rw [hlo]; exact z1
        have zh : m'.hi.length ≤ 140737488355328 := by rw [hhi]; omega
        refine s_alt ?_ ?_
        · skip
          refine s_call rfl (rrange7_s (m := m') hrm' zl zh) ?_
          rintro _ _ ⟨q, L, rfl, hqd, rfl, hqr⟩
          refine ⟨chk_held (Ent.tl Ent.refl), ?_⟩
          refine s_alt ?_ ?_
          · skip
            refine s_call rfl (qmeet_s (r := q) (q := r) (hqr _ hrm') hr'.tl (hql q hqd) hl1) ?_
            rintro _ _ ⟨y, rfl, hyd, rfl⟩
            refine ⟨chk_held (Ent.tl (Ent.tl Ent.refl)), ?_⟩
            refine s_alloc (fun b9 => ?_) (hk := by intros; exact chk_held (Ent.tl (Ent.tl (Ent.tl Ent.refl))))
            refine sx ?_
            exact s_mid (b9, y) (hqy q y hqd hyd) (he := Ent.head (Ent.head (Ent.tl Ent.refl)))
          · skip
            refine s_alloc (fun b9 => ?_) (hk := by intros; exact chk_held (Ent.tl (Ent.tl Ent.refl)))
            refine sx ?_
            refine s_call rfl (qmeet_s (r := q) (q := r) (hqr _ hrm').tl hr'.tl.tl (hql q hqd) hl1) ?_
            rintro _ _ ⟨y, rfl, hyd, rfl⟩
            refine ⟨chk_held (Ent.tl (Ent.tl (Ent.tl Ent.refl))), ?_⟩
            refine sx ?_
            exact s_mid (b9, y) (hqy q y hqd hyd) (he := Ent.cons (by exact rm) (Ent.head (Ent.tl Ent.refl)))
        · skip
          refine s_alloc (fun b9 => ?_) (hk := by intros; exact chk_held (Ent.tl Ent.refl))
          refine sx ?_
          refine s_call rfl (rrange7_s (m := m') hrm'.tl zl zh) ?_
          rintro _ _ ⟨q, L, rfl, hqd, rfl, hqr⟩
          refine ⟨chk_held (Ent.tl (Ent.tl Ent.refl)), ?_⟩
          refine sx ?_
          refine s_call rfl (qmeet_s (r := q) (q := r) (hqr _ hrm'.tl) hr'.tl.tl (hql q hqd) hl1) ?_
          rintro _ _ ⟨y, rfl, hyd, rfl⟩
          refine ⟨chk_held (Ent.tl (Ent.tl (Ent.tl Ent.refl))), ?_⟩
          refine sx ?_
          exact s_mid (b9, y) (hqy q y hqd hyd) (he := Ent.cons (by exact rm) (Ent.head (Ent.tl Ent.refl)))
      rintro ⟨b9, y⟩ hyd
      simp only at hyd ⊢
      refine sx ?_
      refine s_callV rfl (qempty_s (r := y) RRg.oR.tl) ?_
      refine sx ?_
      cases hee : emR y.d
      · have hw : wthM r.d m.d = some ⟨m.st, m.kd, y.lo, y.hi, m.v⟩ := by
          unfold wthM
          rw [← hyd, if_neg (by rw [hee]; decide), if_pos (show m.d.kd = 3 by rw [← hmd']; exact t4)]
        rw [hw] at hst
        refine sx ?_
        refine s_rw (t := 53) (v' := .agg (Mg.cells ⟨m'.st, m'.kd, y.la, y.lc, y.lo, y.ha, y.hc, y.hi, m'.va, m'.vc, m'.v⟩).toArray) rfl rfl ?_
        refine s_bsl [(⟨m'.st, m'.kd, y.la, y.lc, y.lo, y.ha, y.hc, y.hi, m'.va, m'.vc, m'.v⟩ : Mg)] rfl rfl fun b34 => ?_
        refine s_app (xs := os) (ys := [(⟨m'.st, m'.kd, y.la, y.lc, y.lo, y.ha, y.hc, y.hi, m'.va, m'.vc, m'.v⟩ : Mg)]) ?_ (hby := by simp only [List.length_cons, List.length_nil]; omega)
        intro a4 c4
        refine sx ?_
        refine s_again ⟨i + 1, a4, c4, os ++ [⟨m'.st, m'.kd, y.la, y.lc, y.lo, y.ha, y.hc, y.hi, m'.va, m'.vc, m'.v⟩]⟩ ⟨by simp only; omega, by simp only [List.length_append, List.length_cons, List.length_nil]; omega, ?_⟩ (by simp only; omega) (he := ?_)
        · simp only [List.map_append]
          rw [hst]
          congr 1
          have h1 : m'.st = m.st := congrArg MD.st hmd'
          have h2 : m'.v = m.v := congrArg MD.v hmd'
          show [MD.mk m'.st m'.kd y.lo y.hi m'.v] = [MD.mk m.st m.kd y.lo y.hi m.v]
          rw [h1, h2, hkd]
        · refine Ent.cons (by exact rm) ?_
          refine Ent.trans (H' := oR y :: ob m'.va m'.vc m'.v :: stars oM os :: .hb b3 53 r.cells :: H) (by exact ent) ?_
          exact Ent.trans (H' := ob y.la y.lc y.lo :: ob y.ha y.hc y.hi :: ob m'.va m'.vc m'.v :: stars oM os :: .hb b3 53 r.cells :: H) (Ent.open Ent.refl) (stars_snoc (f := oM) (s := ⟨m'.st, m'.kd, y.la, y.lc, y.lo, y.ha, y.hc, y.hi, m'.va, m'.vc, m'.v⟩))
      · have hw : wthM r.d m.d = none := by unfold wthM; rw [← hyd, if_pos hee]
        rw [hw, Option.toList_none, List.append_nil] at hst
        refine sx ?_
        exact s_again ⟨i + 1, oa, oc, os⟩ ⟨by simp only; omega, by simp only; omega, hst.symm⟩ (by simp only; omega) (he := Ent.tl (Ent.tl (Ent.tl (Ent.tl (Ent.tl (Ent.tl Ent.refl))))))
    · have hw := wth_oth (r := r.d) (m := m.d) (by rw [← hmd']; exact t2) (by rw [← hmd']; exact t3) (by rw [← hmd']; exact t4)
      rw [hw, Option.toList_none, List.append_nil] at hst
      refine sx ?_
      exact s_again ⟨i + 1, oa, oc, os⟩ ⟨by simp only; omega, by simp only; omega, hst.symm⟩ (by simp only; omega) (he := Ent.tl (Ent.tl (Ent.tl (Ent.tl Ent.refl))))
  · obtain rfl : i = ms.length := by omega
    rw [List.take_of_length_le (by simp)] at g3
    refine sx ?_
    exact s_ret1 rfl rfl ⟨oa, oc, os, rfl, g3, rfl⟩
end Go.Sx

