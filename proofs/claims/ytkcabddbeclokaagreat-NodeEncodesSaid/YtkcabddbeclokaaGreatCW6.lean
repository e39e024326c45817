/- Part of a proof: the book's end: lists of numbers and of messages are written over and made longer. -/
import Derived.Test.YtkcabddbeclokaaGreatCW4j
namespace Go.Sx
open Go Go.Proofs
set_option maxRecDepth 10000
variable {w0 : World} {H : List Ck}
abbrev vI (i : Nat) : Int := -7 - (i : Int)
abbrev vM (i : Nat) : Mg := ⟨7000 + (i : Int), 0, none, 0, [], none, 0, [], none, 0, []⟩
def mknumbers (i : Nat) (s : SIn) : SIn := ⟨s.a, s.c, List.replicate s.xs.length (vI i)⟩
def mknumberss (ls : List SIn) : List SIn := ls.mapIdx mknumbers
theorem mknumberss_len (ls : List SIn) : (mknumberss ls).length = ls.length := by simp [mknumberss]
theorem mknumberss_get {ls : List SIn} {i : Nat} {s : SIn} (h : ls[i]? = some s) : (mknumberss ls)[i]? = some (mknumbers i s) := by simp [mknumberss, h]
set_option maxHeartbeats 4000000 in
theorem numbers_s {K : Nat} {c0 c1 c3 c4 : Value} {ia : Option Addr} {ic : Nat} {is : List SIn} (hn : is.length ≤ 1099511627776) (hsmall : ∀ f ∈ is, f.xs.length ≤ 4294967296) :
    FnS Tryz.prog w0 (.hb K 36 [c0, c1, .slice ia is.length ic, c3, c4] :: ol 22 ia ic is :: fam 3 is :: H) 28 #[.pointer (some ⟨K, 0, none⟩)] (fun v H' => v = .bool true ∧ H' = .hb K 36 [c0, c1, .slice ia is.length ic, c3, c4] :: H) := by
  refine fns_enter Tryz.func28 rfl rfl rfl ?_
  refine sx ?_
  refine s_loop (fun i : Nat => [(0, .pointer (some ⟨K, 0, none⟩)), (3, .int .i64 i)]) (fun i => .hb K 36 [c0, c1, .slice ia is.length ic, c3, c4] :: ol 22 ia ic is :: fam 3 ((mknumberss is).take i) :: fam 3 (is.drop i) :: H)
    (fun i => i ≤ is.length) (fun i => is.length - i) 0 (Nat.zero_le _) ?_ (he := by
      refine Ent.cons (by exact rm) ?_
      refine Ent.cons (by exact rm) ?_
      exact fam_nil)
  intro i hi
  refine sx ?_
  refine s_if rfl (fun t1 => ?_) (fun t1 => ?_)
  · obtain ⟨⟨sa, sc, sx0⟩, hs⟩ := get_lt is i (by omega)
    have hsz := hsmall _ (List.mem_of_getElem? hs)
    have hmi := mknumberss_get hs
    simp only at hsz
    refine s_ent (ol 3 sa sc sx0 :: .hb K 36 [c0, c1, .slice ia is.length ic, c3, c4] :: ol 22 ia ic is :: fam 3 ((mknumberss is).take i) :: fam 3 (is.drop (i + 1)) :: H) (by
      rw [drop_get hs]
      exact (Ent.famC (by exact rm)).trans (by exact ent)) ?_
    refine sx ?_
    refine s_loop (fun (j : Nat × List Int) => [(0, .pointer (some ⟨K, 0, none⟩)), (3, .int .i64 i), (4, .int .i64 j.1)]) (fun j => ol 3 sa sc j.2 :: .hb K 36 [c0, c1, .slice ia is.length ic, c3, c4] :: ol 22 ia ic is :: fam 3 ((mknumberss is).take i) :: fam 3 (is.drop (i + 1)) :: H)
      (fun j => j.1 ≤ sx0.length ∧ j.2.length = sx0.length ∧ ∀ x, x < j.1 → j.2[x]? = some (vI i)) (fun j => sx0.length - j.1) (0, sx0) ⟨Nat.zero_le _, rfl, fun x h => by omega⟩ ?_
    rintro ⟨j, ys⟩ ⟨hj, hyl, hys⟩
    simp only at hj hyl hys ⊢
    refine sx ?_
    refine s_if rfl (fun t2 => ?_) (fun t2 => ?_)
    · have t2 : (j : Int) < (sx0.length : Int) := t2
      refine s_kn (φ := ∃ ad, sa = some ad) (fun w hw => own_gA (Sat.ownOf (c' := ol 3 sa sc ys) .hd hw) (by omega)) ?_
      rintro ⟨ad, rfl⟩
      refine sx ?_
      refine s_set1 (i := j) (y := vI i) rfl rfl (by exact at_) rfl (by omega) ?_
      refine sx ?_
      refine s_again (j + 1, ys.set j (vI i)) ⟨by simp only; omega, by simp only [List.length_set]; exact hyl, fun x hx => ?_⟩ (by simp only; omega)
      simp only at hx ⊢
      by_cases h : x = j
      · subst h
        rw [List.getElem?_set_self (by omega)]
      · rw [List.getElem?_set_ne (by omega)]
        exact hys x (by omega)
    · have t2 : ¬ (j : Int) < (sx0.length : Int) := t2
      have hye := rep_all hyl (fun x hx => hys x (by omega))
      subst hye
      refine sx ?_
      refine s_again (i + 1) (by omega) (by omega) (he := ?_)
      rw [take_snoc' hmi]
      refine Ent.cons (by exact rm) ?_
      refine Ent.cons (by exact rm) ?_
      refine Ent.famS (by exact rm) (by exact rm) ?_
      exact ent
  obtain rfl : i = is.length := by omega
  rw [List.take_of_length_le (by rw [mknumberss_len]; exact Nat.le_refl _)]
  refine sx ?_
  refine s_loop (fun (i : Nat × Option Addr × Nat × List SIn × List SIn) => [(0, .pointer (some ⟨K, 0, none⟩)), (5, .slice i.2.1 i.2.2.2.1.length i.2.2.1), (6, .int .i64 i.1)])
    (fun i => .hb K 36 [c0, c1, .slice ia is.length ic, c3, c4] :: ol 22 ia ic is :: ol 22 i.2.1 i.2.2.1 i.2.2.2.1 :: fam 3 i.2.2.2.2 :: fam 3 ((mknumberss is).drop i.1) :: H)
    (fun i => i.1 ≤ is.length ∧ i.2.2.2.1.length = 3 * i.1 ∧ (∀ j v, i.2.2.2.1[j]? = some v → Vw (· = vI (j / 3)) i.2.2.2.2 v.a v.c v.xs.length))
    (fun i => is.length - i.1) (0, none, 0, [], []) ⟨Nat.zero_le _, rfl, fun j v h => by simp at h⟩ ?_ (he := by
      refine Ent.cons (by exact rm) ?_
      refine Ent.cons (by exact rm) ?_
      refine Ent.trans ?_ Ent.nilS
      refine Ent.trans ?_ fam_nil
      exact ent)
  rintro ⟨i, ga, gc, vs, dn⟩ ⟨hi, hvl, hv1⟩
  simp only at hi hvl hv1 ⊢
  refine sx ?_
  refine s_if rfl (fun t2 => ?_) (fun t2 => ?_)
  · obtain ⟨⟨sa, sc, sx0⟩, hs⟩ := get_lt is i (by omega)
    have hsz := hsmall _ (List.mem_of_getElem? hs)
    have hmi := mknumberss_get hs
    simp only at hsz
    refine s_ent (ol 3 sa sc (List.replicate sx0.length (vI i)) :: fam 3 ([] : List SIn) :: .hb K 36 [c0, c1, .slice ia is.length ic, c3, c4] :: ol 22 ia ic is :: ol 22 ga gc vs :: fam 3 dn :: fam 3 ((mknumberss is).drop (i + 1)) :: H) (by
      rw [drop_get hmi]
      refine (Ent.famC (by exact rm)).trans ?_
      refine Ent.cons (by exact rm) ?_
      exact Ent.trans (by exact ent) fam_nil) ?_
    refine sx ?_
    have hv0a : Vw (· = vI i) ((⟨sa, sc, List.replicate sx0.length (vI i)⟩ : SIn) :: ([] : List SIn)) sa sc sx0.length := ⟨_, List.mem_cons_self .., rfl, rfl, by simp [Row.xs], fun y hy => List.eq_of_mem_replicate hy⟩
    refine s_loop (fun (j : Nat × SIn × List SIn × List Int) => [(0, .pointer (some ⟨K, 0, none⟩)), (5, .slice ga vs.length gc), (6, .int .i64 i), (7, .slice j.2.1.a j.2.2.2.length j.2.1.c), (8, .int .i64 j.1)])
      (fun j => ol 3 j.2.1.a j.2.1.c j.2.1.xs :: fam 3 j.2.2.1 :: .hb K 36 [c0, c1, .slice ia is.length ic, c3, c4] :: ol 22 ia ic is :: ol 22 ga gc vs :: fam 3 dn :: fam 3 ((mknumberss is).drop (i + 1)) :: H)
      (fun j => j.1 ≤ 20 ∧ j.2.2.2.length = sx0.length + j.1 ∧ j.2.2.2.length ≤ j.2.1.xs.length ∧ (∀ y ∈ j.2.1.xs, y = vI i) ∧ Vw (· = vI i) (j.2.1 :: j.2.2.1) sa sc (sx0.length)) (fun j => 20 - j.1)
      (0, (⟨sa, sc, List.replicate sx0.length (vI i)⟩ : SIn), [], sx0) ⟨Nat.zero_le _, rfl, by simp, fun y hy => List.eq_of_mem_replicate hy, hv0a⟩ ?_
    rintro ⟨k0, x0, tl0, nv0⟩ ⟨hk, hnl, hnx, hxm, hv0_0⟩
    simp only at hk hnl hnx hxm hv0_0 ⊢
    refine sx ?_
    refine s_if rfl (fun t3 => ?_) (fun t3 => ?_)
    · refine sx ?_
      refine s_bsl [vI i] rfl rfl fun b9 => ?_
      refine s_appP (xs := x0.xs) (p := nv0.length) (ys := [vI i]) ?_ ?_
      · intro hc
        have hpl := putL_len (ys := [vI i]) hnx
        refine sx ?_
        refine s_again (k0 + 1, ⟨x0.a, x0.c, putL x0.xs nv0.length [vI i]⟩, tl0, vI i :: nv0) ⟨by simp only; omega, by simp only [List.length_cons]; omega, by simp only [List.length_cons]; rw [hpl]; simp only [List.length_cons, List.length_nil]; omega, putG hxm rfl, ?_⟩ (by simp only; omega)
        · exact hv0_0.put rfl rfl (by simp only [Row.xs]; omega) (putG hxm rfl)
      · intro a' c'
        refine sx ?_
        refine s_again (k0 + 1, ⟨a', c', x0.xs.take nv0.length ++ [vI i]⟩, x0 :: tl0, vI i :: nv0) ⟨by simp only; omega, by simp only [List.length_cons]; omega, by simp only [List.length_cons, List.length_append, List.length_take, List.length_nil]; omega, tkG hxm rfl, ?_⟩ (by simp only; omega) (he := ?_)
        · exact hv0_0.mono (fun s h => List.mem_cons_of_mem _ h) (fun _ h => h)
        · refine Ent.cons (by exact rm) ?_
          refine Ent.famK (by exact rm) (by exact rm) ?_
          exact ent
    · have hgv : Vw (· = vI i) (x0 :: tl0) x0.a x0.c nv0.length := ⟨x0, List.mem_cons_self .., rfl, rfl, hnx, hxm⟩
      obtain ⟨b1, hbm, rfl, rfl, hbl1, hball1⟩ := hv0_0
      obtain ⟨p, hp⟩ := List.mem_iff_getElem?.1 hbm
      have hpm := perm_erase hp
      have hw1_0 : Vw (· = vI i) (b1 :: (x0 :: tl0).eraseIdx p) b1.a b1.c sx0.length := ⟨b1, List.mem_cons_self .., rfl, rfl, hbl1, hball1⟩
      have hw1_1 : Vw (· = vI i) (b1 :: (x0 :: tl0).eraseIdx p) x0.a x0.c (nv0.length) := hgv.mono (fun s hs => (hpm.mem_iff (a := s)).1 hs) (fun _ h => h)
      generalize (x0 :: tl0).eraseIdx p = tm1 at hpm hw1_0 hw1_1
      refine s_ent (ol 3 b1.a b1.c b1.xs :: fam 3 tm1 :: .hb K 36 [c0, c1, .slice ia is.length ic, c3, c4] :: ol 22 ia ic is :: ol 22 ga gc vs :: fam 3 dn :: fam 3 ((mknumberss is).drop (i + 1)) :: H) (by
        refine Ent.trans (H' := ol 3 x0.a x0.c x0.xs :: fam 3 tl0 :: _) (by exact Ent.refl) ?_
        exact (fam_cons' (s := x0)).trans ((fam_perm hpm).trans fam_cons)) ?_
      have hs' : is[i]? = some ⟨b1.a, b1.c, sx0⟩ := hs
      clear hs
      refine sx ?_
      refine s_loop (fun (j : Nat × SIn × List SIn × List Int) => [(0, .pointer (some ⟨K, 0, none⟩)), (5, .slice ga vs.length gc), (6, .int .i64 i), (7, .slice x0.a (nv0.length) x0.c), (9, .slice j.2.1.a j.2.2.2.length j.2.1.c), (10, .int .i64 j.1)])
        (fun j => ol 3 j.2.1.a j.2.1.c j.2.1.xs :: fam 3 j.2.2.1 :: .hb K 36 [c0, c1, .slice ia is.length ic, c3, c4] :: ol 22 ia ic is :: ol 22 ga gc vs :: fam 3 dn :: fam 3 ((mknumberss is).drop (i + 1)) :: H)
        (fun j => j.1 ≤ 90 ∧ j.2.2.2.length = sx0.length + j.1 ∧ j.2.2.2.length ≤ j.2.1.xs.length ∧ (∀ y ∈ j.2.1.xs, y = vI i) ∧ Vw (· = vI i) (j.2.1 :: j.2.2.1) b1.a b1.c (sx0.length) ∧ Vw (· = vI i) (j.2.1 :: j.2.2.1) x0.a x0.c (nv0.length)) (fun j => 90 - j.1)
        (0, b1, tm1, sx0) ⟨Nat.zero_le _, rfl, hbl1, hball1, hw1_0, hw1_1⟩ ?_
      rintro ⟨k1, x1, tl1, nv1⟩ ⟨hk, hnl, hnx, hxm, hv1_0, hv1_1⟩
      simp only at hk hnl hnx hxm hv1_0 hv1_1 ⊢
      refine sx ?_
      refine s_if rfl (fun t3 => ?_) (fun t3 => ?_)
      · refine sx ?_
        refine s_bsl [vI i] rfl rfl fun b9 => ?_
        refine s_appP (xs := x1.xs) (p := nv1.length) (ys := [vI i]) ?_ ?_
        · intro hc
          have hpl := putL_len (ys := [vI i]) hnx
          refine sx ?_
          refine s_again (k1 + 1, ⟨x1.a, x1.c, putL x1.xs nv1.length [vI i]⟩, tl1, vI i :: nv1) ⟨by simp only; omega, by simp only [List.length_cons]; omega, by simp only [List.length_cons]; rw [hpl]; simp only [List.length_cons, List.length_nil]; omega, putG hxm rfl, ?_, ?_⟩ (by simp only; omega)
          · exact hv1_0.put rfl rfl (by simp only [Row.xs]; omega) (putG hxm rfl)
          · exact hv1_1.put rfl rfl (by simp only [Row.xs]; omega) (putG hxm rfl)
        · intro a' c'
          refine sx ?_
          refine s_again (k1 + 1, ⟨a', c', x1.xs.take nv1.length ++ [vI i]⟩, x1 :: tl1, vI i :: nv1) ⟨by simp only; omega, by simp only [List.length_cons]; omega, by simp only [List.length_cons, List.length_append, List.length_take, List.length_nil]; omega, tkG hxm rfl, ?_, ?_⟩ (by simp only; omega) (he := ?_)
          · exact hv1_0.mono (fun s h => List.mem_cons_of_mem _ h) (fun _ h => h)
          · exact hv1_1.mono (fun s h => List.mem_cons_of_mem _ h) (fun _ h => h)
          · refine Ent.cons (by exact rm) ?_
            refine Ent.famK (by exact rm) (by exact rm) ?_
            exact ent
      · have hgv : Vw (· = vI i) (x1 :: tl1) x1.a x1.c nv1.length := ⟨x1, List.mem_cons_self .., rfl, rfl, hnx, hxm⟩
        refine sx ?_
        refine s_bsl [(⟨b1.a, b1.c, sx0⟩ : SIn), ⟨x0.a, x0.c, nv0⟩, ⟨x1.a, x1.c, nv1⟩] rfl rfl fun b9 => ?_
        refine s_app ?_ (hby := by simp only [List.length_cons, List.length_nil]; omega)
        intro ga2 gc2
        refine sx ?_
        have hin : ∀ s : SIn, s ∈ x1 :: tl1 → s ∈ (x1 :: tl1) ++ dn := fun s h => List.mem_append_left _ h
        have hin2 : ∀ s : SIn, s ∈ dn → s ∈ (x1 :: tl1) ++ dn := fun s h => List.mem_append_right _ h
        refine s_again (i + 1, ga2, gc2, vs ++ [(⟨b1.a, b1.c, sx0⟩ : SIn), ⟨x0.a, x0.c, nv0⟩, ⟨x1.a, x1.c, nv1⟩], (x1 :: tl1) ++ dn) ⟨by simp only; omega, by simp only [List.length_append, List.length_cons, List.length_nil]; omega, ?_⟩ (by simp only; omega) (he := ?_)
        · intro j v hjv
          simp only at hjv ⊢
          by_cases h : j < 3 * i
          · rw [List.getElem?_append_left (by omega)] at hjv
            exact (hv1 j v hjv).mono hin2 (fun _ h => h)
          · rw [List.getElem?_append_right (by omega)] at hjv
            rcases (show j - vs.length = 0 ∨ j - vs.length = 1 ∨ j - vs.length = 2 ∨ 3 ≤ j - vs.length by omega) with h0 | h0 | h0 | h0
            · rw [h0] at hjv
              cases hjv
              rw [show j / 3 = i by omega]
              exact hv1_0.mono hin (fun _ h => h)
            · rw [h0] at hjv
              cases hjv
              rw [show j / 3 = i by omega]
              exact hv1_1.mono hin (fun _ h => h)
            · rw [h0] at hjv
              cases hjv
              rw [show j / 3 = i by omega]
              exact hgv.mono hin (fun _ h => h)
            · rw [List.getElem?_eq_none (by simpa using h0)] at hjv
              cases hjv
        · refine Ent.cons (by exact rm) ?_
          refine Ent.cons (by exact rm) ?_
          refine Ent.cons (by exact rm) ?_
          refine Ent.famKA (by exact rm) (by exact rm) (by exact rm) ?_
          exact ent
  obtain rfl : i = is.length := by omega
  clear hi
  refine sx ?_
  refine s_loop (fun i : Nat => [(5, .slice ga vs.length gc), (11, .int .i64 i)]) (fun _ => .hb K 36 [c0, c1, .slice ia is.length ic, c3, c4] :: ol 22 ga gc vs :: fam 3 dn :: H)
    (fun i => i ≤ vs.length) (fun i => vs.length - i) 0 (Nat.zero_le _) ?_
  intro i hi
  refine sx ?_
  refine s_if rfl (fun t3 => ?_) (fun t3 => ?_)
  · obtain ⟨v, hv⟩ := get_lt vs i (by omega)
    obtain ⟨ys, y1, y2, y3⟩ := (hv1 i v hv).sl (E := 3)
    have y4 : RSl w0 (.hb K 36 [c0, c1, .slice ia is.length ic, c3, c4] :: ol 22 ga gc vs :: fam 3 dn :: H) v.a v.c ys := (y3 w0 H).tl.tl
    refine s_kn (Kn.sl y4) fun l4 => ?_
    simp only [maxLen] at l4
    refine sx ?_
    refine s_loop (fun j : Nat => [(5, .slice ga vs.length gc), (11, .int .i64 i), (12, .int .i64 j)]) (fun _ => .hb K 36 [c0, c1, .slice ia is.length ic, c3, c4] :: ol 22 ga gc vs :: fam 3 dn :: H)
      (fun j => j ≤ v.xs.length) (fun j => v.xs.length - j) 0 (Nat.zero_le _) ?_
    intro j hj
    refine sx ?_
    refine s_if rfl (fun t4 => ?_) (fun t4 => ?_)
    · obtain ⟨y, hy⟩ := get_lt ys j (by omega)
      have hye := y2 y (List.mem_of_getElem? hy)
      refine sx ?_
      refine s_ifn rfl (fun t5 => absurd (by rw [hye]; show -7 - ((i / 3 : Nat) : Int) = -7 - (i : Int) / 3; omega) t5) (fun t5 => ?_)
      refine sx ?_
      exact s_again (j + 1) (by omega) (by omega)
    · refine sx ?_
      exact s_again (i + 1) (by omega) (by omega)
  refine sx ?_
  exact s_ret1 rfl rfl ⟨rfl, rfl⟩ (Ent.head (Ent.tl (Ent.tl Ent.refl)))
def mkouterMsgs (i : Nat) (s : SMg) : SMg := ⟨s.a, s.c, List.replicate s.xs.length (vM i)⟩
def mkouterMsgss (ls : List SMg) : List SMg := ls.mapIdx mkouterMsgs
theorem mkouterMsgss_len (ls : List SMg) : (mkouterMsgss ls).length = ls.length := by simp [mkouterMsgss]
theorem mkouterMsgss_get {ls : List SMg} {i : Nat} {s : SMg} (h : ls[i]? = some s) : (mkouterMsgss ls)[i]? = some (mkouterMsgs i s) := by simp [mkouterMsgss, h]
set_option maxHeartbeats 4000000 in
theorem outerMsgs_s {K : Nat} {c0 c1 c2 c3 : Value} {ia : Option Addr} {ic : Nat} {is : List SMg} (hn : is.length ≤ 1099511627776) (hsmall : ∀ f ∈ is, f.xs.length ≤ 4294967296) :
    FnS Tryz.prog w0 (.hb K 36 [c0, c1, c2, c3, .slice ia is.length ic] :: ol 26 ia ic is :: fam 56 is :: H) 30 #[.pointer (some ⟨K, 0, none⟩)] (fun v H' => v = .bool true ∧ H' = .hb K 36 [c0, c1, c2, c3, .slice ia is.length ic] :: H) := by
  refine fns_enter Tryz.func30 rfl rfl rfl ?_
  refine sx ?_
  refine s_loop (fun i : Nat => [(0, .pointer (some ⟨K, 0, none⟩)), (3, .int .i64 i)]) (fun i => .hb K 36 [c0, c1, c2, c3, .slice ia is.length ic] :: ol 26 ia ic is :: fam 56 ((mkouterMsgss is).take i) :: fam 56 (is.drop i) :: H)
    (fun i => i ≤ is.length) (fun i => is.length - i) 0 (Nat.zero_le _) ?_ (he := by
      refine Ent.cons (by exact rm) ?_
      refine Ent.cons (by exact rm) ?_
      exact fam_nil)
  intro i hi
  refine sx ?_
  refine s_if rfl (fun t1 => ?_) (fun t1 => ?_)
  · obtain ⟨⟨sa, sc, sx0⟩, hs⟩ := get_lt is i (by omega)
    have hsz := hsmall _ (List.mem_of_getElem? hs)
    have hmi := mkouterMsgss_get hs
    simp only at hsz
    refine s_ent (ol 56 sa sc sx0 :: .hb K 36 [c0, c1, c2, c3, .slice ia is.length ic] :: ol 26 ia ic is :: fam 56 ((mkouterMsgss is).take i) :: fam 56 (is.drop (i + 1)) :: H) (by
      rw [drop_get hs]
      exact (Ent.famC (by exact rm)).trans (by exact ent)) ?_
    refine sx ?_
    refine s_loop (fun (j : Nat × List Mg) => [(0, .pointer (some ⟨K, 0, none⟩)), (3, .int .i64 i), (4, .int .i64 j.1)]) (fun j => ol 56 sa sc j.2 :: .hb K 36 [c0, c1, c2, c3, .slice ia is.length ic] :: ol 26 ia ic is :: fam 56 ((mkouterMsgss is).take i) :: fam 56 (is.drop (i + 1)) :: H)
      (fun j => j.1 ≤ sx0.length ∧ j.2.length = sx0.length ∧ ∀ x, x < j.1 → j.2[x]? = some (vM i)) (fun j => sx0.length - j.1) (0, sx0) ⟨Nat.zero_le _, rfl, fun x h => by omega⟩ ?_
    rintro ⟨j, ys⟩ ⟨hj, hyl, hys⟩
    simp only at hj hyl hys ⊢
    refine sx ?_
    refine s_if rfl (fun t2 => ?_) (fun t2 => ?_)
    · have t2 : (j : Int) < (sx0.length : Int) := t2
      refine s_kn (φ := ∃ ad, sa = some ad) (fun w hw => own_gA (Sat.ownOf (c' := ol 56 sa sc ys) .hd hw) (by omega)) ?_
      rintro ⟨ad, rfl⟩
      refine sx ?_
      refine s_rw (t := 43) (v' := .agg (vM i).cells.toArray) rfl rfl ?_
      refine sx ?_
      refine s_setA (i := j) (vM i) rfl rfl (by exact at_) rfl (by omega) ?_
      refine sx ?_
      refine s_again (j + 1, ys.set j (vM i)) ⟨by simp only; omega, by simp only [List.length_set]; exact hyl, fun x hx => ?_⟩ (by simp only; omega)
      simp only at hx ⊢
      by_cases h : x = j
      · subst h
        rw [List.getElem?_set_self (by omega)]
      · rw [List.getElem?_set_ne (by omega)]
        exact hys x (by omega)
    · have t2 : ¬ (j : Int) < (sx0.length : Int) := t2
      have hye := rep_all hyl (fun x hx => hys x (by omega))
      subst hye
      refine sx ?_
      refine s_again (i + 1) (by omega) (by omega) (he := ?_)
      rw [take_snoc' hmi]
      refine Ent.cons (by exact rm) ?_
      refine Ent.cons (by exact rm) ?_
      refine Ent.famS (by exact rm) (by exact rm) ?_
      exact ent
  obtain rfl : i = is.length := by omega
  rw [List.take_of_length_le (by rw [mkouterMsgss_len]; exact Nat.le_refl _)]
  refine sx ?_
  refine s_loop (fun (i : Nat × Option Addr × Nat × List SMg × List SMg) => [(0, .pointer (some ⟨K, 0, none⟩)), (5, .slice i.2.1 i.2.2.2.1.length i.2.2.1), (6, .int .i64 i.1)])
    (fun i => .hb K 36 [c0, c1, c2, c3, .slice ia is.length ic] :: ol 26 ia ic is :: ol 26 i.2.1 i.2.2.1 i.2.2.2.1 :: fam 56 i.2.2.2.2 :: fam 56 ((mkouterMsgss is).drop i.1) :: H)
    (fun i => i.1 ≤ is.length ∧ i.2.2.2.1.length = 2 * i.1 ∧ (∀ j v, i.2.2.2.1[j]? = some v → Vw (· = vM (j / 2)) i.2.2.2.2 v.a v.c v.xs.length))
    (fun i => is.length - i.1) (0, none, 0, [], []) ⟨Nat.zero_le _, rfl, fun j v h => by simp at h⟩ ?_ (he := by
      refine Ent.cons (by exact rm) ?_
      refine Ent.cons (by exact rm) ?_
      refine Ent.trans ?_ Ent.nilS
      refine Ent.trans ?_ fam_nil
      exact ent)
  rintro ⟨i, ga, gc, vs, dn⟩ ⟨hi, hvl, hv1⟩
  simp only at hi hvl hv1 ⊢
  refine sx ?_
  refine s_if rfl (fun t2 => ?_) (fun t2 => ?_)
  · obtain ⟨⟨sa, sc, sx0⟩, hs⟩ := get_lt is i (by omega)
    have hsz := hsmall _ (List.mem_of_getElem? hs)
    have hmi := mkouterMsgss_get hs
    simp only at hsz
    refine s_ent (ol 56 sa sc (List.replicate sx0.length (vM i)) :: fam 56 ([] : List SMg) :: .hb K 36 [c0, c1, c2, c3, .slice ia is.length ic] :: ol 26 ia ic is :: ol 26 ga gc vs :: fam 56 dn :: fam 56 ((mkouterMsgss is).drop (i + 1)) :: H) (by
      rw [drop_get hmi]
      refine (Ent.famC (by exact rm)).trans ?_
      refine Ent.cons (by exact rm) ?_
      exact Ent.trans (by exact ent) fam_nil) ?_
    refine sx ?_
    have hv0a : Vw (· = vM i) ((⟨sa, sc, List.replicate sx0.length (vM i)⟩ : SMg) :: ([] : List SMg)) sa sc sx0.length := ⟨_, List.mem_cons_self .., rfl, rfl, by simp [Row.xs], fun y hy => List.eq_of_mem_replicate hy⟩
    refine s_loop (fun (j : Nat × SMg × List SMg × List Mg) => [(0, .pointer (some ⟨K, 0, none⟩)), (5, .slice ga vs.length gc), (6, .int .i64 i), (7, .slice j.2.1.a j.2.2.2.length j.2.1.c), (8, .int .i64 j.1)])
      (fun j => ol 56 j.2.1.a j.2.1.c j.2.1.xs :: fam 56 j.2.2.1 :: .hb K 36 [c0, c1, c2, c3, .slice ia is.length ic] :: ol 26 ia ic is :: ol 26 ga gc vs :: fam 56 dn :: fam 56 ((mkouterMsgss is).drop (i + 1)) :: H)
      (fun j => j.1 ≤ 40 ∧ j.2.2.2.length = sx0.length + j.1 ∧ j.2.2.2.length ≤ j.2.1.xs.length ∧ (∀ y ∈ j.2.1.xs, y = vM i) ∧ Vw (· = vM i) (j.2.1 :: j.2.2.1) sa sc (sx0.length)) (fun j => 40 - j.1)
      (0, (⟨sa, sc, List.replicate sx0.length (vM i)⟩ : SMg), [], sx0) ⟨Nat.zero_le _, rfl, by simp, fun y hy => List.eq_of_mem_replicate hy, hv0a⟩ ?_
    rintro ⟨k0, x0, tl0, nv0⟩ ⟨hk, hnl, hnx, hxm, hv0_0⟩
    simp only at hk hnl hnx hxm hv0_0 ⊢
    refine sx ?_
    refine s_if rfl (fun t3 => ?_) (fun t3 => ?_)
    · refine sx ?_
      refine s_rw (t := 69) (v' := .agg (vM i).cells.toArray) rfl rfl ?_
      refine s_bsl [vM i] rfl rfl fun b9 => ?_
      refine s_appP (xs := x0.xs) (p := nv0.length) (ys := [vM i]) ?_ ?_
      · intro hc
        have hpl := putL_len (ys := [vM i]) hnx
        refine sx ?_
        refine s_again (k0 + 1, ⟨x0.a, x0.c, putL x0.xs nv0.length [vM i]⟩, tl0, vM i :: nv0) ⟨by simp only; omega, by simp only [List.length_cons]; omega, by simp only [List.length_cons]; rw [hpl]; simp only [List.length_cons, List.length_nil]; omega, putG hxm rfl, ?_⟩ (by simp only; omega)
        · exact hv0_0.put rfl rfl (by simp only [Row.xs]; omega) (putG hxm rfl)
      · intro a' c'
        refine sx ?_
        refine s_again (k0 + 1, ⟨a', c', x0.xs.take nv0.length ++ [vM i]⟩, x0 :: tl0, vM i :: nv0) ⟨by simp only; omega, by simp only [List.length_cons]; omega, by simp only [List.length_cons, List.length_append, List.length_take, List.length_nil]; omega, tkG hxm rfl, ?_⟩ (by simp only; omega) (he := ?_)
        · exact hv0_0.mono (fun s h => List.mem_cons_of_mem _ h) (fun _ h => h)
        · refine Ent.cons (by exact rm) ?_
          refine Ent.famK (by exact rm) (by exact rm) ?_
          exact ent
    · have hgv : Vw (· = vM i) (x0 :: tl0) x0.a x0.c nv0.length := ⟨x0, List.mem_cons_self .., rfl, rfl, hnx, hxm⟩
      refine sx ?_
      refine s_bsl [(⟨sa, sc, sx0⟩ : SMg), ⟨x0.a, x0.c, nv0⟩] rfl rfl fun b9 => ?_
      refine s_app ?_ (hby := by simp only [List.length_cons, List.length_nil]; omega)
      intro ga2 gc2
      refine sx ?_
      have hin : ∀ s : SMg, s ∈ x0 :: tl0 → s ∈ (x0 :: tl0) ++ dn := fun s h => List.mem_append_left _ h
      have hin2 : ∀ s : SMg, s ∈ dn → s ∈ (x0 :: tl0) ++ dn := fun s h => List.mem_append_right _ h
      refine s_again (i + 1, ga2, gc2, vs ++ [(⟨sa, sc, sx0⟩ : SMg), ⟨x0.a, x0.c, nv0⟩], (x0 :: tl0) ++ dn) ⟨by simp only; omega, by simp only [List.length_append, List.length_cons, List.length_nil]; omega, ?_⟩ (by simp only; omega) (he := ?_)
      · intro j v hjv
        simp only at hjv ⊢
        by_cases h : j < 2 * i
        · rw [List.getElem?_append_left (by omega)] at hjv
          exact (hv1 j v hjv).mono hin2 (fun _ h => h)
        · rw [List.getElem?_append_right (by omega)] at hjv
          rcases (show j - vs.length = 0 ∨ j - vs.length = 1 ∨ 2 ≤ j - vs.length by omega) with h0 | h0 | h0
          · rw [h0] at hjv
            cases hjv
            rw [show j / 2 = i by omega]
            exact hv0_0.mono hin (fun _ h => h)
          · rw [h0] at hjv
            cases hjv
            rw [show j / 2 = i by omega]
            exact hgv.mono hin (fun _ h => h)
          · rw [List.getElem?_eq_none (by simpa using h0)] at hjv
            cases hjv
      · refine Ent.cons (by exact rm) ?_
        refine Ent.cons (by exact rm) ?_
        refine Ent.cons (by exact rm) ?_
        refine Ent.famKA (by exact rm) (by exact rm) (by exact rm) ?_
        exact ent
  obtain rfl : i = is.length := by omega
  clear hi
  refine sx ?_
  refine s_loop (fun i : Nat => [(5, .slice ga vs.length gc), (9, .int .i64 i)]) (fun _ => .hb K 36 [c0, c1, c2, c3, .slice ia is.length ic] :: ol 26 ga gc vs :: fam 56 dn :: H)
    (fun i => i ≤ vs.length) (fun i => vs.length - i) 0 (Nat.zero_le _) ?_
  intro i hi
  refine sx ?_
  refine s_if rfl (fun t3 => ?_) (fun t3 => ?_)
  · obtain ⟨v, hv⟩ := get_lt vs i (by omega)
    obtain ⟨ys, y1, y2, y3⟩ := (hv1 i v hv).sl (E := 56)
    have y4 : RSl w0 (.hb K 36 [c0, c1, c2, c3, .slice ia is.length ic] :: ol 26 ga gc vs :: fam 56 dn :: H) v.a v.c ys := (y3 w0 H).tl.tl
    refine s_kn (Kn.sl y4) fun l4 => ?_
    simp only [maxLen] at l4
    refine sx ?_
    refine s_loop (fun j : Nat => [(5, .slice ga vs.length gc), (9, .int .i64 i), (10, .int .i64 j)]) (fun _ => .hb K 36 [c0, c1, c2, c3, .slice ia is.length ic] :: ol 26 ga gc vs :: fam 56 dn :: H)
      (fun j => j ≤ v.xs.length) (fun j => v.xs.length - j) 0 (Nat.zero_le _) ?_
    intro j hj
    refine sx ?_
    refine s_if rfl (fun t4 => ?_) (fun t4 => ?_)
    · obtain ⟨y, hy⟩ := get_lt ys j (by omega)
      have hye := y2 y (List.mem_of_getElem? hy)
      refine sx ?_
      have hst : y.st = 7000 + ((i / 2 : Nat) : Int) := by rw [hye]
      have hlo : y.lo = [] := by rw [hye]
      refine s_lifn rfl (fun t5 => absurd (by omega) t5) (fun t5 => ?_)
      refine sx ?_
      refine s_if rfl (fun t6 => by rw [hlo] at t6; exact absurd t6 (by decide)) (fun t6 => ?_)
      refine sx ?_
      exact s_again (j + 1) (by omega) (by omega)
    · refine sx ?_
      exact s_again (i + 1) (by omega) (by omega)
  refine sx ?_
  exact s_ret1 rfl rfl ⟨rfl, rfl⟩ (Ent.head (Ent.tl (Ent.tl Ent.refl)))
end Go.Sx
