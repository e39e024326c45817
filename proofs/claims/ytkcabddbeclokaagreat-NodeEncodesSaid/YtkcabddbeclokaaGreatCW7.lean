/- Part of a proof: the book's end: lists of keys are written over and made longer. -/
import Derived.Test.YtkcabddbeclokaaGreatCW4j
namespace Go.Sx
open Go Go.Proofs
set_option maxRecDepth 10000
variable {w0 : World} {H : List Ck}
/-- A key that is one mark, in one of these blocks. -/
def Gk (bs : List SB) (m : UInt8) (y : SB) : Prop := y.xs = [m] ∧ y ∈ bs
theorem Gk.mono {bs bs' : List SB} {m : UInt8} {y : SB} (h : Gk bs m y) (hb : ∀ s, s ∈ bs → s ∈ bs') : Gk bs' m y := ⟨h.1, hb _ h.2⟩
abbrev mkK (b : Nat) (m : UInt8) : SB := ⟨some ⟨b, 0, none⟩, 1, [m]⟩
theorem mkK_good {bs : List SB} {b : Nat} {m : UInt8} : Gk (bs ++ [mkK b m]) m (mkK b m) := ⟨rfl, List.mem_append_right _ (List.mem_singleton.2 rfl)⟩
def DnK (is : List SSB) (i : Nat) (dn : List SSB) (bs : List SB) : Prop := dn.length = i ∧ ∀ j s, j < i → is[j]? = some s → ∃ d, dn[j]? = some d ∧ d.a = s.a ∧ d.c = s.c ∧ d.xs.length = s.xs.length ∧ ∀ y ∈ d.xs, Gk bs (markL j) y
theorem DnK.mono {is dn : List SSB} {i : Nat} {bs bs' : List SB} (h : DnK is i dn bs) (hb : ∀ s, s ∈ bs → s ∈ bs') : DnK is i dn bs' :=
  ⟨h.1, fun j s hj hs => (h.2 j s hj hs).imp fun _ ⟨h1, h2, h3, h4, h5⟩ => ⟨h1, h2, h3, h4, fun y hy => (h5 y hy).mono hb⟩⟩
theorem all_get {α : Type} {p : α → Prop} {l : List α} (h : ∀ x, x < l.length → ∃ y, l[x]? = some y ∧ p y) : ∀ y ∈ l, p y := fun y hy => by
  obtain ⟨i, hi⟩ := List.getElem?_of_mem hy
  obtain ⟨z, h1, h2⟩ := h i (List.getElem?_eq_some_iff.1 hi).1
  rw [hi] at h1
  cases h1
  exact h2
set_option maxHeartbeats 4000000 in
theorem outerK_s {K : Nat} {c0 c1 c2 c4 : Value} {ia : Option Addr} {ic : Nat} {is : List SSB} (hn : is.length ≤ 1099511627776) (hsmall : ∀ f ∈ is, f.xs.length ≤ 4294967296) :
    FnS Tryz.prog w0 (.hb K 36 [c0, c1, c2, .slice ia is.length ic, c4] :: ol 23 ia ic is :: fam 44 is :: H) 29 #[.pointer (some ⟨K, 0, none⟩)] (fun v H' => v = .bool true ∧ H' = .hb K 36 [c0, c1, c2, .slice ia is.length ic, c4] :: H) := by
  refine fns_enter Tryz.func29 rfl rfl rfl ?_
  refine sx ?_
  refine s_loop (fun i : Nat × List SSB × List SB => [(0, .pointer (some ⟨K, 0, none⟩)), (3, .int .i64 i.1)]) (fun i => .hb K 36 [c0, c1, c2, .slice ia is.length ic, c4] :: ol 23 ia ic is :: fam 44 i.2.1 :: fam 44 (is.drop i.1) :: fam 5 i.2.2 :: H)
    (fun i => i.1 ≤ is.length ∧ DnK is i.1 i.2.1 i.2.2) (fun i => is.length - i.1) (0, [], []) ⟨Nat.zero_le _, rfl, fun j s h => by omega⟩ ?_ (he := by
      refine Ent.cons (by exact rm) ?_
      refine Ent.cons (by exact rm) ?_
      refine Ent.trans ?_ fam_nil
      refine Ent.cons (by exact rm) ?_
      exact fam_nil)
  rintro ⟨i, dn, bs⟩ ⟨hi, hdn⟩
  simp only at hi hdn ⊢
  refine sx ?_
  refine s_if rfl (fun t1 => ?_) (fun t1 => ?_)
  · obtain ⟨⟨sa, sc, sx0⟩, hs⟩ := get_lt is i (by omega)
    have hsz := hsmall _ (List.mem_of_getElem? hs)
    simp only at hsz
    refine s_ent (ol 44 sa sc sx0 :: .hb K 36 [c0, c1, c2, .slice ia is.length ic, c4] :: ol 23 ia ic is :: fam 44 dn :: fam 44 (is.drop (i + 1)) :: fam 5 bs :: H) (by
      rw [drop_get hs]
      exact (Ent.famC (by exact rm)).trans (by exact ent)) ?_
    refine sx ?_
    refine s_loop (fun (j : Nat × List SB × List SB) => [(0, .pointer (some ⟨K, 0, none⟩)), (3, .int .i64 i), (4, .int .i64 j.1)]) (fun j => ol 44 sa sc j.2.1 :: .hb K 36 [c0, c1, c2, .slice ia is.length ic, c4] :: ol 23 ia ic is :: fam 44 dn :: fam 44 (is.drop (i + 1)) :: fam 5 j.2.2 :: H)
      (fun j => j.1 ≤ sx0.length ∧ j.2.1.length = sx0.length ∧ (∀ x, x < j.1 → ∃ y, j.2.1[x]? = some y ∧ Gk j.2.2 (markL i) y) ∧ (∀ s, s ∈ bs → s ∈ j.2.2)) (fun j => sx0.length - j.1) (0, sx0, bs) ⟨Nat.zero_le _, rfl, fun x h => by omega, fun _ h => h⟩ ?_
    rintro ⟨j, ys, bs2⟩ ⟨hj, hyl, hys, hbb⟩
    simp only at hj hyl hys hbb ⊢
    refine sx ?_
    refine s_if rfl (fun t2 => ?_) (fun t2 => ?_)
    · have t2 : (j : Int) < (sx0.length : Int) := t2
      refine s_kn (φ := ∃ ad, sa = some ad) (fun w hw => own_gA (Sat.ownOf (c' := ol 44 sa sc ys) .hd hw) (by omega)) ?_
      rintro ⟨ad, rfl⟩
      refine sx ?_; refine s_drR (ol 44 (some ad) sc ys) (by exact rm) (.one true 0 (.one true 1 (.one true 2 (.one true 3 (.one true 4 (.one true 5 (.one true 6 (.one true 7 (.one true 8 (.one false 9 (.one false 10 (.one true 11 (.one false 12 .nil))))))))))))) mixed (by kernel_rfl) ?_; refine sx ?_
      refine s_callV rfl (mark_s (i := i) (by omega)) ?_
      refine sx ?_
      refine s_bsl ([markL i] : Bs) rfl rfl fun b42 => ?_
      refine sx ?_
      refine s_set1 (i := j) (y := mkK b42 (markL i)) rfl rfl (by exact at_) rfl (by omega) ?_
      refine sx ?_
      refine s_again (j + 1, ys.set j (mkK b42 (markL i)), bs2 ++ [mkK b42 (markL i)]) ⟨by simp only; omega, by simp only [List.length_set]; exact hyl, fun x hx => ?_, fun s hs => List.mem_append_left _ (hbb s hs)⟩ (by simp only; omega) (he := ?_)
      · simp only at hx ⊢
        by_cases h : x = j
        · subst h
          exact ⟨_, List.getElem?_set_self (by omega), mkK_good⟩
        · obtain ⟨y, h1, h2⟩ := hys x (by omega)
          exact ⟨y, by rw [List.getElem?_set_ne (by omega)]; exact h1, h2.mono fun s hs => List.mem_append_left _ hs⟩
      · refine Ent.cons (by exact rm) (Ent.cons (by exact rm) (Ent.cons (by exact rm) (Ent.cons (by exact rm) (Ent.cons (by exact rm) ?_))))
        refine Ent.famS (s := mkK b42 (markL i)) (by exact rm) (by exact rm) ?_
        exact ent
    · have t2 : ¬ (j : Int) < (sx0.length : Int) := t2
      have hya := all_get (l := ys) (fun x hx => hys x (by omega))
      refine sx ?_
      refine s_again (i + 1, dn ++ [(⟨sa, sc, ys⟩ : SSB)], bs2) ⟨by simp only; omega, by simp only [List.length_append, List.length_cons, List.length_nil, hdn.1], fun k s hk hks => ?_⟩ (by simp only; omega) (he := ?_)
      · simp only at hk ⊢
        by_cases h : k < i
        · obtain ⟨d, d1, d2, d3, d4, d5⟩ := hdn.2 k s h hks
          exact ⟨d, by rw [List.getElem?_append_left (by rw [hdn.1]; exact h)]; exact d1, d2, d3, d4, fun y hy => (d5 y hy).mono hbb⟩
        · obtain rfl : k = i := by omega
          rw [hs] at hks
          cases hks
          refine ⟨⟨sa, sc, ys⟩, by rw [List.getElem?_append_right (by rw [hdn.1]; exact Nat.le_refl _), hdn.1, Nat.sub_self]; rfl, rfl, rfl, hyl, hya⟩
      · refine Ent.cons (by exact rm) ?_
        refine Ent.cons (by exact rm) ?_
        refine Ent.famS (by exact rm) (by exact rm) ?_
        exact ent
  obtain rfl : i = is.length := by omega
  obtain ⟨hdl, hdg⟩ := hdn
  refine sx ?_
  refine s_loop (fun (i : Nat × Option Addr × Nat × List SSB × List SSB × List SB) => [(0, .pointer (some ⟨K, 0, none⟩)), (5, .slice i.2.1 i.2.2.2.1.length i.2.2.1), (6, .int .i64 i.1)])
    (fun i => .hb K 36 [c0, c1, c2, .slice ia is.length ic, c4] :: ol 23 ia ic is :: ol 23 i.2.1 i.2.2.1 i.2.2.2.1 :: fam 44 i.2.2.2.2.1 :: fam 44 (dn.drop i.1) :: fam 5 i.2.2.2.2.2 :: H)
    (fun i => i.1 ≤ is.length ∧ i.2.2.2.1.length = 2 * i.1 ∧ (∀ j v, i.2.2.2.1[j]? = some v → Vw (Gk i.2.2.2.2.2 (markL (j / 2))) i.2.2.2.2.1 v.a v.c v.xs.length) ∧ (∀ s, s ∈ bs → s ∈ i.2.2.2.2.2))
    (fun i => is.length - i.1) (0, none, 0, [], [], bs) ⟨Nat.zero_le _, rfl, fun j v h => by simp at h, fun _ h => h⟩ ?_ (he := by
      refine Ent.cons (by exact rm) ?_
      refine Ent.cons (by exact rm) ?_
      refine Ent.trans ?_ Ent.nilS
      refine Ent.trans ?_ fam_nil
      exact ent)
  rintro ⟨i, ga, gc, vs, dd, cs⟩ ⟨hi, hvl, hv1, hcc⟩
  simp only at hi hvl hv1 hcc ⊢
  refine sx ?_
  refine s_if rfl (fun t2 => ?_) (fun t2 => ?_)
  · obtain ⟨⟨sa, sc, sx0⟩, hs⟩ := get_lt is i (by omega)
    have hsz := hsmall _ (List.mem_of_getElem? hs)
    obtain ⟨⟨da, dc, dx⟩, d1, d2, d3, d4, d5⟩ := hdg i _ (by omega) hs
    simp only at hsz d2 d3 d4 d5
    subst d2
    subst d3
    have d5 : ∀ y ∈ dx, Gk cs (markL i) y := fun y hy => (d5 y hy).mono hcc
    refine s_ent (ol 44 da dc dx :: fam 44 ([] : List SSB) :: .hb K 36 [c0, c1, c2, .slice ia is.length ic, c4] :: ol 23 ia ic is :: ol 23 ga gc vs :: fam 44 dd :: fam 44 (dn.drop (i + 1)) :: fam 5 cs :: H) (by
      rw [drop_get d1]
      refine (Ent.famC (by exact rm)).trans ?_
      refine Ent.cons (by exact rm) ?_
      exact Ent.trans (by exact ent) fam_nil) ?_
    refine sx ?_
    refine s_loop (fun (j : Nat × SSB × List SSB × List SB × List SB) => [(0, .pointer (some ⟨K, 0, none⟩)), (5, .slice ga vs.length gc), (6, .int .i64 i), (7, .slice j.2.1.a j.2.2.2.1.length j.2.1.c), (8, .int .i64 j.1)])
      (fun j => ol 44 j.2.1.a j.2.1.c j.2.1.xs :: fam 44 j.2.2.1 :: .hb K 36 [c0, c1, c2, .slice ia is.length ic, c4] :: ol 23 ia ic is :: ol 23 ga gc vs :: fam 44 dd :: fam 44 (dn.drop (i + 1)) :: fam 5 j.2.2.2.2 :: H)
      (fun j => j.1 ≤ 40 ∧ j.2.2.2.1.length = sx0.length + j.1 ∧ j.2.2.2.1.length ≤ j.2.1.xs.length ∧ (∀ y ∈ j.2.1.xs, Gk j.2.2.2.2 (markL i) y) ∧ Vw (Gk j.2.2.2.2 (markL i)) (j.2.1 :: j.2.2.1) da dc sx0.length ∧ (∀ s, s ∈ cs → s ∈ j.2.2.2.2)) (fun j => 40 - j.1)
      (0, (⟨da, dc, dx⟩ : SSB), [], sx0, cs) ⟨Nat.zero_le _, rfl, by simp only; omega, d5, ⟨_, List.mem_cons_self .., rfl, rfl, by simp only [Row.xs]; omega, d5⟩, fun _ h => h⟩ ?_
    rintro ⟨k0, x0, tl0, nv0, es⟩ ⟨hk, hnl, hnx, hxm, hv0, hee⟩
    simp only at hk hnl hnx hxm hv0 hee ⊢
    refine sx ?_
    refine s_if rfl (fun t3 => ?_) (fun t3 => ?_)
    · refine sx ?_
      refine s_callV rfl (mark_s (i := i) (by omega)) ?_
      refine sx ?_
      refine s_bsl ([markL i] : Bs) rfl rfl fun b67 => ?_
      refine sx ?_
      have hup : ∀ s : SB, s ∈ es → s ∈ es ++ [mkK b67 (markL i)] := fun s h => List.mem_append_left _ h
      have hxm2 : ∀ y ∈ x0.xs, Gk (es ++ [mkK b67 (markL i)]) (markL i) y := fun y hy => (hxm y hy).mono hup
      refine s_bsl [mkK b67 (markL i)] rfl rfl fun b68 => ?_
      refine s_appP (xs := x0.xs) (p := nv0.length) (ys := [mkK b67 (markL i)]) ?_ ?_
      · intro hc
        have hpl := putL_len (ys := [mkK b67 (markL i)]) hnx
        refine sx ?_
        refine s_again (k0 + 1, ⟨x0.a, x0.c, putL x0.xs nv0.length [mkK b67 (markL i)]⟩, tl0, mkK b67 (markL i) :: nv0, es ++ [mkK b67 (markL i)]) ⟨by simp only; omega, by simp only [List.length_cons]; omega, by simp only [List.length_cons]; rw [hpl]; simp only [List.length_cons, List.length_nil]; omega, putG hxm2 mkK_good, ?_, fun s h => hup s (hee s h)⟩ (by simp only; omega) (he := ?_)
        · exact (hv0.mono (fun _ h => h) (fun y hy => Gk.mono hy hup)).put rfl rfl (by simp only [Row.xs]; omega) (putG hxm2 mkK_good)
        · refine Ent.cons (by exact rm) (Ent.cons (by exact rm) (Ent.cons (by exact rm) (Ent.cons (by exact rm) (Ent.cons (by exact rm) (Ent.cons (by exact rm) (Ent.cons (by exact rm) ?_))))))
          refine Ent.famS (s := mkK b67 (markL i)) (by exact rm) (by exact rm) ?_
          exact ent
      · intro a' c'
        refine sx ?_
        refine s_again (k0 + 1, ⟨a', c', x0.xs.take nv0.length ++ [mkK b67 (markL i)]⟩, x0 :: tl0, mkK b67 (markL i) :: nv0, es ++ [mkK b67 (markL i)]) ⟨by simp only; omega, by simp only [List.length_cons]; omega, by simp only [List.length_cons, List.length_append, List.length_take, List.length_nil]; omega, tkG hxm2 mkK_good, ?_, fun s h => hup s (hee s h)⟩ (by simp only; omega) (he := ?_)
        · exact hv0.mono (fun s h => List.mem_cons_of_mem _ h) (fun y hy => Gk.mono hy hup)
        · refine Ent.cons (by exact rm) ?_
          refine Ent.famK (by exact rm) (by exact rm) ?_
          refine Ent.cons (by exact rm) (Ent.cons (by exact rm) (Ent.cons (by exact rm) (Ent.cons (by exact rm) (Ent.cons (by exact rm) ?_))))
          refine Ent.famS (s := mkK b67 (markL i)) (by exact rm) (by exact rm) ?_
          exact ent
    · have hgv : Vw (Gk es (markL i)) (x0 :: tl0) x0.a x0.c nv0.length := ⟨x0, List.mem_cons_self .., rfl, rfl, hnx, hxm⟩
      refine sx ?_
      refine s_bsl [(⟨da, dc, sx0⟩ : SSB), ⟨x0.a, x0.c, nv0⟩] rfl rfl fun b9 => ?_
      refine s_app ?_ (hby := by simp only [List.length_cons, List.length_nil]; omega)
      intro ga2 gc2
      refine sx ?_
      have hin : ∀ s : SSB, s ∈ x0 :: tl0 → s ∈ (x0 :: tl0) ++ dd := fun s h => List.mem_append_left _ h
      have hin2 : ∀ s : SSB, s ∈ dd → s ∈ (x0 :: tl0) ++ dd := fun s h => List.mem_append_right _ h
      refine s_again (i + 1, ga2, gc2, vs ++ [(⟨da, dc, sx0⟩ : SSB), ⟨x0.a, x0.c, nv0⟩], (x0 :: tl0) ++ dd, es) ⟨by simp only; omega, by simp only [List.length_append, List.length_cons, List.length_nil]; omega, ?_, fun s h => hee s (hcc s h)⟩ (by simp only; omega) (he := ?_)
      · intro j v hjv
        simp only at hjv ⊢
        by_cases h : j < 2 * i
        · rw [List.getElem?_append_left (by omega)] at hjv
          exact (hv1 j v hjv).mono hin2 (fun y hy => Gk.mono hy hee)
        · rw [List.getElem?_append_right (by omega)] at hjv
          rcases (show j - vs.length = 0 ∨ j - vs.length = 1 ∨ 2 ≤ j - vs.length by omega) with h0 | h0 | h0
          · rw [h0] at hjv
            cases hjv
            rw [show j / 2 = i by omega]
            exact hv0.mono hin (fun _ h => h)
          · rw [h0] at hjv
            cases hjv
            rw [show j / 2 = i by omega]
            exact hgv.mono hin (fun _ h => h)
          · rw [List.getElem?_eq_none (by simpa using h0)] at hjv
            cases hjv
      · refine Ent.cons (by exact rm) ?_
        refine Ent.cons (by exact rm) ?_
        refine Ent.cons (by exact rm) ?_
        refine Ent.famKA (by exact rm) (by exact rm) (by exact rm) ?_
        exact ent
  obtain rfl : i = is.length := by omega
  clear hi
  refine sx ?_
  refine s_loop (fun i : Nat => [(5, .slice ga vs.length gc), (9, .int .i64 i)]) (fun _ => .hb K 36 [c0, c1, c2, .slice ia is.length ic, c4] :: ol 23 ga gc vs :: fam 44 dd :: fam 5 cs :: H)
    (fun i => i ≤ vs.length) (fun i => vs.length - i) 0 (Nat.zero_le _) ?_
  intro i hi
  refine sx ?_
  refine s_if rfl (fun t3 => ?_) (fun t3 => ?_)
  · obtain ⟨v, hv⟩ := get_lt vs i (by omega)
    obtain ⟨ys, y1, y2, y3⟩ := (hv1 i v hv).sl (E := 44)
    have y4 : RSl w0 (.hb K 36 [c0, c1, c2, .slice ia is.length ic, c4] :: ol 23 ga gc vs :: fam 44 dd :: fam 5 cs :: H) v.a v.c ys := (y3 w0 (fam 5 cs :: H)).tl.tl
    refine s_kn (Kn.sl y4) fun l4 => ?_
    simp only [maxLen] at l4
    refine sx ?_
    refine s_loop (fun j : Nat => [(5, .slice ga vs.length gc), (9, .int .i64 i), (10, .int .i64 j)]) (fun _ => .hb K 36 [c0, c1, c2, .slice ia is.length ic, c4] :: ol 23 ga gc vs :: fam 44 dd :: fam 5 cs :: H)
      (fun j => j ≤ v.xs.length) (fun j => v.xs.length - j) 0 (Nat.zero_le _) ?_
    intro j hj
    refine sx ?_
    refine s_if rfl (fun t4 => ?_) (fun t4 => ?_)
    · obtain ⟨y, hy⟩ := get_lt ys j (by omega)
      obtain ⟨g1, g2⟩ := y2 y (List.mem_of_getElem? hy)
      have yb : RBy w0 (.hb K 36 [c0, c1, c2, .slice ia is.length ic, c4] :: ol 23 ga gc vs :: fam 44 dd :: fam 5 cs :: H) y.a y.c y.xs := (fam_by g2).tl.tl.tl
      obtain ⟨ya, yc, yx⟩ := y
      simp only at g1 yb
      subst g1
      refine s_kn (RSl.some yb.sl' (by exact Nat.zero_lt_one)) ?_
      rintro ⟨ad, rfl⟩
      refine sx ?_; refine s_dr (.one true 0 (.one true 1 (.one true 2 (.one true 3 (.one true 4 (.one true 5 (.one true 6 (.one true 7 (.one true 8 (.one true 9 (.one true 10 (.one true 11 (.one true 12 (.one true 13 (.one true 14 (.one true 15 (.one true 16 (.one true 17 (.one true 18 (.one true 19 (.one true 20 (.one false 21 (.one true 22 (.one true 23 .nil)))))))))))))))))))))))) mixed (by kernel_rfl) ?_; refine sx ?_
      refine s_yH rfl rfl rfl (y_index0 rfl rfl (by show 0 < 1; decide)) ?_
      refine sx ?_
      refine s_rw (t := 116) rfl (show Value.int .i64 ((i : Int) / 2) = .int .i64 ((i / 2 : Nat) : Int) by rw [Int.natCast_ediv]; rfl) ?_
      refine s_callV rfl (mark_s (i := i / 2) (by omega)) ?_
      refine sx ?_
      refine s_rwC (t := 119) rfl (show Value.bool (!decide (markL (i / 2) = markL (i / 2))) = .bool false by rw [decide_eq_true rfl]; rfl) ?_
      refine sx ?_
      exact s_again (j + 1) (by omega) (by omega)
    · refine sx ?_
      exact s_again (i + 1) (by omega) (by omega)
  refine sx ?_
  exact s_ret1 rfl rfl ⟨rfl, rfl⟩ (Ent.head (Ent.tl (Ent.tl (Ent.tl Ent.refl))))
end Go.Sx
