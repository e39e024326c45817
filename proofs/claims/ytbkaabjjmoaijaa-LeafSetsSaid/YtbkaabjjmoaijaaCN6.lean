/- Part of a proof: the book's end: the lists of entries are written over and made longer. -/
import Derived.Test.YtbkaabjjmoaijaaCN4
namespace Go.Sx
open Go Go.Proofs
set_option maxRecDepth 10000
variable {w0 : World} {H : List Ck}

/-- An entry whose key is one mark, in one of these blocks. -/
def Gd (ks : List SB) (m : UInt8) (y : KV) : Prop := y.k = [m] ∧ (⟨y.ka, y.kc, [m]⟩ : SB) ∈ ks
theorem Gd.mono {ks ks' : List SB} {m : UInt8} {y : KV} (h : Gd ks m y) (hk : ∀ s, s ∈ ks → s ∈ ks') : Gd ks' m y := ⟨h.1, hk _ h.2⟩
theorem putG {α : Type} {p : α → Prop} {xs : List α} {i : Nat} {e : α} (h : ∀ y ∈ xs, p y) (he : p e) : ∀ y ∈ putL xs i [e], p y := fun y hy => by
  rcases putL_mem hy with h1 | h1
  · exact h y h1
  · rw [List.mem_singleton.1 h1]; exact he
theorem tkG {α : Type} {p : α → Prop} {xs : List α} {i : Nat} {e : α} (h : ∀ y ∈ xs, p y) (he : p e) : ∀ y ∈ xs.take i ++ [e], p y := fun y hy => by
  rcases List.mem_append.1 hy with h1 | h1
  · exact h y (List.mem_of_mem_take h1)
  · rw [List.mem_singleton.1 h1]; exact he
/-- The first i lists are written over. -/
def DnOk (fs : List SE) (i : Nat) (dn : List SE) (ks : List SB) : Prop := dn.length = i ∧ ∀ j f, j < i → fs[j]? = some f → ∃ d, dn[j]? = some d ∧ d.a = f.a ∧ d.c = f.c ∧ d.xs.length = f.xs.length ∧ ∀ y ∈ d.xs, Gd ks (markL j) y
theorem DnOk.mono {fs dn : List SE} {i : Nat} {ks ks' : List SB} (h : DnOk fs i dn ks) (hk : ∀ s, s ∈ ks → s ∈ ks') : DnOk fs i dn ks' :=
  ⟨h.1, fun j f hj hf => (h.2 j f hj hf).imp fun _ ⟨h1, h2, h3, h4, h5⟩ => ⟨h1, h2, h3, h4, fun y hy => (h5 y hy).mono hk⟩⟩
abbrev mkE (b : Nat) (m : UInt8) : KV := ⟨some ⟨b, 0, none⟩, 1, [m], none, 0, []⟩
abbrev mkS (b : Nat) (m : UInt8) : SB := ⟨some ⟨b, 0, none⟩, 1, [m]⟩
theorem mkE_good {ks : List SB} {b : Nat} {m : UInt8} : Gd (ks ++ [mkS b m]) m (mkE b m) := ⟨rfl, List.mem_append_right _ (List.mem_singleton.2 rfl)⟩
set_option maxHeartbeats 1000000 in
theorem outer_s {K : Nat} {c0 c1 : Value} {ea : Option Addr} {ec : Nat} {fs : List SE} (hn : fs.length ≤ 1099511627776) (hsm : ∀ f ∈ fs, f.xs.length ≤ 4294967296) :
    FnS Try.prog w0 (.hb K 31 [c0, c1, .slice ea fs.length ec] :: ol 25 ea ec fs :: fam 47 fs :: H) 47 #[.pointer (some ⟨K, 0, none⟩)] (fun v H' => v = .bool true ∧ H' = H) := by
  refine fns_enter Try.func47 rfl rfl rfl ?_
  refine sx ?_
  refine s_loop (fun (i : Nat × List SE × List SB) => [(0, .pointer (some ⟨K, 0, none⟩)), (3, .int .i64 i.1)]) (fun i => .hb K 31 [c0, c1, .slice ea fs.length ec] :: ol 25 ea ec fs :: fam 47 i.2.1 :: fam 47 (fs.drop i.1) :: fam 5 i.2.2 :: H)
    (fun i => i.1 ≤ fs.length ∧ DnOk fs i.1 i.2.1 i.2.2) (fun i => fs.length - i.1) (0, [], []) ⟨Nat.zero_le _, rfl, fun j f h => by omega⟩ ?_ (he := by
      refine Ent.cons (by exact rm) ?_
      refine Ent.cons (by exact rm) ?_
      refine Ent.trans ?_ fam_nil
      refine Ent.cons (by exact rm) ?_
      exact fam_nil)
  rintro ⟨i, dn, ks⟩ ⟨hi, hdn⟩
  simp only at hi hdn ⊢
  refine sx ?_
  refine s_if rfl (fun t1 => ?_) (fun t1 => ?_)
  · obtain ⟨⟨sa, sc, sx0⟩, hs⟩ := get_lt fs i (by omega)
    have hsz := hsm _ (List.mem_of_getElem? hs)
    simp only at hsz
    refine s_ent (ol 47 sa sc sx0 :: .hb K 31 [c0, c1, .slice ea fs.length ec] :: ol 25 ea ec fs :: fam 47 dn :: fam 47 (fs.drop (i + 1)) :: fam 5 ks :: H) (by
      rw [drop_get hs]
      exact (Ent.famC (by exact rm)).trans (by exact ent)) ?_
    refine sx ?_
    refine s_loop (fun (j : Nat × List KV × List SB) => [(0, .pointer (some ⟨K, 0, none⟩)), (3, .int .i64 i), (4, .int .i64 j.1)]) (fun j => ol 47 sa sc j.2.1 :: .hb K 31 [c0, c1, .slice ea fs.length ec] :: ol 25 ea ec fs :: fam 47 dn :: fam 47 (fs.drop (i + 1)) :: fam 5 j.2.2 :: H)
      (fun j => j.1 ≤ sx0.length ∧ j.2.1.length = sx0.length ∧ (∀ x, x < j.1 → ∃ y, j.2.1[x]? = some y ∧ Gd j.2.2 (markL i) y) ∧ (∀ s, s ∈ ks → s ∈ j.2.2)) (fun j => sx0.length - j.1) (0, sx0, ks) ⟨Nat.zero_le _, rfl, fun x h => by omega, fun _ h => h⟩ ?_
    rintro ⟨j, ys, ks2⟩ ⟨hj, hyl, hys, hkk⟩
    simp only at hj hyl hys hkk ⊢
    refine sx ?_
    refine s_if rfl (fun t2 => ?_) (fun t2 => ?_)
    · have t2 : (j : Int) < (sx0.length : Int) := t2
      refine s_kn (φ := ∃ ad, sa = some ad) (fun w hw => own_gA (Sat.ownOf (c' := ol 47 sa sc ys) .hd hw) (by omega)) ?_
      rintro ⟨ad, rfl⟩
      refine sx ?_; refine s_drR (ol 47 (some ad) sc ys) (by exact rm) (.one true 0 (.one true 1 (.one true 2 (.one true 3 (.one true 4 (.one true 5 (.one true 6 (.one true 7 (.one true 8 (.one false 9 (.one false 10 (.one true 11 (.one true 12 (.one false 13 .nil)))))))))))))) mixed (by kernel_rfl) ?_; refine sx ?_
      refine s_callV rfl (mark_s (i := i) (by omega)) ?_
      refine sx ?_
      refine s_bsl [markL i] rfl rfl fun b9 => ?_
      refine sx ?_
      refine s_setA (i := j) (mkE b9 (markL i)) rfl rfl (by exact at_) rfl (by omega) ?_
      refine sx ?_
      refine s_again (j + 1, ys.set j (mkE b9 (markL i)), ks2 ++ [mkS b9 (markL i)]) ⟨by simp only; omega, by simp only [List.length_set]; exact hyl, fun x hx => ?_, fun s h => List.mem_append_left _ (hkk s h)⟩ (by simp only; omega) (he := ?_)
      · simp only at hx ⊢
        by_cases h : x = j
        · subst h
          exact ⟨_, List.getElem?_set_self (by omega), mkE_good⟩
        · obtain ⟨y, h1, h2⟩ := hys x (by omega)
          exact ⟨y, by rw [List.getElem?_set_ne (by omega)]; exact h1, h2.mono fun s h => List.mem_append_left _ h⟩
      · refine Ent.cons (by exact rm) ?_
        refine Ent.cons (by exact rm) ?_
        refine Ent.cons (by exact rm) ?_
        refine Ent.cons (by exact rm) ?_
        refine Ent.cons (by exact rm) ?_
        refine Ent.famS (by exact rm) (by exact rm) ?_
        exact ent
    · have t2 : ¬ (j : Int) < (sx0.length : Int) := t2
      refine sx ?_
      refine s_again (i + 1, dn ++ [⟨sa, sc, ys⟩], ks2) ⟨by simp only; omega, by simp only [List.length_append, List.length_cons, List.length_nil, hdn.1], ?_⟩ (by simp only; omega) (he := ?_)
      · intro x f hx hf
        simp only at hx ⊢
        have hd1 := hdn.1
        by_cases h : x < i
        · obtain ⟨d, h1, h2, h3, h4, h5⟩ := hdn.2 x f h hf
          exact ⟨d, by rw [List.getElem?_append_left (by omega)]; exact h1, h2, h3, h4, fun y hy => (h5 y hy).mono hkk⟩
        · obtain rfl : x = i := by omega
          rw [hs] at hf
          cases hf
          refine ⟨⟨sa, sc, ys⟩, by rw [List.getElem?_append_right (by omega), hd1, Nat.sub_self]; rfl, rfl, rfl, hyl, fun y hy => ?_⟩
          obtain ⟨q, hq⟩ := List.mem_iff_getElem?.1 hy
          have hql := (List.getElem?_eq_some_iff.1 hq).1
          simp only at hql
          obtain ⟨y', h1, h2⟩ := hys q (by omega)
          rw [h1] at hq
          cases hq
          exact h2
      · refine Ent.cons (by exact rm) ?_
        refine Ent.cons (by exact rm) ?_
        refine Ent.famS (by exact rm) (by exact rm) ?_
        exact ent
  obtain rfl : i = fs.length := by omega
  refine sx ?_
  refine s_loop (fun (i : Nat × Option Addr × Nat × List SE × List SE × List SB) => [(0, .pointer (some ⟨K, 0, none⟩)), (5, .slice i.2.1 i.2.2.2.1.length i.2.2.1), (6, .int .i64 i.1)])
    (fun i => .hb K 31 [c0, c1, .slice ea fs.length ec] :: ol 25 ea ec fs :: ol 25 i.2.1 i.2.2.1 i.2.2.2.1 :: fam 47 i.2.2.2.2.1 :: fam 47 (dn.drop i.1) :: fam 5 i.2.2.2.2.2 :: H)
    (fun i => i.1 ≤ fs.length ∧ i.2.2.2.1.length = 3 * i.1 ∧ (∀ s, s ∈ ks → s ∈ i.2.2.2.2.2) ∧ (∀ j v, i.2.2.2.1[j]? = some v → Vw (Gd i.2.2.2.2.2 (markL (j / 3))) i.2.2.2.2.1 v.a v.c v.xs.length))
    (fun i => fs.length - i.1) (0, none, 0, [], [], ks) ⟨Nat.zero_le _, rfl, fun _ h => h, fun j v h => by simp at h⟩ ?_ (he := by
      refine Ent.cons (by exact rm) ?_
      refine Ent.cons (by exact rm) ?_
      refine Ent.trans ?_ Ent.nilS
      refine Ent.trans ?_ fam_nil
      exact ent)
  rintro ⟨i, ga, gc, vs, D, ks1⟩ ⟨hi, hvl, hk1, hv1⟩
  simp only at hi hvl hk1 hv1 ⊢
  refine sx ?_
  refine s_if rfl (fun t2 => ?_) (fun t2 => ?_)
  · obtain ⟨⟨sa, sc, sx0⟩, hs⟩ := get_lt fs i (by omega)
    have hsz := hsm _ (List.mem_of_getElem? hs)
    simp only at hsz
    obtain ⟨⟨da, dc, dxs⟩, hd, rfl, rfl, hdl, hdg⟩ := hdn.2 i _ (by omega) hs
    simp only at hdl hdg
    have hdg : ∀ y ∈ dxs, Gd ks1 (markL i) y := fun y hy => (hdg y hy).mono hk1
    refine s_ent (ol 47 da dc dxs :: fam 47 ([] : List SE) :: .hb K 31 [c0, c1, .slice ea fs.length ec] :: ol 25 ea ec fs :: ol 25 ga gc vs :: fam 47 D :: fam 47 (dn.drop (i + 1)) :: fam 5 ks1 :: H) (by
      rw [drop_get hd]
      refine (Ent.famC (by exact rm)).trans ?_
      refine Ent.cons (by exact rm) ?_
      exact Ent.trans (by exact ent) fam_nil) ?_
    refine sx ?_
    refine s_loop (fun (j : Nat × SE × List SE × List KV × List SB) => [(0, .pointer (some ⟨K, 0, none⟩)), (5, .slice ga vs.length gc), (6, .int .i64 i), (7, .slice j.2.1.a j.2.2.2.1.length j.2.1.c), (8, .int .i64 j.1)])
      (fun j => ol 47 j.2.1.a j.2.1.c j.2.1.xs :: fam 47 j.2.2.1 :: .hb K 31 [c0, c1, .slice ea fs.length ec] :: ol 25 ea ec fs :: ol 25 ga gc vs :: fam 47 D :: fam 47 (dn.drop (i + 1)) :: fam 5 j.2.2.2.2 :: H)
      (fun j => j.1 ≤ 20 ∧ j.2.2.2.1.length = sx0.length + j.1 ∧ j.2.2.2.1.length ≤ j.2.1.xs.length ∧ (∀ s, s ∈ ks1 → s ∈ j.2.2.2.2) ∧ (∀ y ∈ j.2.1.xs, Gd j.2.2.2.2 (markL i) y) ∧ Vw (Gd j.2.2.2.2 (markL i)) (j.2.1 :: j.2.2.1) da dc sx0.length) (fun j => 20 - j.1)
      (0, ⟨da, dc, dxs⟩, [], sx0, ks1) ⟨Nat.zero_le _, rfl, by simp only; omega, fun _ h => h, hdg, ⟨_, List.mem_cons_self .., rfl, rfl, by simp only [Row.xs]; omega, hdg⟩⟩ ?_
    rintro ⟨k, x, tl, nv, ks2⟩ ⟨hk, hnl, hnx, hk2, hxm, hbv⟩
    simp only at hk hnl hnx hk2 hxm hbv ⊢
    refine sx ?_
    refine s_if rfl (fun t3 => ?_) (fun t3 => ?_)
    · refine sx ?_
      refine s_callV rfl (mark_s (i := i) (by omega)) ?_
      refine s_bsl [markL i] rfl rfl fun b9 => ?_
      refine sx ?_
      refine s_bsl [mkE b9 (markL i)] rfl rfl fun b10 => ?_
      have hup : ∀ s, s ∈ ks2 → s ∈ ks2 ++ [mkS b9 (markL i)] := fun s h => List.mem_append_left _ h
      have hxm' : ∀ y ∈ x.xs, Gd (ks2 ++ [mkS b9 (markL i)]) (markL i) y := fun y hy => (hxm y hy).mono hup
      have hbv' : Vw (Gd (ks2 ++ [mkS b9 (markL i)]) (markL i)) (x :: tl) da dc sx0.length := hbv.mono (fun _ h => h) (fun _ h => h.mono hup)
      refine s_appP (xs := x.xs) (p := nv.length) (ys := [mkE b9 (markL i)]) ?_ ?_
      · intro hc
        have hpl := putL_len (ys := [mkE b9 (markL i)]) hnx
        refine sx ?_
        refine s_again (k + 1, ⟨x.a, x.c, putL x.xs nv.length [mkE b9 (markL i)]⟩, tl, mkE b9 (markL i) :: nv, ks2 ++ [mkS b9 (markL i)]) ⟨by simp only; omega, by simp only [List.length_cons]; omega, by simp only [List.length_cons]; rw [hpl]; simp only [List.length_cons, List.length_nil]; omega, fun s h => hup s (hk2 s h), putG hxm' mkE_good, ?_⟩ (by simp only; omega) (he := ?_)
        · exact hbv'.put rfl rfl (by simp only [Row.xs]; omega) (putG hxm' mkE_good)
        · refine Ent.cons (by exact rm) ?_
          refine Ent.cons (by exact rm) ?_
          refine Ent.cons (by exact rm) ?_
          refine Ent.cons (by exact rm) ?_
          refine Ent.cons (by exact rm) ?_
          refine Ent.cons (by exact rm) ?_
          refine Ent.cons (by exact rm) ?_
          refine Ent.famS (by exact rm) (by exact rm) ?_
          exact ent
      · intro a' c'
        refine sx ?_
        refine s_again (k + 1, ⟨a', c', x.xs.take nv.length ++ [mkE b9 (markL i)]⟩, x :: tl, mkE b9 (markL i) :: nv, ks2 ++ [mkS b9 (markL i)]) ⟨by simp only; omega, by simp only [List.length_cons]; omega, by simp only [List.length_cons, List.length_append, List.length_take, List.length_nil]; omega, fun s h => hup s (hk2 s h), tkG hxm' mkE_good, ?_⟩ (by simp only; omega) (he := ?_)
        · exact hbv'.mono (fun s h => List.mem_cons_of_mem _ h) (fun _ h => h)
        · refine Ent.cons (by exact rm) ?_
          refine Ent.famK (by exact rm) (by exact rm) ?_
          refine Ent.cons (by exact rm) ?_
          refine Ent.cons (by exact rm) ?_
          refine Ent.cons (by exact rm) ?_
          refine Ent.cons (by exact rm) ?_
          refine Ent.cons (by exact rm) ?_
          refine Ent.famS (by exact rm) (by exact rm) ?_
          exact ent
    · obtain ⟨b, hbm, rfl, rfl, hbl, hball⟩ := hbv
      obtain ⟨q, hq⟩ := List.mem_iff_getElem?.1 hbm
      have hpm := perm_erase hq
      have hgv : Vw (Gd ks2 (markL i)) (b :: (x :: tl).eraseIdx q) x.a x.c nv.length := ⟨x, (hpm.mem_iff (a := x)).1 (List.mem_cons_self ..), rfl, rfl, hnx, hxm⟩
      generalize (x :: tl).eraseIdx q = tl2 at hpm hgv
      refine s_ent (ol 47 b.a b.c b.xs :: fam 47 tl2 :: .hb K 31 [c0, c1, .slice ea fs.length ec] :: ol 25 ea ec fs :: ol 25 ga gc vs :: fam 47 D :: fam 47 (dn.drop (i + 1)) :: fam 5 ks2 :: H) (by
        refine Ent.trans (H' := ol 47 x.a x.c x.xs :: fam 47 tl :: _) (by exact Ent.refl) ?_
        exact (fam_cons' (s := x)).trans ((fam_perm hpm).trans fam_cons)) ?_
      have hs' : fs[i]? = some ⟨b.a, b.c, sx0⟩ := hs
      clear hs
      refine sx ?_
      refine s_loop (fun (j : Nat × SE × List SE × List KV × List SB) => [(0, .pointer (some ⟨K, 0, none⟩)), (5, .slice ga vs.length gc), (6, .int .i64 i), (7, .slice x.a nv.length x.c), (9, .slice j.2.1.a j.2.2.2.1.length j.2.1.c), (10, .int .i64 j.1)])
        (fun j => ol 47 j.2.1.a j.2.1.c j.2.1.xs :: fam 47 j.2.2.1 :: .hb K 31 [c0, c1, .slice ea fs.length ec] :: ol 25 ea ec fs :: ol 25 ga gc vs :: fam 47 D :: fam 47 (dn.drop (i + 1)) :: fam 5 j.2.2.2.2 :: H)
        (fun j => j.1 ≤ 90 ∧ j.2.2.2.1.length = sx0.length + j.1 ∧ j.2.2.2.1.length ≤ j.2.1.xs.length ∧ (∀ s, s ∈ ks2 → s ∈ j.2.2.2.2) ∧ (∀ y ∈ j.2.1.xs, Gd j.2.2.2.2 (markL i) y) ∧ Vw (Gd j.2.2.2.2 (markL i)) (j.2.1 :: j.2.2.1) b.a b.c sx0.length ∧ Vw (Gd j.2.2.2.2 (markL i)) (j.2.1 :: j.2.2.1) x.a x.c nv.length) (fun j => 90 - j.1)
        (0, b, tl2, sx0, ks2) ⟨Nat.zero_le _, rfl, hbl, fun _ h => h, hball, ⟨b, List.mem_cons_self .., rfl, rfl, hbl, hball⟩, hgv⟩ ?_
      rintro ⟨k2, z, tl3, nw, ks3⟩ ⟨hk2', hnl2, hnx2, hk3, hxm2, hbv2, hgv2⟩
      simp only at hk2' hnl2 hnx2 hk3 hxm2 hbv2 hgv2 ⊢
      refine sx ?_
      refine s_if rfl (fun t4 => ?_) (fun t4 => ?_)
      · refine sx ?_
        refine s_callV rfl (mark_s (i := i) (by omega)) ?_
        refine s_bsl [markL i] rfl rfl fun b9 => ?_
        refine sx ?_
        refine s_bsl [mkE b9 (markL i)] rfl rfl fun b10 => ?_
        have hup : ∀ s, s ∈ ks3 → s ∈ ks3 ++ [mkS b9 (markL i)] := fun s h => List.mem_append_left _ h
        have hxm' : ∀ y ∈ z.xs, Gd (ks3 ++ [mkS b9 (markL i)]) (markL i) y := fun y hy => (hxm2 y hy).mono hup
        have hbv' : Vw (Gd (ks3 ++ [mkS b9 (markL i)]) (markL i)) (z :: tl3) b.a b.c sx0.length := hbv2.mono (fun _ h => h) (fun _ h => h.mono hup)
        have hgv' : Vw (Gd (ks3 ++ [mkS b9 (markL i)]) (markL i)) (z :: tl3) x.a x.c nv.length := hgv2.mono (fun _ h => h) (fun _ h => h.mono hup)
        refine s_appP (xs := z.xs) (p := nw.length) (ys := [mkE b9 (markL i)]) ?_ ?_
        · intro hc
          have hpl := putL_len (ys := [mkE b9 (markL i)]) hnx2
          refine sx ?_
          refine s_again (k2 + 1, ⟨z.a, z.c, putL z.xs nw.length [mkE b9 (markL i)]⟩, tl3, mkE b9 (markL i) :: nw, ks3 ++ [mkS b9 (markL i)]) ⟨by simp only; omega, by simp only [List.length_cons]; omega, by simp only [List.length_cons]; rw [hpl]; simp only [List.length_cons, List.length_nil]; omega, fun s h => hup s (hk3 s h), putG hxm' mkE_good, ?_, ?_⟩ (by simp only; omega) (he := ?_)
          · exact hbv'.put rfl rfl (by simp only [Row.xs]; omega) (putG hxm' mkE_good)
          · exact hgv'.put rfl rfl (by simp only [Row.xs]; omega) (putG hxm' mkE_good)
          · refine Ent.cons (by exact rm) ?_
            refine Ent.cons (by exact rm) ?_
            refine Ent.cons (by exact rm) ?_
            refine Ent.cons (by exact rm) ?_
            refine Ent.cons (by exact rm) ?_
            refine Ent.cons (by exact rm) ?_
            refine Ent.cons (by exact rm) ?_
            refine Ent.famS (by exact rm) (by exact rm) ?_
            exact ent
        · intro a' c'
          refine sx ?_
          refine s_again (k2 + 1, ⟨a', c', z.xs.take nw.length ++ [mkE b9 (markL i)]⟩, z :: tl3, mkE b9 (markL i) :: nw, ks3 ++ [mkS b9 (markL i)]) ⟨by simp only; omega, by simp only [List.length_cons]; omega, by simp only [List.length_cons, List.length_append, List.length_take, List.length_nil]; omega, fun s h => hup s (hk3 s h), tkG hxm' mkE_good, ?_, ?_⟩ (by simp only; omega) (he := ?_)
          · exact hbv'.mono (fun s h => List.mem_cons_of_mem _ h) (fun _ h => h)
          · exact hgv'.mono (fun s h => List.mem_cons_of_mem _ h) (fun _ h => h)
          · refine Ent.cons (by exact rm) ?_
            refine Ent.famK (by exact rm) (by exact rm) ?_
            refine Ent.cons (by exact rm) ?_
            refine Ent.cons (by exact rm) ?_
            refine Ent.cons (by exact rm) ?_
            refine Ent.cons (by exact rm) ?_
            refine Ent.cons (by exact rm) ?_
            refine Ent.famS (by exact rm) (by exact rm) ?_
            exact ent
      · refine sx ?_
        refine s_bsl [(⟨b.a, b.c, sx0⟩ : SE), ⟨x.a, x.c, nv⟩, ⟨z.a, z.c, nw⟩] rfl rfl fun b9 => ?_
        refine s_app ?_
        intro ga2 gc2
        refine sx ?_
        have hin : ∀ s : SE, s ∈ z :: tl3 → s ∈ (z :: tl3) ++ D := fun s h => List.mem_append_left _ h
        have hin2 : ∀ s : SE, s ∈ D → s ∈ (z :: tl3) ++ D := fun s h => List.mem_append_right _ h
        refine s_again (i + 1, ga2, gc2, vs ++ [(⟨b.a, b.c, sx0⟩ : SE), ⟨x.a, x.c, nv⟩, ⟨z.a, z.c, nw⟩], (z :: tl3) ++ D, ks3) ⟨by simp only; omega, by simp only [List.length_append, List.length_cons, List.length_nil]; omega, fun s h => hk3 s (hk2 s (hk1 s h)), ?_⟩ (by simp only; omega) (he := ?_)
        · intro j v hjv
          simp only at hjv ⊢
          by_cases h : j < 3 * i
          · rw [List.getElem?_append_left (by omega)] at hjv
            exact (hv1 j v hjv).mono hin2 (fun _ h => h.mono fun s h => hk3 s (hk2 s h))
          · rw [List.getElem?_append_right (by omega)] at hjv
            rcases (show j - vs.length = 0 ∨ j - vs.length = 1 ∨ j - vs.length = 2 ∨ 3 ≤ j - vs.length by omega) with h0 | h0 | h0 | h0
            · rw [h0] at hjv
              cases hjv
              rw [show j / 3 = i by omega]
              exact hbv2.mono hin (fun _ h => h)
            · rw [h0] at hjv
              cases hjv
              rw [show j / 3 = i by omega]
              exact hgv2.mono hin (fun _ h => h)
            · rw [h0] at hjv
              cases hjv
              rw [show j / 3 = i by omega]
              exact Vw.mono (p := Gd ks3 (markL i)) (D := z :: tl3) ⟨z, List.mem_cons_self .., rfl, rfl, hnx2, hxm2⟩ hin (fun _ h => h)
            · rw [List.getElem?_eq_none (by simpa using h0)] at hjv
              cases hjv
        · refine Ent.cons (by exact rm) ?_
          refine Ent.cons (by exact rm) ?_
          refine Ent.cons (by exact rm) ?_
          refine Ent.famKA (by exact rm) (by exact rm) (by exact rm) ?_
          exact ent
  obtain rfl : i = fs.length := by omega
  clear hi
  refine sx ?_
  refine s_loop (fun j : Nat => [(5, .slice ga vs.length gc), (11, .int .i64 j)]) (fun _ => ol 25 ga gc vs :: fam 47 D :: fam 5 ks1 :: H) (fun j => j ≤ vs.length) (fun j => vs.length - j) 0 (Nat.zero_le _) ?_
  intro j hj
  refine sx ?_
  refine s_if rfl (fun t3 => ?_) (fun t3 => ?_)
  · obtain ⟨v, hv⟩ := get_lt vs j (by omega)
    obtain ⟨ys, y1, y2, y3⟩ := (hv1 j v hv).sl (E := 47)
    have hys : RSl w0 (ol 25 ga gc vs :: fam 47 D :: fam 5 ks1 :: H) v.a v.c ys := (y3 w0 _).tl
    refine s_kn (Kn.sl hys) fun l1 => ?_
    simp only [maxLen] at l1
    refine sx ?_
    refine s_loop (fun k : Nat => [(5, .slice ga vs.length gc), (11, .int .i64 j), (12, .int .i64 k)]) (fun _ => ol 25 ga gc vs :: fam 47 D :: fam 5 ks1 :: H) (fun k => k ≤ v.xs.length) (fun k => v.xs.length - k) 0 (Nat.zero_le _) ?_
    intro k hk
    refine sx ?_
    refine s_if rfl (fun t4 => ?_) (fun t4 => ?_)
    · obtain ⟨⟨ka, kc, kx, va, vc, vx⟩, hky⟩ := get_lt ys k (by omega)
      obtain ⟨g1, g2⟩ := y2 _ (List.mem_of_getElem? hky)
      simp only at g1 g2
      subst g1
      have hkb : RBy w0 (ol 25 ga gc vs :: fam 47 D :: fam 5 ks1 :: H) ka kc [markL (j / 3)] := RBy.tl (RBy.tl (fam_by g2))
      refine sx ?_; refine s_dr (.one true 0 (.one true 1 (.one true 2 (.one true 3 (.one true 4 (.one true 5 (.one true 6 (.one true 7 (.one true 8 (.one true 9 (.one true 10 (.one true 11 (.one true 12 (.one true 13 (.one true 14 (.one true 15 (.one true 16 (.one true 17 (.one true 18 (.one true 19 (.one true 20 (.one true 21 (.one true 22 (.one false 23 (.one true 24 (.one true 25 .nil)))))))))))))))))))))))))) mixed (by kernel_rfl) ?_; refine sx ?_
      refine s_rw (t := 137) rfl (rfl : _ = Value.slice ka 1 kc) ?_
      have hkl : [markL (j / 3)].length = 1 := rfl
      refine sx ?_
      refine s_rw (t := 141) rfl (ci (by omega : _ = ((j / 3 : Nat) : Int))) ?_
      refine sx ?_
      refine s_callV rfl (mark_s (i := j / 3) (by omega)) ?_
      refine sx ?_
      first
        | refine s_ifn rfl (fun t => absurd rfl t) (fun _ => ?_)
        | refine s_if rfl (fun t => absurd rfl t) (fun _ => ?_)
        | fail
      refine sx ?_
      exact s_again (k + 1) (by omega) (by omega)
    · refine sx ?_
      exact s_again (j + 1) (by omega) (by omega)
  refine sx ?_
  exact s_ret1 rfl rfl ⟨rfl, rfl⟩
end Go.Sx
