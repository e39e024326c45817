/- Part of a proof: With tells. -/
import Derived.Test.YtpnhoafmlhlfgaaGreatCMJj
namespace Go.Sx
open Go Go.Proofs
set_option maxRecDepth 10000
variable {w0 : World} {H : List Ck}
@[reducible] def wiG (b2 b5 : Nat) (v : Value) (a : Option Addr) (c : Nat) (ms : List Mg) (g : Ck) : Ck := .star [.hb b2 40 [v], .hb b5 55 [.slice a ms.length c], ol 71 a c ms, stars oM ms, g]
def fam2 (g1 : Ck) (gm : Nat → Ck) : Nat → Ck
  | 0 => g1
  | u + 1 => gm u
def ePc (p : Pc) : KV := ⟨p.ka, p.kc, p.key, p.va, p.vc, p.v⟩
def sdM (ms : List MD) (k : Bs) : Bool := (getM ms k).isSome
theorem drop_len {α : Type} {L t M : List α} {j : Nat} (h : L.drop j = t ++ M) (hj : j ≤ L.length) : j + t.length ≤ L.length ∧ L.drop (j + t.length) = M := by
  have h1 := congrArg List.length h
  simp only [List.length_drop, List.length_append] at h1
  refine ⟨by omega, ?_⟩
  rw [← List.drop_drop, h, List.drop_left]
structure WtI where
  i : Nat
  a : Option Addr
  c : Nat
  qs : List KV
@[reducible] def wtL (b2 b3 b4 b5 b7 : Nat) (ll : Nat) (v : Value) (a : Option Addr) (c : Nat) (ms : List Mg) (xa : Option Addr) (xc : Nat) (xs : List KV) (oa : Option Addr) (oc : Nat) (os : List KV) (K : List Ck) (R : List Ck) : List Ck :=
  .star K :: .hb b3 78 [yv ll] :: .hb b4 22 [.slice xa xs.length xc] :: ol 51 oa oc os :: stars oKVs xs :: .hb b7 93 [.func (.func 46) #[] #[.pointer (some ⟨b4, 0, none⟩), .pointer (some ⟨b3, 0, none⟩)]] ::
   .hb b2 40 [v] :: .hb b5 55 [.slice a ms.length c] :: ol 71 a c ms :: stars oM ms :: R
set_option maxHeartbeats 4000000 in
theorem with_tell {b2 b5 c : Nat} {a : Option Addr} {ms : List Mg} {v : Value} {o : Bool} {g0 g1 : Ck} {gm : Nat → Ck} {L0 : List Pp} (hT : TvS Tryz.prog w0 o g0 gm g1 g1 v L0) (hsm : SmL L0) (hl : ms.length ≤ 137438953472) (hz : ∀ m ∈ ms, m.lo.length ≤ 140737488355327 ∧ m.hi.length ≤ 140737488355328 ∧ m.v.length ≤ 140737488355328) :
    TellS Tryz.prog w0 true (wiG b2 b5 v a c ms g0) (fun u => wiG b2 b5 v a c ms (fam2 g1 gm u)) (wiG b2 b5 v a c ms g1) (wiG b2 b5 v a c ms g1) 44 [.pointer (some ⟨b5, 0, none⟩), .pointer (some ⟨b2, 0, none⟩)] (withL (sdM (ms.map Mg.d)) (putsM (ms.map Mg.d)) L0) := by
  intro ll φ fin hy K h0
  obtain ⟨L, hLd⟩ : ∃ L, L = withL (sdM (ms.map Mg.d)) (putsM (ms.map Mg.d)) L0 := ⟨_, rfl⟩
  rw [← hLd] at hy ⊢
  refine FnS.ent (H' := .hb b2 40 [v] :: .hb b5 55 [.slice a ms.length c] :: ol 71 a c ms :: stars oM ms :: g0 :: [.star K]) ?_ (Ent.open Ent.refl)
  refine fns_enterM Tryz.func44 rfl rfl rfl ?_
  refine sx ?_
  refine s_box1 rfl rfl fun b3 => ?_
  refine sx ?_
  refine s_alloc fun b4 => ?_
  refine sx ?_
  have hms : RMs w0 (.hb b4 22 [.slice none 0 0] :: .hb b3 78 [yv ll] :: .hb b2 40 [v] :: .hb b5 55 [.slice a ms.length c] :: ol 71 a c ms :: stars oM ms :: g0 :: [.star K]) a c ms :=
    ⟨RSl.hd.tl.tl.tl.tl, fun m hm => RMg.ent (H' := oM m) ⟨RBy.hd, RBy.hd.tl, RBy.hd.tl.tl⟩ (Ent.tl (Ent.tl (Ent.tl (Ent.tl (Ent.tl (stars_mem hm))))))⟩
  refine s_call rfl (mmeaning_s hms hl hz) ?_
  rintro _ _ ⟨pa, pc, ps, rfl, hI, rfl⟩
  refine ⟨chk_seq, ?_⟩
  have hpm := putsM_eq hI
  have hpl : (ptsL (ps.map Pc.d)).length ≤ ms.length := Nat.le_trans (ptsL_len hI) (Nat.le_of_eq (List.length_map _))
  refine s_knL (Kn.sl (xs := ps) RSl.hd) fun lp => ?_
  simp only [maxLen] at lp
  refine sx ?_
  refine s_loop (fun q : WtI => [(0, yv ll), (1, .pointer (some ⟨b5, 0, none⟩)), (2, .pointer (some ⟨b2, 0, none⟩)), (3, .pointer (some ⟨b3, 0, none⟩)), (4, .pointer (some ⟨b4, 0, none⟩)), (14, .slice pa ps.length pc), (15, .int .i64 ps.length), (16, .int .i64 q.i)])
    (fun q => .hb b4 22 [.slice q.a q.qs.length q.c] :: ol 51 q.a q.c q.qs :: stars oKVs q.qs :: ol 92 pa pc ps :: stars oP (ps.drop q.i) :: .hb b3 78 [yv ll] :: .hb b2 40 [v] :: .hb b5 55 [.slice a ms.length c] :: ol 71 a c ms :: stars oM ms :: g0 :: [.star K])
    (fun q => q.i ≤ ps.length ∧ q.qs.map KV.p = ptsL ((ps.map Pc.d).take q.i)) (fun q => ps.length - q.i) ⟨0, none, 0, []⟩ ⟨Nat.zero_le _, by simp⟩ ?_ (he := ?_)
  rotate_left
  · refine Ent.cons (by exact rm) ?_
    refine Ent.nilS.trans (Ent.head (stars_nil.trans (Ent.head ?_)))
    exact ent
  rintro ⟨i, qa, qc, qs⟩ ⟨g1', g2'⟩
  simp only at g1' g2' ⊢
  have hql : qs.length ≤ ms.length := by
    have h1 := congrArg List.length g2'
    rw [List.length_map (f := KV.p)] at h1
    have h2 := ptsL_take (ps := ps.map Pc.d) (i := i)
    omega
  refine sx ?_
  refine s_if rfl (fun t1 => ?_) (fun t1 => ?_)
  · obtain ⟨p, hp⟩ := get_lt ps i (by omega)
    have htk : ptsL ((ps.map Pc.d).take (i + 1)) = ptsL ((ps.map Pc.d).take i) ++ (if p.put = true then [(p.key, p.v)] else []) := by
      rw [snocT (get_map (f := Pc.d) hp)]
      unfold ptsL
      rw [List.filter_append, List.map_append]
      congr 1
      cases hb : p.put <;> simp [hb]
    refine sx ?_
    refine s_alloc fun b6 => ?_
    refine sx ?_
    have hsp : ∀ {B : List Ck}, Ent (stars oP (ps.drop i) :: B) (ob p.ka p.kc p.key :: ob p.va p.vc p.v :: stars oP (ps.drop (i + 1)) :: B) := by
      intro B
      rw [dropG hp]
      refine stars_cons.trans ?_
      exact Ent.head (Ent.head (Ent.tl (Ent.tl Ent.refl)))
    refine s_cond rfl (fun t2 => ?_) (fun t2 => ?_)
    · refine sx ?_
      refine s_bsl [ePc p] rfl rfl fun b42 => ?_
      refine s_app (xs := qs) (ys := [ePc p]) ?_ (hby := by simp only [List.length_cons, List.length_nil]; omega)
      intro a4 c4
      refine sx ?_
      refine s_again ⟨i + 1, a4, c4, qs ++ [ePc p]⟩ ⟨by simp only; omega, ?_⟩ (by simp only; omega) (he := ?_)
      · simp only
        rw [htk, if_pos t2, List.map_append, g2']
        rfl
      · refine Ent.cons (by exact rm) (Ent.cons (by exact rm) ?_)
        refine Ent.trans (H' := stars oP (ps.drop i) :: stars oKVs qs :: ol 92 pa pc ps :: .hb b3 78 [yv ll] :: .hb b2 40 [v] :: .hb b5 55 [.slice a ms.length c] :: ol 71 a c ms :: stars oM ms :: g0 :: [.star K]) (by exact ent) ?_
        refine hsp.trans ?_
        refine Ent.trans (H' := ob p.ka p.kc p.key :: ob p.va p.vc p.v :: stars oKVs qs :: ol 92 pa pc ps :: stars oP (ps.drop (i + 1)) :: .hb b3 78 [yv ll] :: .hb b2 40 [v] :: .hb b5 55 [.slice a ms.length c] :: ol 71 a c ms :: stars oM ms :: g0 :: [.star K]) (by exact ent) ?_
        exact stars_snoc (f := oKVs) (s := ePc p)
    · refine sx ?_
      refine s_again ⟨i + 1, qa, qc, qs⟩ ⟨by simp only; omega, ?_⟩ (by simp only; omega) (he := ?_)
      · simp only
        rw [htk, if_neg (by simp [t2]), List.append_nil, g2']
      · refine Ent.trans (H' := stars oP (ps.drop i) :: .hb b4 22 [.slice qa qs.length qc] :: ol 51 qa qc qs :: stars oKVs qs :: ol 92 pa pc ps :: .hb b3 78 [yv ll] :: .hb b2 40 [v] :: .hb b5 55 [.slice a ms.length c] :: ol 71 a c ms :: stars oM ms :: g0 :: [.star K]) (by exact ent) ?_
        exact hsp.trans (by exact ent)
  obtain rfl : i = ps.length := by omega
  rw [List.take_of_length_le (by simp)] at g2'
  refine sx ?_
  refine s_alloc fun b7 => ?_
  refine sx ?_
  refine s_call rfl (of_s hT) ?_
  rintro _ _ ⟨⟨k, cap, rfl, hk, ht⟩, rfl⟩
  refine ⟨chk_seq, ?_⟩
  haveI := hk
  have hq : qs.map KV.p = putsM (ms.map Mg.d) := g2'.trans hpm.symm
  refine s_entL (wtL b2 b3 b4 b5 b7 ll v a c ms qa qc qs qa qc qs K [g0]) (by exact ent) ?_
  refine sx ?_
  refine s_rangeF (cap := cap) (ps := [34, 35]) rfl (fun ll2 D pd K' => (pd = none ∧ ∃ K1 j xa xc xs, φ j K1 ∧ j ≤ L.length ∧ Sf w0 qa qc qs xa xc xs ∧ L.drop j = xs.map KV.p ∧ K' = dfk D :: wtL b2 b3 b4 b5 b7 ll v a c ms xa xc xs qa qc qs K1 [g1]) ∨
    (pd = some .ret ∧ ∃ K1, fin K1 ∧ K' = [dfk D, .star K1, .hb b2 40 [v], .hb b5 55 [.slice a ms.length c], ol 71 a c ms, stars oM ms, g1])) ?_ ?_ ?_
  · intro ll2 D σ hσ
    refine FnS.ent (H' := [g0, .star (lpk ll2 σ .ready none :: dfk D :: wtL b2 b3 b4 b5 b7 ll v a c ms qa qc qs qa qc qs K [])]) ?_ ?_
    · refine FnS.post (ht ll2 (fun i Kin => ∃ K1 j xa xc xs, φ j K1 ∧ j ≤ L.length ∧ Sf w0 qa qc qs xa xc xs ∧ L.drop j = withL (sdM (ms.map Mg.d)) (xs.map KV.p) (L0.drop i) ∧ Kin = lpk ll2 σ .ready none :: dfk D :: wtL b2 b3 b4 b5 b7 ll v a c ms xa xc xs qa qc qs K1 [])
        (fun Kin => ∃ K1, fin K1 ∧ Kin = [lpk ll2 σ .done (some .ret), dfk D, .star K1, .hb b2 40 [v], .hb b5 55 [.slice a ms.length c], ol 71 a c ms, stars oM ms]) ?_ _ ⟨K, 0, qa, qc, qs, h0, Nat.zero_le _, ⟨RSl.hd, fun _ h => h⟩, by rw [List.drop_zero, List.drop_zero, hq]; exact hLd, rfl⟩) ?_
      · rintro i x u Kc T E hx ⟨K1, j, xa, xc, xs, hφ, hj, hsf, hL, rfl⟩ hT hr
        obtain ⟨y1, y2⟩ := hsm _ (List.mem_of_getElem? hx)
        replace y1 : x.k.length ≤ 140737488355328 := y1
        replace y2 : x.v.length ≤ 140737488355328 := y2
        have h1 : RBy w0 (.star T :: gm u :: E) x.ka x.kc x.k := hr.k.ent (Ent.head (Ent.tl Ent.refl))
        have h2 : RBy w0 (.star T :: gm u :: E) x.va x.vc x.v := hr.v.ent (Ent.head (Ent.tl Ent.refl))
        rw [dropG hx] at hL
        have hL1 : L.drop j = (tW false x.k xs).map KV.p ++ ((if sdM (ms.map Mg.d) x.k = true then [] else [x.p]) ++ withL (sdM (ms.map Mg.d)) ((dW false x.k xs).map KV.p) (L0.drop (i + 1))) := by
          rw [hL, withL, tW_p, dW_p]
          rfl
        obtain ⟨hj1, hL2⟩ := drop_len hL1 hj
        rw [List.length_map] at hj1 hL2
        refine YldS.ent (H' := lpk ll2 σ .ready none :: dfk D :: wtL b2 b3 b4 b5 b7 ll v a c ms xa xc xs qa qc qs K1 (.star T :: gm u :: E)) ?_ ?_
        · refine yld_of (args := [_, _]) hσ (by exact rm) rfl rfl ?_
          refine sx ?_
          refine s_beg (by exact rm) ?_
          refine sx ?_
          refine s_call rfl (copied_s (xs := x.k) (by exact rby) y1) ?_
          rintro _ _ ⟨k1, rfl, rfl⟩
          refine ⟨chk_seq, ?_⟩
          refine sx ?_
          refine s_call rfl (copied_s (xs := x.v) (by exact rby) y2) ?_
          rintro _ _ ⟨v1, rfl, rfl⟩
          refine ⟨chk_seq, ?_⟩
          refine sx ?_
          refine s_callF (cap := [.pointer (some ⟨b4, 0, none⟩), .pointer (some ⟨b3, 0, none⟩)]) rfl rfl (FnS.ent (ahead_s (L := L) (φ := φ) (fin := fin) (g := wiG b2 b5 v a c ms (gm u)) (j := j) (K := K1) (R := ob k1 x.k.length x.k :: ob v1 x.v.length x.v :: lpk ll2 σ .busy none :: dfk D :: .hb b7 93 [.func (.func 46) #[] #[.pointer (some ⟨b4, 0, none⟩), .pointer (some ⟨b3, 0, none⟩)]] :: .star T :: E)
            (fun i x K T E hL hφ hT => by subst hT; exact hy i x (u + 1) K _ E hL hφ (fun _ => rfl) REe.of) hsf hφ hL1 RBy.hd) ?_) ?_
          · refine Ent.trans (H' := .star K1 :: .hb b3 78 [yv ll] :: .hb b4 22 [.slice xa xs.length xc] :: ol 51 qa qc qs :: stars oKVs xs :: .hb b2 40 [v] :: .hb b5 55 [.slice a ms.length c] :: ol 71 a c ms :: stars oM ms :: gm u :: ob k1 x.k.length x.k :: ob v1 x.v.length x.v :: lpk ll2 σ .busy none :: dfk D :: .hb b7 93 [.func (.func 46) #[] #[.pointer (some ⟨b4, 0, none⟩), .pointer (some ⟨b3, 0, none⟩)]] :: .star T :: E) (by exact entq) ?_
            exact Ent.head (Ent.head (Ent.head (Ent.head (Ent.head (Ent.star (L := [.hb b2 40 [v], .hb b5 55 [.slice a ms.length c], ol 71 a c ms, stars oM ms, gm u]) Ent.refl)))))
          rintro _ _ ⟨K2, ⟨rfl, hφ2, xa2, xc2, xs2, rfl, hsf2, rfl⟩ | ⟨rfl, hf2, rfl⟩⟩
          · refine ⟨chk_seq, ?_⟩
            refine s_entL (.star K2 :: .hb b3 78 [yv ll] :: .hb b4 22 [.slice xa2 (dW false x.k xs).length xc2] :: ol 51 qa qc qs :: stars oKVs (dW false x.k xs) :: .hb b2 40 [v] :: .hb b5 55 [.slice a ms.length c] :: ol 71 a c ms :: stars oM ms :: gm u :: ob k1 x.k.length x.k :: ob v1 x.v.length x.v :: lpk ll2 σ .busy none :: dfk D :: .hb b7 93 [.func (.func 46) #[] #[.pointer (some ⟨b4, 0, none⟩), .pointer (some ⟨b3, 0, none⟩)]] :: .star T :: E) (Ent.head (Ent.head (Ent.head (Ent.head (Ent.head (Ent.open Ent.refl)))))) ?_
            refine sx ?_
            refine s_call rfl (mget_s (key := x.k) (ms := ms) ⟨?_, ?_⟩ (by exact rby) ?_) ?_
            · exact RSl.hd.tl.tl.tl.tl.tl.tl.tl
            · intro m hm
              exact RMg.ent (H' := oM m) ⟨RBy.hd, RBy.hd.tl, RBy.hd.tl.tl⟩ (Ent.tl (Ent.tl (Ent.tl (Ent.tl (Ent.tl (Ent.tl (Ent.tl (Ent.tl (stars_mem hm)))))))))
            · exact fun m hm => ⟨(hz m hm).1, (hz m hm).2.2⟩
            rintro _ _ ⟨va, vc, rfl, rfl⟩
            refine ⟨chk_seq, ?_⟩
            refine sx ?_
            rcases hsd : (getM (ms.map Mg.d) x.k).isSome with _ | _
            · have hsd' : sdM (ms.map Mg.d) x.k = false := hsd
              rw [hsd', if_neg (by simp)] at hL2
              have hLj : L[j + (tW false x.k xs).length]? = some x.p := by
                have h := List.getElem?_drop (xs := L) (i := j + (tW false x.k xs).length) (j := 0)
                rw [hL2] at h
                simpa using h.symm
              have hL3 : L.drop (j + (tW false x.k xs).length + 1) = withL (sdM (ms.map Mg.d)) ((dW false x.k xs).map KV.p) (L0.drop (i + 1)) := by
                rw [← List.drop_drop, hL2]
                rfl
              have hjl := (List.getElem?_eq_some_iff.1 hLj).1
              refine sx ?_
              refine s_yld rfl rfl ((hy _ ⟨k1, x.k.length, x.k, v1, x.v.length, x.v⟩ (u + 1) K2 _ (lpk ll2 σ .busy none :: dfk D :: .hb b3 78 [yv ll] :: .hb b4 22 [.slice xa2 (dW false x.k xs).length xc2] :: ol 51 qa qc qs :: stars oKVs (dW false x.k xs) :: .hb b7 93 [.func (.func 46) #[] #[.pointer (some ⟨b4, 0, none⟩), .pointer (some ⟨b3, 0, none⟩)]] :: .star T :: E) hLj hφ2 (fun _ => rfl) REe.of).ent ?_) ?_
              · refine ent_oKVs (by exact rm) (by exact rm) ?_
                refine Ent.cons (by exact rm) ?_
                exact Ent.star (L := [.hb b2 40 [v], .hb b5 55 [.slice a ms.length c], ol 71 a c ms, stars oM ms, gm u]) (by exact ent)
              rintro _ _ ⟨K3, hK3, rfl⟩
              refine ⟨chk_seq, ?_⟩
              refine s_entL (.star K3 :: .hb b2 40 [v] :: .hb b5 55 [.slice a ms.length c] :: ol 71 a c ms :: stars oM ms :: gm u :: lpk ll2 σ .busy none :: dfk D :: .hb b3 78 [yv ll] :: .hb b4 22 [.slice xa2 (dW false x.k xs).length xc2] :: ol 51 qa qc qs :: stars oKVs (dW false x.k xs) :: .hb b7 93 [.func (.func 46) #[] #[.pointer (some ⟨b4, 0, none⟩), .pointer (some ⟨b3, 0, none⟩)]] :: .star T :: E) (Ent.head (Ent.open Ent.refl)) ?_
              rcases hK3 with ⟨rfl, hK3⟩ | ⟨rfl, hK3⟩
              · refine sx ?_
                refine s_rnd (by exact rm) ⟨_, .inl ⟨rfl, K3, j + (tW false x.k xs).length + 1, xa2, xc2, dW false x.k xs, hK3, by omega, hsf2, hL3, rfl⟩, rfl⟩ ?_
                refine Ent.star (L := lpk ll2 σ .ready none :: dfk D :: wtL b2 b3 b4 b5 b7 ll v a c ms xa2 xc2 (dW false x.k xs) qa qc qs K3 []) ?_
                show Ent _ (lpk ll2 σ .ready none :: dfk D :: wtL b2 b3 b4 b5 b7 ll v a c ms xa2 xc2 (dW false x.k xs) qa qc qs K3 (gm u :: E))
                exact entq
              · refine sx ?_
                refine s_rndR (by exact rm) ⟨_, .inr ⟨rfl, K3, hK3, rfl⟩, rfl⟩ ?_
                exact Ent.star (L := [lpk ll2 σ .done (some .ret), dfk D, .star K3, .hb b2 40 [v], .hb b5 55 [.slice a ms.length c], ol 71 a c ms, stars oM ms]) (by exact ent)
            · have hsd' : sdM (ms.map Mg.d) x.k = true := hsd
              rw [hsd', if_pos rfl, List.nil_append] at hL2
              refine sx ?_
              refine s_rnd (by exact rm) ⟨_, .inl ⟨rfl, K2, j + (tW false x.k xs).length, xa2, xc2, dW false x.k xs, hφ2, hj1, hsf2, hL2, rfl⟩, rfl⟩ ?_
              refine Ent.star (L := lpk ll2 σ .ready none :: dfk D :: wtL b2 b3 b4 b5 b7 ll v a c ms xa2 xc2 (dW false x.k xs) qa qc qs K2 []) ?_
              show Ent _ (lpk ll2 σ .ready none :: dfk D :: wtL b2 b3 b4 b5 b7 ll v a c ms xa2 xc2 (dW false x.k xs) qa qc qs K2 (gm u :: E))
              exact entq
          · refine ⟨chk_seq, ?_⟩
            refine sx ?_
            refine s_rndR (by exact rm) ⟨_, .inr ⟨rfl, K2, hf2, rfl⟩, rfl⟩ ?_
            refine Ent.trans (H' := wiG b2 b5 v a c ms (gm u) :: lpk ll2 σ .done (some .ret) :: dfk D :: .star K2 :: E) (by exact entq) ?_
            refine Ent.open ?_
            exact Ent.star (L := [lpk ll2 σ .done (some .ret), dfk D, .star K2, .hb b2 40 [v], .hb b5 55 [.slice a ms.length c], ol 71 a c ms, stars oM ms]) (by exact ent)
        · exact Ent.trans st_sw (Ent.open (L := lpk ll2 σ .ready none :: dfk D :: wtL b2 b3 b4 b5 b7 ll v a c ms xa xc xs qa qc qs K1 []) Ent.refl)
      · rintro v' K' ⟨rfl, K2, ⟨⟨K1, j, xa, xc, xs, hφ, hj, hsf, hL, rfl⟩, rfl⟩ | ⟨⟨K1, hf, rfl⟩, rfl⟩⟩
        · refine ⟨_, ⟨.ready, none, _, (fun e => by cases e), rfl, .inl ⟨rfl, K1, j, xa, xc, xs, hφ, hj, hsf, ?_, rfl⟩⟩, ?_⟩
          · rw [hL, List.drop_length]
            rfl
          · refine Ent.trans (Ent.perm (.swap _ _ _)) ?_
            refine Ent.open ?_
            show Ent (lpk ll2 σ .ready none :: dfk D :: wtL b2 b3 b4 b5 b7 ll v a c ms xa xc xs qa qc qs K1 [g1]) _
            exact Ent.refl
        · refine ⟨_, ⟨.done, some .ret, _, (fun e => by cases e), rfl, .inr ⟨rfl, K1, hf, rfl⟩⟩, ?_⟩
          refine Ent.trans (Ent.perm (.swap _ _ _)) ?_
          exact Ent.open Ent.refl
    · refine Ent.cons (by exact rm) ?_
      refine Ent.star ?_
      show Ent _ (lpk ll2 σ .ready none :: dfk D :: wtL b2 b3 b4 b5 b7 ll v a c ms qa qc qs qa qc qs K [])
      exact entq
  · rintro ll2 D K' (⟨_, K1, j, xa, xc, xs, hφ, hj, hsf, hL, rfl⟩ | ⟨hpd, _⟩)
    · refine sx ?_
      have htw : tW true [] xs = xs := by
        clear hsf hL hφ hj
        induction xs with
        | nil => rfl
        | cons e r ih => rw [(tW_go (all := true) (key := []) rfl).1, ih]
      have hL1 : L.drop j = (tW true [] xs).map KV.p ++ [] := by rw [htw, List.append_nil, hL]
      have hjl := (drop_len hL1 hj).1
      have hjl2 := congrArg List.length hL1
      rw [List.append_nil, List.length_map, List.length_drop] at hjl2
      rw [List.length_map] at hjl
      refine s_callF (cap := [.pointer (some ⟨b4, 0, none⟩), .pointer (some ⟨b3, 0, none⟩)]) rfl rfl (FnS.ent (ahead_s (L := L) (φ := φ) (fin := fin) (g := wiG b2 b5 v a c ms g1) (j := j) (K := K1) (R := [dfk D]) (key := [])
        (fun i x K T E hL hφ hT => by subst hT; exact hy i x 0 K _ E hL hφ (fun _ => rfl) REe.of) hsf hφ hL1 RBy.nil) ?_) ?_
      · refine Ent.trans (H' := .star K1 :: .hb b3 78 [yv ll] :: .hb b4 22 [.slice xa xs.length xc] :: ol 51 qa qc qs :: stars oKVs xs :: .hb b2 40 [v] :: .hb b5 55 [.slice a ms.length c] :: ol 71 a c ms :: stars oM ms :: g1 :: [dfk D]) (by exact ent) ?_
        exact Ent.head (Ent.head (Ent.head (Ent.head (Ent.head (Ent.star (L := [.hb b2 40 [v], .hb b5 55 [.slice a ms.length c], ol 71 a c ms, stars oM ms, g1]) Ent.refl)))))
      rintro _ _ ⟨K2, ⟨rfl, hφ2, xa2, xc2, xs2, rfl, hsf2, rfl⟩ | ⟨rfl, hf2, rfl⟩⟩
      · refine ⟨chk_seq, ?_⟩
        refine sx ?_
        refine s_mEndD (by exact rm) (resM0 rfl) ⟨rfl, K2, .inl ⟨by rw [show L.length = j + (tW true [] xs).length by omega]; exact hφ2, rfl⟩⟩ ?_ (.inr rfl)
        exact entq
      · refine ⟨chk_seq, ?_⟩
        refine sx ?_
        refine s_mEndD (by exact rm) (resM0 rfl) ⟨rfl, K2, .inr ⟨hf2, rfl⟩⟩ ?_ (.inr rfl)
        exact entq
    · cases hpd
  · rintro ll2 D cd K' (⟨hpd, _⟩ | ⟨hpd, K1, hf, rfl⟩)
    · cases hpd
    · obtain rfl := Option.some.inj hpd
      refine sx ?_
      refine s_mEndD (by exact rm) (resM0 rfl) ⟨rfl, K1, .inr ⟨hf, rfl⟩⟩ ?_ (.inl rfl)
      exact Ent.star (L := [.hb b2 40 [v], .hb b5 55 [.slice a ms.length c], ol 71 a c ms, stars oM ms, g1]) (by exact ent)
end Go.Sx

