/- Part of a proof: merge.All, walked. -/
import Derived.Test.YtpnhoafmlhlfgaaGreatCMBj
namespace Go.Sx
open Go Go.Proofs
set_option maxRecDepth 10000
variable {w0 : World} {H : List Ck}
def tk (most : Int) (L : List (Bs × Bs)) : List (Bs × Bs) := if most < 0 then L else L.take most.toNat
def allG (most : Int) (n : Nat) (g0 g1 g2 : Ck) : Ck := if most = 0 then g0 else if 0 < most ∧ most ≤ n then g2 else g1
theorem allG_same {most : Int} {n : Nat} {g : Ck} : allG most n g g g = g := by simp [allG]
theorem tk_all {L : List (Bs × Bs)} : tk (-1) L = L := by simp [tk]
@[reducible] def alL (b3 b5 : Nat) (most : Int) (a : Option Addr) (c : Nat) (out : List KV) (H : List Ck) : List Ck := .hb b3 3 [.int .i64 most] :: .hb b5 22 [.slice a out.length c] :: ol 51 a c out :: stars oKVs out :: H
set_option maxHeartbeats 4000000 in
theorem all_s {o : Bool} {g0 g1 g2 : Ck} {gm : Nat → Ck} {v : Value} {most : Int} {L : List (Bs × Bs)} (h : TvS Tryz.prog w0 o g0 gm g1 g2 v L) (hl : L.length ≤ 549755813888) (hsm : SmL L) :
    FnS Tryz.prog w0 (g0 :: H) 12 #[v, .int .i64 most] (fun v' H' => ∃ a c out, v' = .slice a (out : List KV).length c ∧ out.map KV.p = tk most L ∧ H' = ol 51 a c out :: stars oKVs out :: allG most L.length g0 g1 g2 :: H) := by
  refine fns_enterM Tryz.func12 rfl rfl rfl ?_
  refine sx ?_
  refine s_box1 rfl rfl fun b3 => ?_
  refine sx ?_
  refine s_alloc fun b5 => ?_
  refine sx ?_
  refine s_if rfl (fun t1 => ?_) (fun t1 => ?_)
  · refine sx ?_
    subst t1
    refine s_mEnd (resM1 rfl rfl) ⟨none, 0, [], rfl, by simp [tk], rfl⟩ ?_ (.inl rfl)
    simp only [allG, if_pos]
    exact Ent.nilS.trans (Ent.head (stars_nil.trans (Ent.head (by exact ent))))
  refine sx ?_
  refine s_call rfl (of_s h) ?_
  rintro _ _ ⟨⟨k, cap, rfl, hk, ht⟩, rfl⟩
  refine ⟨chk_seq, ?_⟩
  haveI := hk
  refine sx ?_
  refine s_rangeF (cap := cap) (ps := [13, 14]) rfl (fun ll D pd K => ∃ a c out g, (pd = none ∧ g = g1 ∧ ¬ (0 < most ∧ most ≤ L.length) ∨ pd = some (.exit 0) ∧ g = g2 ∧ 0 < most ∧ most ≤ L.length) ∧ (out : List KV).map KV.p = tk most L ∧ K = dfk D :: g :: alL b3 b5 most a c out H) ?_ ?_ ?_
  · intro ll D σ hσ
    refine FnS.ent (H' := [g0, .star (lpk ll σ .ready none :: dfk D :: alL b3 b5 most none 0 [] H)]) ?_ ?_
    · refine FnS.post (ht ll (fun i K => ∃ a c out, ¬ (0 < most ∧ most ≤ i) ∧ (out : List KV).map KV.p = L.take i ∧ K = lpk ll σ .ready none :: dfk D :: alL b3 b5 most a c out H) (fun K => ∃ a c out, 0 < most ∧ most ≤ L.length ∧ (out : List KV).map KV.p = tk most L ∧ K = lpk ll σ .done (some (.exit 0)) :: dfk D :: alL b3 b5 most a c out H) ?_ _ ⟨none, 0, [], by omega, by simp, rfl⟩) ?_
      · rintro i x u K T E hx ⟨a, c, out, hm, ho, rfl⟩ hT hr
        obtain ⟨hi, hxe⟩ := List.getElem?_eq_some_iff.1 hx
        have hol : out.length = i := by
          have := congrArg List.length ho
          simp only [List.length_map, List.length_take] at this
          omega
        obtain ⟨y1, y2⟩ := hsm _ (List.mem_of_getElem? hx)
        replace y1 : x.k.length ≤ 140737488355328 := y1
        replace y2 : x.v.length ≤ 140737488355328 := y2
        have h1 : RBy w0 (.star T :: .star H :: gm u :: E) x.ka x.kc x.k := hr.k.ent (Ent.head (Ent.tl (Ent.tl Ent.refl)))
        have h2 : RBy w0 (.star T :: .star H :: gm u :: E) x.va x.vc x.v := hr.v.ent (Ent.head (Ent.tl (Ent.tl Ent.refl)))
        refine YldS.ent (H' := lpk ll σ .ready none :: dfk D :: alL b3 b5 most a c out (.star T :: .star H :: gm u :: E)) ?_ ?_
        · refine yld_of (args := [_, _]) hσ (by exact rm) rfl rfl ?_
          refine sx ?_
          refine s_beg (by exact rm) ?_
          refine sx ?_
          refine s_drU (.hb b5 22 [.slice a out.length c] :: lpk ll σ .busy none :: dfk D :: .hb b3 3 [.int .i64 most] :: (.star T :: .star H :: gm u :: E)) (.one true 0 (.one true 1 (.one true 3 (.one false 2 (.one false 4 (.one true 5 (.one false 6 (.one false 7 .nil)))))))) (.one false 8 .nil) [8] #[true, true, true, true, true, true, true, true, false] mixed (by kernel_rfl) ?_
          refine sx ?_
          refine s_call rfl (copied_s (xs := x.k) (by exact rby) y1) ?_
          rintro _ _ ⟨ka, rfl, rfl⟩
          refine ⟨chk_held (by exact ent), ?_⟩
          refine sx ?_
          refine s_call rfl (copied_s (xs := x.v) (by exact rby) y2) ?_
          rintro _ _ ⟨va, rfl, rfl⟩
          refine ⟨chk_held (by exact ent), ?_⟩
          refine sx ?_
          refine s_bsl [(⟨ka, x.k.length, x.k, va, x.v.length, x.v⟩ : KV)] rfl rfl fun b42 => ?_
          refine s_app (xs := out) (ys := [(⟨ka, x.k.length, x.k, va, x.v.length, x.v⟩ : KV)]) ?_ (hby := by simp only [List.length_cons, List.length_nil]; omega)
          intro a4 c4
          refine sx ?_
          refine s_bar ?_
          refine sx ?_
          have hs1 : Ent (ob ka x.k.length x.k :: ob va x.v.length x.v :: stars oKVs out :: .star H :: gm u :: E) (stars oKVs (out ++ [⟨ka, x.k.length, x.k, va, x.v.length, x.v⟩]) :: .star H :: gm u :: E) := stars_snoc (f := oKVs) (s := ⟨ka, x.k.length, x.k, va, x.v.length, x.v⟩)
          have ho' : (out ++ [(⟨ka, x.k.length, x.k, va, x.v.length, x.v⟩ : KV)]).map KV.p = L.take (i + 1) := by
            rw [List.map_append, ho, snocT hx]
            rfl
          refine s_if rfl (fun t2 => ?_) (fun t2 => ?_)
          · refine sx ?_
            refine s_rndX (by exact rm) ⟨_, .inr ⟨rfl, a4, c4, out ++ [⟨ka, x.k.length, x.k, va, x.v.length, x.v⟩], ?_, ?_, ?_, rfl⟩, rfl⟩ ?_
            · have : ((out ++ [(⟨ka, x.k.length, x.k, va, x.v.length, x.v⟩ : KV)]).length : Int) = most := t2
              simp only [List.length_append, List.length_cons, List.length_nil] at this
              omega
            · have : ((out ++ [(⟨ka, x.k.length, x.k, va, x.v.length, x.v⟩ : KV)]).length : Int) = most := t2
              simp only [List.length_append, List.length_cons, List.length_nil] at this
              omega
            · have : ((out ++ [(⟨ka, x.k.length, x.k, va, x.v.length, x.v⟩ : KV)]).length : Int) = most := t2
              simp only [List.length_append, List.length_cons, List.length_nil] at this
              rw [ho', tk, if_neg (by omega), show most.toNat = i + 1 by omega]
            · refine Ent.trans ?_ (st_app' (A := lpk ll σ .done (some (.exit 0)) :: dfk D :: alL b3 b5 most a4 c4 (out ++ [⟨ka, x.k.length, x.k, va, x.v.length, x.v⟩]) []))
              refine Ent.cons (by exact rm) (Ent.cons (by exact rm) (Ent.cons (by exact rm) (Ent.cons (by exact rm) (Ent.cons (by exact rm) ?_))))
              exact Ent.trans (by exact ent) hs1
          · refine sx ?_
            refine s_rnd (by exact rm) ⟨_, .inl ⟨rfl, a4, c4, out ++ [⟨ka, x.k.length, x.k, va, x.v.length, x.v⟩], ?_, ho', rfl⟩, rfl⟩ ?_
            · have : ¬ ((out ++ [(⟨ka, x.k.length, x.k, va, x.v.length, x.v⟩ : KV)]).length : Int) = most := t2
              simp only [List.length_append, List.length_cons, List.length_nil] at this
              omega
            · refine Ent.trans ?_ (st_app' (A := lpk ll σ .ready none :: dfk D :: alL b3 b5 most a4 c4 (out ++ [⟨ka, x.k.length, x.k, va, x.v.length, x.v⟩]) []))
              refine Ent.cons (by exact rm) (Ent.cons (by exact rm) (Ent.cons (by exact rm) (Ent.cons (by exact rm) (Ent.cons (by exact rm) ?_))))
              exact Ent.trans (by exact ent) hs1
        · refine Ent.trans st_sw ?_
          refine Ent.trans (st_app (A := lpk ll σ .ready none :: dfk D :: alL b3 b5 most a c out []) (B := H)) ?_
          show Ent (lpk ll σ .ready none :: dfk D :: alL b3 b5 most a c out (.star H :: .star T :: gm u :: E)) _
          exact entq
      · rintro v' K' ⟨rfl, K2, ⟨⟨a, c, out, hm, ho, rfl⟩, rfl⟩ | ⟨⟨a, c, out, hm, hm2, ho, rfl⟩, rfl⟩⟩
        · refine ⟨_, ⟨.ready, none, _, (fun e => by cases e), rfl, a, c, out, g1, .inl ⟨rfl, rfl, hm⟩, ?_, rfl⟩, ?_⟩
          · rw [ho, List.take_length]
            unfold tk
            split
            · rfl
            · rw [List.take_of_length_le (by omega)]
          · refine Ent.trans (Ent.perm (.swap _ _ _)) ?_
            refine Ent.trans (st_app (A := lpk ll σ .ready none :: dfk D :: alL b3 b5 most a c out []) (B := H)) ?_
            show Ent (lpk ll σ .ready none :: dfk D :: alL b3 b5 most a c out (.star H :: [g1])) _
            refine Ent.trans (H' := lpk ll σ .ready none :: dfk D :: g1 :: alL b3 b5 most a c out [.star H]) (by exact entq) ?_
            exact Ent.head (Ent.head (Ent.head (Ent.head (Ent.head (Ent.head (Ent.head st_one))))))
        · refine ⟨_, ⟨.done, some (.exit 0), _, (fun e => by cases e), rfl, a, c, out, g2, .inr ⟨rfl, rfl, hm, hm2⟩, ho, rfl⟩, ?_⟩
          refine Ent.trans (Ent.perm (.swap _ _ _)) ?_
          refine Ent.trans (st_app (A := lpk ll σ .done (some (.exit 0)) :: dfk D :: alL b3 b5 most a c out []) (B := H)) ?_
          show Ent (lpk ll σ .done (some (.exit 0)) :: dfk D :: alL b3 b5 most a c out (.star H :: [g2])) _
          refine Ent.trans (H' := lpk ll σ .done (some (.exit 0)) :: dfk D :: g2 :: alL b3 b5 most a c out [.star H]) (by exact entq) ?_
          exact Ent.head (Ent.head (Ent.head (Ent.head (Ent.head (Ent.head (Ent.head st_one))))))
    · refine Ent.cons (by exact rm) ?_
      refine Ent.trans ?_ (st_app' (A := lpk ll σ .ready none :: dfk D :: .hb b3 3 [.int .i64 most] :: .hb b5 22 [.slice none 0 0] :: ol 51 none 0 ([] : List KV) :: [stars oKVs []]) (B := H))
      refine Ent.cons (by exact rm) (Ent.cons (by exact rm) (Ent.cons (by exact rm) (Ent.cons (by exact rm) ?_)))
      exact Ent.nilS.trans (Ent.head (stars_nil.trans (Ent.head st_one')))
  · rintro ll D K2 ⟨a, c, out, g, hg, ho, rfl⟩
    refine sx ?_
    refine s_mEndD (by exact rm) (resM1 rfl rfl) ⟨a, c, out, rfl, ho, rfl⟩ ?_ (.inl rfl)
    have e : allG most L.length g0 g1 g2 = g := by
      rcases hg with ⟨_, rfl, hm⟩ | ⟨hg, _⟩
      · rw [allG, if_neg t1, if_neg hm]
      · cases hg
    rw [e]
    exact entq
  · rintro ll D cd K2 ⟨a, c, out, g, hg, ho, rfl⟩
    rcases hg with ⟨hg, _⟩ | ⟨hg, rfl, hm1, hm2⟩
    · cases hg
    obtain rfl := Option.some.inj hg
    refine sx ?_
    refine s_mEndD (by exact rm) (resM1 rfl rfl) ⟨a, c, out, rfl, ho, rfl⟩ ?_ (.inl rfl)
    rw [allG, if_neg t1, if_pos ⟨hm1, hm2⟩]
    exact entq
end Go.Sx

