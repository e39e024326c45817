/- Part of a proof: merge.Check of a telling that is a method; of one that rises, whatever is noted. -/
import Derived.Test.YtpnhoafmlhlfgaaGreatCPU
namespace Go.Sx
open Go Go.Proofs
set_option maxRecDepth 10000
variable {w0 : World} {H : List Ck}
/-- No error, or none yet. -/
abbrev exEc (eb : Nat) (i : Bool) : Ck := .hb eb 52 [.int .i64 (if i then 0 else 1)]
def exE (eb : Nat) : Ck := exK (exEc eb)
@[reducible] def mtv (k : Nat) (vt : Value) : Value := .func (.func k) #[vt] #[]
@[reducible] def ckB (b2 b3 : Nat) (v : Value) (g : Ck) : Ck := .star [.hb b2 40 [v], .hb b3 53 [.pointer none], g]
@[reducible] def csB (b2 b3 b4 b5 b6 ll : Nat) (v : Value) (la : Option Addr) (lc : Nat) (lk : Bs) (f : Bool) (K R : List Ck) : List Ck := .star K :: .hb b4 78 [yv ll] :: .hb b5 49 [.slice la lk.length lc] :: .hb b6 4 [.bool f] :: ob la lc lk :: .hb b2 40 [v] :: .hb b3 53 [.pointer none] :: R
set_option maxHeartbeats 4000000 in
theorem check_tellB {b2 b3 : Nat} {k : Nat} {vt : Value} [hk : FnT Tryz.prog k] {g0 g1 : Ck} {gm : Nat → Ck} {L0 : List (Bs × Bs)} {n : Nat} (hT : TellB Tryz.prog w0 g0 gm g1 g1 k vt L0) (hsm : SmL L0) (hn : Rn L0 n) :
    TellS Tryz.prog w0 true (ckB b2 b3 (mtv k vt) g0) (fun u => ckB b2 b3 (mtv k vt) (gm u)) (ckB b2 b3 (mtv k vt) g1) (ckB b2 b3 (mtv k vt) g1) 36 [.pointer (some ⟨b3, 0, none⟩), .pointer (some ⟨b2, 0, none⟩)] (L0.take n) := by
  intro ll φ fin hy K h0
  have hlL : (L0.take n).length = n := by rw [List.length_take]; exact Nat.min_eq_left hn.le
  rw [hlL]
  have hLi : ∀ i, i < n → (L0.take n)[i]? = L0[i]? := fun i h => List.getElem?_take_of_lt h
  refine FnS.ent (H' := .hb b2 40 [(mtv k vt)] :: .hb b3 53 [.pointer none] :: g0 :: [.star K]) ?_ (Ent.open Ent.refl)
  refine fns_enterM Tryz.func36 rfl rfl rfl ?_
  refine sx ?_
  refine s_box1 rfl rfl fun b4 => ?_
  refine sx ?_
  refine s_alloc fun b5 => ?_
  refine sx ?_
  refine s_alloc fun b6 => ?_
  refine sx ?_
  refine s_call rfl of_sB ?_
  rintro _ _ ⟨rfl, rfl⟩
  refine ⟨chk_seq, ?_⟩
  have ht := hT
  refine s_entL (csB b2 b3 b4 b5 b6 ll (mtv k vt) none 0 [] true K [g0]) (by
    refine Ent.cons (by exact rm) (Ent.cons (by exact rm) (Ent.cons (by exact rm) (Ent.cons (by exact rm) ?_)))
    exact Ent.nilS.trans (Ent.head (by exact ent))) ?_
  refine sx ?_
  refine s_rangeB (ps := [14, 15]) rfl (fun ll2 D pd K' => (pd = none ∧ n = L0.length ∧ ∃ K1 la lc lk f, φ n K1 ∧ K' = dfk D :: csB b2 b3 b4 b5 b6 ll (mtv k vt) la lc lk f K1 [g1]) ∨ (pd = some .ret ∧ ∃ K1 la lc lk f, ((φ n K1 ∧ n < L0.length ∧ K' = dfk D :: csB b2 b3 b4 b5 b6 ll (mtv k vt) la lc lk f K1 [g1]) ∨ (fin K1 ∧ K' = dfk D :: csB b2 b3 b4 b5 b6 ll (mtv k vt) la lc lk f K1 [g1])))) ?_ ?_ ?_
  · intro ll2 D σ hσ
    refine FnS.ent (H' := [g0, .star (lpk ll2 σ .ready none :: dfk D :: csB b2 b3 b4 b5 b6 ll (mtv k vt) none 0 [] true K [])]) ?_ ?_
    · refine FnS.post (ht ll2 (fun i Kin => ∃ K1 la lc lk f, φ i K1 ∧ i ≤ n ∧ (i = 0 ∧ f = true ∨ 0 < i ∧ f = false ∧ ∃ p, L0[i - 1]? = some p ∧ p.1 = lk) ∧ Kin = lpk ll2 σ .ready none :: dfk D :: csB b2 b3 b4 b5 b6 ll (mtv k vt) la lc lk f K1 [])
        (fun Kin => ∃ K1 la lc lk f, ((φ n K1 ∧ n < L0.length ∧ Kin = lpk ll2 σ .done (some .ret) :: dfk D :: csB b2 b3 b4 b5 b6 ll (mtv k vt) la lc lk f K1 []) ∨ (fin K1 ∧ Kin = lpk ll2 σ .done (some .ret) :: dfk D :: csB b2 b3 b4 b5 b6 ll (mtv k vt) la lc lk f K1 []))) ?_ _ ⟨K, none, 0, [], true, h0, Nat.zero_le _, .inl ⟨rfl, rfl⟩, rfl⟩) ?_
      · rintro i x u Kc T E hx ⟨K1, la, lc, lk, f, hφ, hin, hf, rfl⟩ hr
        obtain ⟨y1, y2⟩ := hsm _ (List.mem_of_getElem? hx)
        replace y1 : x.k.length ≤ 140737488355328 := y1
        replace y2 : x.v.length ≤ 140737488355328 := y2
        have hil := (List.getElem?_eq_some_iff.1 hx).1
        have h1 : RBy w0 (.star T :: gm u :: E) x.ka x.kc x.k := hr.k.ent (Ent.head (Ent.tl Ent.refl))
        have h2 : RBy w0 (.star T :: gm u :: E) x.va x.vc x.v := hr.v.ent (Ent.head (Ent.tl Ent.refl))

        have hin' : i < n ∨ (i = n ∧ n < L0.length) := by omega
        refine YldS.ent (H' := lpk ll2 σ .ready none :: dfk D :: csB b2 b3 b4 b5 b6 ll (mtv k vt) la lc lk f K1 (.star T :: gm u :: E)) ?_ (Ent.trans st_sw (Ent.open (L := lpk ll2 σ .ready none :: dfk D :: csB b2 b3 b4 b5 b6 ll (mtv k vt) la lc lk f K1 []) Ent.refl))
        refine yld_of (args := [_, _]) hσ (by exact rm) rfl rfl ?_
        refine sx ?_
        refine s_beg (by exact rm) ?_
        refine sx ?_
        have stp : StopAt 11 := trivial
        by_cases hlt : i < n
        · apply s_joinU
          · intro kk
            rcases hf with ⟨hi0, hf1⟩ | ⟨hi0, hf1, p, hp, hpk⟩
            · refine s_rw (t := 18) (v' := .bool false) rfl (by rw [hf1]; rfl) ?_
              refine sxs ?_
              refine s_sub (l' := [(1, .pointer (some ⟨b3, 0, none⟩)), (3, .pointer (some ⟨b4, 0, none⟩)), (4, .pointer (some ⟨b5, 0, none⟩)), (5, .pointer (some ⟨b6, 0, none⟩)), (6, .slice x.ka x.k.length x.kc), (7, .slice x.va x.v.length x.vc)]) ?_ (by repeat (first | exact trivial | refine And.intro (by first | exact rfl | exact congrArg some (ci (by omega))) ?_))
              exact kk.out
            · have hup := hn.up (i - 1) p x.p (by omega) hp (by rw [show i - 1 + 1 = i by omega]; exact hx)
              rw [hpk] at hup
              have hno : ¬ cmp x.k lk ≤ 0 := by
                have := cmp_anti x.k lk
                have : cmp lk x.k < 0 := hup
                omega
              refine s_rw (t := 18) (v' := .bool true) rfl (by rw [hf1]; rfl) ?_
              refine sxs ?_
              refine s_callV rfl (compare_s (xs := x.k) (ys := lk) (by exact rby) (by exact rby)) ?_
              refine sxs ?_
              refine s_if rfl (fun t => absurd t hno) (fun _ => ?_)
              refine sxs ?_
              refine s_sub (l' := [(1, .pointer (some ⟨b3, 0, none⟩)), (3, .pointer (some ⟨b4, 0, none⟩)), (4, .pointer (some ⟨b5, 0, none⟩)), (5, .pointer (some ⟨b6, 0, none⟩)), (6, .slice x.ka x.k.length x.kc), (7, .slice x.va x.v.length x.vc)]) ?_ (by repeat (first | exact trivial | refine And.intro (by first | exact rfl | exact congrArg some (ci (by omega))) ?_))
              exact kk.out
          clear stp
          refine sx ?_
          refine s_call rfl (copied_s (xs := x.k) (by exact rby) y1) ?_
          rintro _ _ ⟨l1, rfl, rfl⟩
          refine ⟨chk_seq, ?_⟩
          refine sx ?_
          refine s_drH [.hb b4 78 [yv ll]] (.one true 0 (.one true 1 (.one true 3 (.one false 2 (.one false 4 (.one false 5 (.one true 6 .nil))))))) mixed (by kernel_rfl) ?_ (he := by exact ent)
          refine sx ?_
          refine s_call rfl (copied_s (xs := x.k) (by exact rby) y1) ?_
          rintro _ _ ⟨k1, rfl, rfl⟩
          refine ⟨chk_held (by exact ent), ?_⟩
          refine sx ?_
          refine s_call rfl (copied_s (xs := x.v) (by exact rby) y2) ?_
          rintro _ _ ⟨v1, rfl, rfl⟩
          refine ⟨chk_held (by exact ent), ?_⟩
          refine sx ?_
          refine s_yld rfl rfl ((hy i ⟨k1, x.k.length, x.k, v1, x.v.length, x.v⟩ u K1 _ (lpk ll2 σ .busy none :: dfk D :: .hb b4 78 [yv ll] :: .hb b5 49 [.slice l1 x.k.length x.k.length] :: .hb b6 4 [.bool false] :: ob l1 x.k.length x.k :: .star T :: E) (by rw [hLi i hlt]; exact hx) hφ (fun _ => rfl) REe.of).ent ?_) ?_
          · refine ent_oKVs (by exact rm) (by exact rm) ?_
            refine Ent.cons (by exact rm) ?_
            exact Ent.star (L := [.hb b2 40 [(mtv k vt)], .hb b3 53 [.pointer none], gm u]) (by exact ent)
          rintro _ _ ⟨K3, hK3, rfl⟩
          have hop : Ent (.star K3 :: ckB b2 b3 (mtv k vt) (gm u) :: lpk ll2 σ .busy none :: dfk D :: .hb b4 78 [yv ll] :: .hb b5 49 [.slice l1 x.k.length x.k.length] :: .hb b6 4 [.bool false] :: ob l1 x.k.length x.k :: .star T :: E) (lpk ll2 σ .busy none :: dfk D :: csB b2 b3 b4 b5 b6 ll (mtv k vt) l1 x.k.length x.k false K3 (.star T :: gm u :: E)) := (Ent.head (Ent.open Ent.refl)).trans (by exact ent)
          refine ⟨chk_held (hop.trans (by exact ent)), ?_⟩
          refine s_entL _ hop ?_
          rcases hK3 with ⟨rfl, hK3⟩ | ⟨rfl, hK3⟩
          · refine sx ?_
            refine s_rnd (by exact rm) ⟨_, .inl ⟨rfl, K3, l1, x.k.length, x.k, false, hK3, by omega, .inr ⟨by omega, rfl, x.p, hx, rfl⟩, rfl⟩, rfl⟩ ?_
            refine Ent.star (L := lpk ll2 σ .ready none :: dfk D :: csB b2 b3 b4 b5 b6 ll (mtv k vt) l1 x.k.length x.k false K3 []) ?_
            show Ent _ (lpk ll2 σ .ready none :: dfk D :: csB b2 b3 b4 b5 b6 ll (mtv k vt) l1 x.k.length x.k false K3 (gm u :: E))
            exact ent
          · refine sx ?_
            refine s_rndR (by exact rm) ⟨_, .inr ⟨rfl, K3, l1, x.k.length, x.k, false, .inr ⟨hK3, rfl⟩⟩, rfl⟩ ?_
            refine Ent.star (L := lpk ll2 σ .done (some .ret) :: dfk D :: csB b2 b3 b4 b5 b6 ll (mtv k vt) l1 x.k.length x.k false K3 []) ?_
            show Ent _ (lpk ll2 σ .done (some .ret) :: dfk D :: csB b2 b3 b4 b5 b6 ll (mtv k vt) l1 x.k.length x.k false K3 (gm u :: E))
            exact ent
        · clear stp
          obtain ⟨rfl, hnl⟩ := hin'.resolve_left hlt
          obtain ⟨hn0, hnn⟩ := hn.no hnl
          rcases hf with ⟨hi0, _⟩ | ⟨hi0, hf1, p, hp, hpk⟩
          · omega
          have hno := hnn p x.p hp hx
          rw [hpk] at hno
          have hle : cmp x.k lk ≤ 0 := by
            have := cmp_anti x.k lk
            have : ¬ cmp lk x.k < 0 := hno
            omega
          refine s_rw (t := 18) (v' := .bool true) rfl (by rw [hf1]; rfl) ?_
          refine sx ?_
          refine s_callV rfl (compare_s (xs := x.k) (ys := lk) (by exact rby) (by exact rby)) ?_
          refine sx ?_
          refine s_if rfl (fun _ => ?_) (fun t => absurd hle t)
          refine sx ?_
          refine s_rndR (by exact rm) ⟨_, .inr ⟨rfl, K1, la, lc, lk, f, .inl ⟨hφ, hnl, rfl⟩⟩, rfl⟩ ?_
          refine Ent.star (L := lpk ll2 σ .done (some .ret) :: dfk D :: csB b2 b3 b4 b5 b6 ll (mtv k vt) la lc lk f K1 []) ?_
          show Ent _ (lpk ll2 σ .done (some .ret) :: dfk D :: csB b2 b3 b4 b5 b6 ll (mtv k vt) la lc lk f K1 (gm u :: E))
          exact ent
      · rintro v' K' ⟨rfl, K2, ⟨⟨K1, la, lc, lk, f, hφ, hin, _, rfl⟩, rfl⟩ | ⟨⟨K1, la, lc, lk, f, hf⟩, rfl⟩⟩
        · have hnl : n = L0.length := by have := hn.le; omega
          refine ⟨_, ⟨.ready, none, _, (fun e => by cases e), rfl, .inl ⟨rfl, hnl, K1, la, lc, lk, f, by rw [hnl]; exact hφ, rfl⟩⟩, ?_⟩
          exact Ent.trans (Ent.perm (.swap _ _ _)) (Ent.open (L := lpk ll2 σ .ready none :: dfk D :: csB b2 b3 b4 b5 b6 ll (mtv k vt) la lc lk f K1 []) Ent.refl)
        · rcases hf with ⟨h1, h2, rfl⟩ | ⟨h1, rfl⟩
          · refine ⟨_, ⟨.done, some .ret, _, (fun e => by cases e), rfl, .inr ⟨rfl, K1, la, lc, lk, f, .inl ⟨h1, h2, rfl⟩⟩⟩, ?_⟩
            exact Ent.trans (Ent.perm (.swap _ _ _)) (Ent.open (L := lpk ll2 σ .done (some .ret) :: dfk D :: csB b2 b3 b4 b5 b6 ll (mtv k vt) la lc lk f K1 []) Ent.refl)
          · refine ⟨_, ⟨.done, some .ret, _, (fun e => by cases e), rfl, .inr ⟨rfl, K1, la, lc, lk, f, .inr ⟨h1, rfl⟩⟩⟩, ?_⟩
            exact Ent.trans (Ent.perm (.swap _ _ _)) (Ent.open (L := lpk ll2 σ .done (some .ret) :: dfk D :: csB b2 b3 b4 b5 b6 ll (mtv k vt) la lc lk f K1 []) Ent.refl)
    · refine Ent.cons (by exact rm) ?_
      refine Ent.star ?_
      show Ent _ (lpk ll2 σ .ready none :: dfk D :: csB b2 b3 b4 b5 b6 ll (mtv k vt) none 0 [] true K [])
      exact entq
  · rintro ll2 D K' (⟨_, hnl, K1, la, lc, lk, f, hφ, rfl⟩ | ⟨hpd, _⟩)
    · refine sx ?_
      refine s_mEndD (by exact rm) (resM0 rfl) ⟨rfl, K1, .inl ⟨hφ, rfl⟩⟩ ?_ (.inr rfl)
      exact Ent.star (L := [.hb b2 40 [(mtv k vt)], .hb b3 53 [.pointer none], g1]) (by exact ent)
    · cases hpd
  · rintro ll2 D cd K' (⟨hpd, _⟩ | ⟨hpd, K1, la, lc, lk, f, hf⟩)
    · cases hpd
    · obtain rfl := Option.some.inj hpd
      rcases hf with ⟨h1, h2, rfl⟩ | ⟨h1, rfl⟩
      · refine sx ?_
        refine s_mEndD (by exact rm) (resM0 rfl) ⟨rfl, K1, .inl ⟨h1, rfl⟩⟩ ?_ (.inl rfl)
        exact Ent.star (L := [.hb b2 40 [(mtv k vt)], .hb b3 53 [.pointer none], g1]) (by exact ent)
      · refine sx ?_
        refine s_mEndD (by exact rm) (resM0 rfl) ⟨rfl, K1, .inr ⟨h1, rfl⟩⟩ ?_ (.inl rfl)
        exact Ent.star (L := [.hb b2 40 [(mtv k vt)], .hb b3 53 [.pointer none], g1]) (by exact ent)
@[reducible] def ckR (b2 b3 eb : Nat) (v : Value) (g : Ck) : Ck := .star [.hb b2 40 [v], .hb b3 53 [.pointer (some ⟨eb, 0, none⟩)], exE eb, g]
@[reducible] def csR (b2 b3 eb b4 b5 b6 ll : Nat) (v : Value) (la : Option Addr) (lc : Nat) (lk : Bs) (f : Bool) (K R : List Ck) : List Ck := .star K :: .hb b4 78 [yv ll] :: .hb b5 49 [.slice la lk.length lc] :: .hb b6 4 [.bool f] :: ob la lc lk :: .hb b2 40 [v] :: .hb b3 53 [.pointer (some ⟨eb, 0, none⟩)] :: exE eb :: R
set_option maxHeartbeats 4000000 in
theorem check_tellR {b2 b3 eb : Nat} {v : Value} {o : Bool} {g0 g1 : Ck} {gm : Nat → Ck} {L0 : List (Bs × Bs)} {n : Nat} (hT : TvS Tryz.prog w0 o g0 gm g1 g1 v L0) (hsm : SmL L0) (hn : Rn L0 n) (hnL : n = L0.length) :
    TellS Tryz.prog w0 true (ckR b2 b3 eb v g0) (fun u => ckR b2 b3 eb v (gm u)) (ckR b2 b3 eb v g1) (ckR b2 b3 eb v g1) 36 [.pointer (some ⟨b3, 0, none⟩), .pointer (some ⟨b2, 0, none⟩)] (L0.take n) := by
  intro ll φ fin hy K h0
  have hlL : (L0.take n).length = n := by rw [List.length_take]; exact Nat.min_eq_left hn.le
  rw [hlL]
  have hLi : ∀ i, i < n → (L0.take n)[i]? = L0[i]? := fun i h => List.getElem?_take_of_lt h
  refine FnS.ent (H' := exE eb :: .hb b2 40 [v] :: .hb b3 53 [.pointer (some ⟨eb, 0, none⟩)] :: g0 :: [.star K]) ?_ (Ent.trans (H' := .hb b2 40 [v] :: .hb b3 53 [.pointer (some ⟨eb, 0, none⟩)] :: exE eb :: g0 :: [.star K]) (Ent.open Ent.refl) (by exact entq))
  refine FnS.ex fun e0 => ?_
  refine fns_enterM Tryz.func36 rfl rfl rfl ?_
  refine sx ?_
  refine s_box1 rfl rfl fun b4 => ?_
  refine sx ?_
  refine s_alloc fun b5 => ?_
  refine sx ?_
  refine s_alloc fun b6 => ?_
  refine sx ?_
  refine s_call rfl (of_s hT) ?_
  rintro _ _ ⟨⟨k, cap, rfl, hk, ht⟩, rfl⟩
  refine ⟨chk_seq, ?_⟩
  haveI := hk
  refine s_entL (csR b2 b3 eb b4 b5 b6 ll v none 0 [] true K [g0]) (by
    refine Ent.trans (H' := exEc eb true :: .star K :: .hb b4 78 [yv ll] :: .hb b5 49 [.slice none 0 0] :: .hb b6 4 [.bool true] :: .hb b2 40 [v] :: .hb b3 53 [.pointer (some ⟨eb, 0, none⟩)] :: [g0]) (by exact ent) ?_
    refine (exK_in (c := exEc eb) true).trans ?_
    show Ent (exE eb :: _) _
    refine Ent.cons (by exact rm) (Ent.cons (by exact rm) (Ent.cons (by exact rm) (Ent.cons (by exact rm) ?_)))
    exact Ent.nilS.trans (Ent.head (by exact entq))) ?_
  refine sx ?_
  refine s_rangeF (cap := cap) (ps := [14, 15]) rfl (fun ll2 D pd K' => (pd = none ∧ n = L0.length ∧ ∃ K1 la lc lk f, φ n K1 ∧ K' = dfk D :: csR b2 b3 eb b4 b5 b6 ll v la lc lk f K1 [g1]) ∨ (pd = some .ret ∧ ∃ K1 la lc lk f, ((φ n K1 ∧ n < L0.length ∧ K' = dfk D :: csR b2 b3 eb b4 b5 b6 ll v la lc lk f K1 [g1]) ∨ (fin K1 ∧ K' = dfk D :: csR b2 b3 eb b4 b5 b6 ll v la lc lk f K1 [g1])))) ?_ ?_ ?_
  · intro ll2 D σ hσ
    refine FnS.ent (H' := [g0, .star (lpk ll2 σ .ready none :: dfk D :: csR b2 b3 eb b4 b5 b6 ll v none 0 [] true K [])]) ?_ ?_
    · refine FnS.post (ht ll2 (fun i Kin => ∃ K1 la lc lk f, φ i K1 ∧ i ≤ n ∧ (i = 0 ∧ f = true ∨ 0 < i ∧ f = false ∧ ∃ p, L0[i - 1]? = some p ∧ p.1 = lk) ∧ Kin = lpk ll2 σ .ready none :: dfk D :: csR b2 b3 eb b4 b5 b6 ll v la lc lk f K1 [])
        (fun Kin => ∃ K1 la lc lk f, ((φ n K1 ∧ n < L0.length ∧ Kin = lpk ll2 σ .done (some .ret) :: dfk D :: csR b2 b3 eb b4 b5 b6 ll v la lc lk f K1 []) ∨ (fin K1 ∧ Kin = lpk ll2 σ .done (some .ret) :: dfk D :: csR b2 b3 eb b4 b5 b6 ll v la lc lk f K1 []))) ?_ _ ⟨K, none, 0, [], true, h0, Nat.zero_le _, .inl ⟨rfl, rfl⟩, rfl⟩) ?_
      · rintro i x u Kc T E hx ⟨K1, la, lc, lk, f, hφ, hin, hf, rfl⟩ hT hr
        obtain ⟨y1, y2⟩ := hsm _ (List.mem_of_getElem? hx)
        replace y1 : x.k.length ≤ 140737488355328 := y1
        replace y2 : x.v.length ≤ 140737488355328 := y2
        have hil := (List.getElem?_eq_some_iff.1 hx).1
        have h1 : RBy w0 (.star T :: gm u :: E) x.ka x.kc x.k := hr.k.ent (Ent.head (Ent.tl Ent.refl))
        have h2 : RBy w0 (.star T :: gm u :: E) x.va x.vc x.v := hr.v.ent (Ent.head (Ent.tl Ent.refl))

        have hin' : i < n ∨ (i = n ∧ n < L0.length) := by omega
        refine YldS.ent (H' := lpk ll2 σ .ready none :: dfk D :: csR b2 b3 eb b4 b5 b6 ll v la lc lk f K1 (.star T :: gm u :: E)) ?_ (Ent.trans st_sw (Ent.open (L := lpk ll2 σ .ready none :: dfk D :: csR b2 b3 eb b4 b5 b6 ll v la lc lk f K1 []) Ent.refl))
        refine yld_of (args := [_, _]) hσ (by exact rm) rfl rfl ?_
        refine sx ?_
        refine s_beg (by exact rm) ?_
        refine sx ?_
        have stp : StopAt 11 := trivial
        by_cases hlt : i < n
        · apply s_joinU
          · intro kk
            rcases hf with ⟨hi0, hf1⟩ | ⟨hi0, hf1, p, hp, hpk⟩
            · refine s_rw (t := 18) (v' := .bool false) rfl (by rw [hf1]; rfl) ?_
              refine sxs ?_
              refine s_sub (l' := [(1, .pointer (some ⟨b3, 0, none⟩)), (3, .pointer (some ⟨b4, 0, none⟩)), (4, .pointer (some ⟨b5, 0, none⟩)), (5, .pointer (some ⟨b6, 0, none⟩)), (6, .slice x.ka x.k.length x.kc), (7, .slice x.va x.v.length x.vc)]) ?_ (by repeat (first | exact trivial | refine And.intro (by first | exact rfl | exact congrArg some (ci (by omega))) ?_))
              exact kk.out
            · have hup := hn.up (i - 1) p x.p (by omega) hp (by rw [show i - 1 + 1 = i by omega]; exact hx)
              rw [hpk] at hup
              have hno : ¬ cmp x.k lk ≤ 0 := by
                have := cmp_anti x.k lk
                have : cmp lk x.k < 0 := hup
                omega
              refine s_rw (t := 18) (v' := .bool true) rfl (by rw [hf1]; rfl) ?_
              refine sxs ?_
              refine s_callV rfl (compare_s (xs := x.k) (ys := lk) (by exact rby) (by exact rby)) ?_
              refine sxs ?_
              refine s_if rfl (fun t => absurd t hno) (fun _ => ?_)
              refine sxs ?_
              refine s_sub (l' := [(1, .pointer (some ⟨b3, 0, none⟩)), (3, .pointer (some ⟨b4, 0, none⟩)), (4, .pointer (some ⟨b5, 0, none⟩)), (5, .pointer (some ⟨b6, 0, none⟩)), (6, .slice x.ka x.k.length x.kc), (7, .slice x.va x.v.length x.vc)]) ?_ (by repeat (first | exact trivial | refine And.intro (by first | exact rfl | exact congrArg some (ci (by omega))) ?_))
              exact kk.out
          clear stp
          refine sx ?_
          refine s_call rfl (copied_s (xs := x.k) (by exact rby) y1) ?_
          rintro _ _ ⟨l1, rfl, rfl⟩
          refine ⟨chk_seq, ?_⟩
          refine sx ?_
          refine s_drH [.hb b4 78 [yv ll]] (.one true 0 (.one true 1 (.one true 3 (.one false 2 (.one false 4 (.one false 5 (.one true 6 .nil))))))) mixed (by kernel_rfl) ?_ (he := by exact ent)
          refine sx ?_
          refine s_call rfl (copied_s (xs := x.k) (by exact rby) y1) ?_
          rintro _ _ ⟨k1, rfl, rfl⟩
          refine ⟨chk_held (by exact ent), ?_⟩
          refine sx ?_
          refine s_call rfl (copied_s (xs := x.v) (by exact rby) y2) ?_
          rintro _ _ ⟨v1, rfl, rfl⟩
          refine ⟨chk_held (by exact ent), ?_⟩
          refine sx ?_
          refine s_yld rfl rfl ((hy i ⟨k1, x.k.length, x.k, v1, x.v.length, x.v⟩ u K1 _ (lpk ll2 σ .busy none :: dfk D :: .hb b4 78 [yv ll] :: .hb b5 49 [.slice l1 x.k.length x.k.length] :: .hb b6 4 [.bool false] :: ob l1 x.k.length x.k :: .star T :: E) (by rw [hLi i hlt]; exact hx) hφ (fun _ => rfl) REe.of).ent ?_) ?_
          · refine ent_oKVs (by exact rm) (by exact rm) ?_
            refine Ent.cons (by exact rm) ?_
            exact Ent.star (L := [.hb b2 40 [v], .hb b3 53 [.pointer (some ⟨eb, 0, none⟩)], exE eb, gm u]) (by exact ent)
          rintro _ _ ⟨K3, hK3, rfl⟩
          have hop : Ent (.star K3 :: ckR b2 b3 eb v (gm u) :: lpk ll2 σ .busy none :: dfk D :: .hb b4 78 [yv ll] :: .hb b5 49 [.slice l1 x.k.length x.k.length] :: .hb b6 4 [.bool false] :: ob l1 x.k.length x.k :: .star T :: E) (lpk ll2 σ .busy none :: dfk D :: csR b2 b3 eb b4 b5 b6 ll v l1 x.k.length x.k false K3 (.star T :: gm u :: E)) := (Ent.head (Ent.open Ent.refl)).trans (by exact ent)
          refine ⟨chk_held (hop.trans (by exact ent)), ?_⟩
          refine s_entL _ hop ?_
          rcases hK3 with ⟨rfl, hK3⟩ | ⟨rfl, hK3⟩
          · refine sx ?_
            refine s_rnd (by exact rm) ⟨_, .inl ⟨rfl, K3, l1, x.k.length, x.k, false, hK3, by omega, .inr ⟨by omega, rfl, x.p, hx, rfl⟩, rfl⟩, rfl⟩ ?_
            refine Ent.star (L := lpk ll2 σ .ready none :: dfk D :: csR b2 b3 eb b4 b5 b6 ll v l1 x.k.length x.k false K3 []) ?_
            show Ent _ (lpk ll2 σ .ready none :: dfk D :: csR b2 b3 eb b4 b5 b6 ll v l1 x.k.length x.k false K3 (gm u :: E))
            exact ent
          · refine sx ?_
            refine s_rndR (by exact rm) ⟨_, .inr ⟨rfl, K3, l1, x.k.length, x.k, false, .inr ⟨hK3, rfl⟩⟩, rfl⟩ ?_
            refine Ent.star (L := lpk ll2 σ .done (some .ret) :: dfk D :: csR b2 b3 eb b4 b5 b6 ll v l1 x.k.length x.k false K3 []) ?_
            show Ent _ (lpk ll2 σ .done (some .ret) :: dfk D :: csR b2 b3 eb b4 b5 b6 ll v l1 x.k.length x.k false K3 (gm u :: E))
            exact ent
        · exact absurd (hin'.resolve_left hlt).2 (by omega)
      · rintro v' K' ⟨rfl, K2, ⟨⟨K1, la, lc, lk, f, hφ, hin, _, rfl⟩, rfl⟩ | ⟨⟨K1, la, lc, lk, f, hf⟩, rfl⟩⟩
        · have hnl : n = L0.length := by have := hn.le; omega
          refine ⟨_, ⟨.ready, none, _, (fun e => by cases e), rfl, .inl ⟨rfl, hnl, K1, la, lc, lk, f, by rw [hnl]; exact hφ, rfl⟩⟩, ?_⟩
          exact Ent.trans (Ent.perm (.swap _ _ _)) (Ent.open (L := lpk ll2 σ .ready none :: dfk D :: csR b2 b3 eb b4 b5 b6 ll v la lc lk f K1 []) Ent.refl)
        · rcases hf with ⟨h1, h2, rfl⟩ | ⟨h1, rfl⟩
          · refine ⟨_, ⟨.done, some .ret, _, (fun e => by cases e), rfl, .inr ⟨rfl, K1, la, lc, lk, f, .inl ⟨h1, h2, rfl⟩⟩⟩, ?_⟩
            exact Ent.trans (Ent.perm (.swap _ _ _)) (Ent.open (L := lpk ll2 σ .done (some .ret) :: dfk D :: csR b2 b3 eb b4 b5 b6 ll v la lc lk f K1 []) Ent.refl)
          · refine ⟨_, ⟨.done, some .ret, _, (fun e => by cases e), rfl, .inr ⟨rfl, K1, la, lc, lk, f, .inr ⟨h1, rfl⟩⟩⟩, ?_⟩
            exact Ent.trans (Ent.perm (.swap _ _ _)) (Ent.open (L := lpk ll2 σ .done (some .ret) :: dfk D :: csR b2 b3 eb b4 b5 b6 ll v la lc lk f K1 []) Ent.refl)
    · refine Ent.cons (by exact rm) ?_
      refine Ent.star ?_
      show Ent _ (lpk ll2 σ .ready none :: dfk D :: csR b2 b3 eb b4 b5 b6 ll v none 0 [] true K [])
      exact entq
  · rintro ll2 D K' (⟨_, hnl, K1, la, lc, lk, f, hφ, rfl⟩ | ⟨hpd, _⟩)
    · refine sx ?_
      refine s_mEndD (by exact rm) (resM0 rfl) ⟨rfl, K1, .inl ⟨hφ, rfl⟩⟩ ?_ (.inr rfl)
      exact Ent.star (L := [.hb b2 40 [v], .hb b3 53 [.pointer (some ⟨eb, 0, none⟩)], exE eb, g1]) (by exact ent)
    · cases hpd
  · rintro ll2 D cd K' (⟨hpd, _⟩ | ⟨hpd, K1, la, lc, lk, f, hf⟩)
    · cases hpd
    · obtain rfl := Option.some.inj hpd
      rcases hf with ⟨h1, h2, rfl⟩ | ⟨h1, rfl⟩
      · refine sx ?_
        refine s_mEndD (by exact rm) (resM0 rfl) ⟨rfl, K1, .inl ⟨h1, rfl⟩⟩ ?_ (.inl rfl)
        exact Ent.star (L := [.hb b2 40 [v], .hb b3 53 [.pointer (some ⟨eb, 0, none⟩)], exE eb, g1]) (by exact ent)
      · refine sx ?_
        refine s_mEndD (by exact rm) (resM0 rfl) ⟨rfl, K1, .inr ⟨h1, rfl⟩⟩ ?_ (.inl rfl)
        exact Ent.star (L := [.hb b2 40 [v], .hb b3 53 [.pointer (some ⟨eb, 0, none⟩)], exE eb, g1]) (by exact ent)
end Go.Sx

