/- Part of a proof: several parts of a walk, one behind the other. -/
import Derived.Test.YtpnhoafmlhlfgaaCMEj
import Derived.Test.YtpnhoafmlhlfgaaCMS
import Derived.Test.YtpnhoafmlhlfgaaCML
namespace Go.Sx
open Go
def RiL (l : List Pp) : Prop := l.Pairwise fun a b => cmp a.1 b.1 < 0
/-- What a list says of a key: the last one that has it. -/
def getL (l : List Pp) (k : Bs) : Option Bs := ((l.filter fun p => decide (p.1 = k)).getLast?).map Prod.snd
theorem getL_cons (p : Pp) (l : List Pp) (k : Bs) : getL (p :: l) k = match getL l k with
    | some v => some v
    | none => if p.1 = k then some p.2 else none := by
  unfold getL
  rw [List.filter_cons]
  by_cases h : p.1 = k
  · simp only [h, decide_true, if_true]
    cases hl : (l.filter fun p => decide (p.1 = k)).getLast? with
    | none =>
      rw [List.getLast?_eq_none_iff] at hl
      simp [hl]
    | some q => simp [List.getLast?_cons, hl]
  · simp only [h, decide_false, if_false]
    cases hl : (l.filter fun p => decide (p.1 = k)).getLast? with
    | none => simp [hl]
    | some q => simp [hl]
theorem getL_none {k : Bs} : ∀ {l : List Pp}, (∀ p ∈ l, p.1 ≠ k) → getL l k = none
  | [], _ => rfl
  | p :: l, h => by
    rw [getL_cons, getL_none fun q hq => h q (List.mem_cons_of_mem _ hq), if_neg (h p (by simp))]
theorem getL_mem {k v : Bs} : ∀ {l : List Pp}, getL l k = some v → (k, v) ∈ l
  | [], h => by cases h
  | p :: l, h => by
    rw [getL_cons] at h
    cases hl : getL l k with
    | some w =>
      rw [hl] at h
      cases h
      exact List.mem_cons_of_mem _ (getL_mem hl)
    | none =>
      rw [hl] at h
      simp only at h
      by_cases e : p.1 = k
      · rw [if_pos e] at h
        cases h
        subst e
        simp
      · rw [if_neg e] at h
        cases h
theorem getL_at {l : List Pp} (h : RiL l) {p : Pp} (hp : p ∈ l) : getL l p.1 = some p.2 := by
  induction l with
  | nil => cases hp
  | cons q l ih =>
    obtain ⟨h1, h2⟩ := List.pairwise_cons.1 h
    rw [getL_cons]
    rcases List.mem_cons.1 hp with rfl | hp
    · rw [getL_none fun r hr e => by have := h1 r hr; rw [e, cmp_self] at this; omega, if_pos rfl]
    · rw [ih h2 hp]
/-- Rising lists that say the same are one. -/
theorem RiL.uniq : ∀ {l m : List Pp}, RiL l → RiL m → (∀ k, getL l k = getL m k) → l = m
  | [], [], _, _, _ => rfl
  | [], q :: m, _, hm, h => by
    have := getL_at hm (p := q) (by simp)
    rw [← h] at this
    cases this
  | p :: l, [], hl, _, h => by
    have := getL_at hl (p := p) (by simp)
    rw [h] at this
    cases this
  | p :: l, q :: m, hl, hm, h => by
    obtain ⟨h1, h2⟩ := List.pairwise_cons.1 hl
    obtain ⟨g1, g2⟩ := List.pairwise_cons.1 hm
    have a1 := getL_at hl (p := p) (by simp)
    have a2 := getL_at hm (p := q) (by simp)
    have b1 := getL_mem (by rw [← h]; exact a1)
    have b2 := getL_mem (by rw [h]; exact a2)
    have hpq : p = q := by
      rcases List.mem_cons.1 b1 with e | e
      · exact e
      · rcases List.mem_cons.1 b2 with e' | e'
        · exact e'.symm
        · have x1 := g1 _ e
          have x2 := h1 _ e'
          have := cmp_anti p.1 q.1
          simp only at x1 x2
          omega
    subst hpq
    congr 1
    refine RiL.uniq h2 g2 fun k => ?_
    have hk := h k
    rw [getL_cons, getL_cons] at hk
    by_cases e : p.1 = k
    · subst e
      rw [getL_none fun r hr e => by have := h1 r hr; rw [e, cmp_self] at this; omega, getL_none fun r hr e => by have := g1 r hr; rw [e, cmp_self] at this; omega]
    · simp only [if_neg e] at hk
      cases x : getL l k <;> cases y : getL m k <;> simp_all
/-- What the first of some lists says that says something. -/
def fstL : List (List Pp) → Bs → Option Bs
  | [], _ => none
  | l :: ls, k => match getL l k with
    | some v => some v
    | none => fstL ls k
theorem fstL_app (k : Bs) : ∀ (a b : List (List Pp)), fstL (a ++ b) k = match fstL a k with | some v => some v | none => fstL b k
  | [], b => rfl
  | l :: a, b => by
    show (match getL l k with | some v => some v | none => fstL (a ++ b) k) = _
    rw [fstL_app k a b]
    simp only [fstL]
    cases getL l k <;> rfl
theorem bst_none : ∀ {j : Nat} {ls : List (List Pp)}, bst ls j = none → ∀ i < j, ∀ l, ls[i]? = some l → l = []
  | 0, _, _, i, hi, _, _ => by omega
  | j + 1, ls, h, i, hi, l, hl => by
    unfold bst at h
    split at h
    · split at h
      · cases h
      · split at h <;> cases h
    · rename_i hx
      rcases Nat.lt_or_ge i j with g | g
      · exact bst_none h i g l hl
      · obtain rfl : i = j := by omega
        cases l with
        | nil => rfl
        | cons p r => exact absurd hl (hx p r)
theorem keyAt_eq {ls : List (List Pp)} {b : Nat} {p : Pp} {r : List Pp} (h : ls[b]? = some (p :: r)) : keyAt ls b = p.1 := by simp [keyAt, h]
/-- The best one's head is the least, and less than those ahead of it. -/
theorem bst_le : ∀ {j : Nat} {ls : List (List Pp)} {b : Nat}, bst ls j = some b → ∀ i < j, ∀ q r, ls[i]? = some (q :: r) → cmp (keyAt ls b) q.1 ≤ 0 ∧ (i < b → cmp (keyAt ls b) q.1 < 0)
  | 0, _, _, h, _, _, _, _, _ => by cases h
  | j + 1, ls, b, h, i, hi, q, r, hq => by
    unfold bst at h
    split at h
    · rename_i p s hj
      split at h
      · rename_i hn
        cases h
        rcases Nat.lt_or_ge i j with g | g
        · have := bst_none hn i g _ hq
          cases this
        · obtain rfl : i = j := by omega
          rw [hj] at hq
          cases hq
          rw [keyAt_eq hj, cmp_self]
          exact ⟨Int.le_refl _, fun g => absurd g (Nat.lt_irrefl _)⟩
      · rename_i b' hb'
        have ih := bst_le hb'
        obtain ⟨hb1, p', r', hb2⟩ := bst_some hb'
        split at h
        · rename_i hc
          cases h
          rw [keyAt_eq hj]
          rcases Nat.lt_or_ge i j with g | g
          · have h1 := (ih i g q r hq).1
            have := lt_tr hc h1
            exact ⟨by omega, fun _ => this⟩
          · obtain rfl : i = j := by omega
            rw [hj] at hq
            cases hq
            rw [cmp_self]
            exact ⟨Int.le_refl _, fun g => absurd g (Nat.lt_irrefl _)⟩
        · rename_i hc
          cases h
          rcases Nat.lt_or_ge i j with g | g
          · exact ih i g q r hq
          · obtain rfl : i = j := by omega
            rw [hj] at hq
            cases hq
            have := cmp_anti q.1 (keyAt ls b)
            exact ⟨by omega, fun g => by omega⟩
    · rename_i hx
      rcases Nat.lt_or_ge i j with g | g
      · exact bst_le h i g q r hq
      · obtain rfl : i = j := by omega
        exact absurd hq (hx q r)
theorem skp_mem {k : Bs} {l : List Pp} {e : Pp} (h : e ∈ skp k l) : e ∈ l := (List.dropWhile_sublist _).subset h
theorem skp_ri {k : Bs} {l : List Pp} (h : RiL l) : RiL (skp k l) := h.sublist (List.dropWhile_sublist _)
theorem skp_gt {k : Bs} : ∀ {l : List Pp}, RiL l → ∀ e ∈ skp k l, cmp k e.1 < 0
  | [], _, e, he => by cases he
  | p :: l, h, e, he => by
    obtain ⟨h1, h2⟩ := List.pairwise_cons.1 h
    unfold skp at he
    rw [List.dropWhile_cons] at he
    split at he
    · exact skp_gt h2 e he
    · rename_i hc
      have hc : ¬ cmp p.1 k ≤ 0 := by simpa using hc
      have hpk : cmp k p.1 < 0 := by have := cmp_anti p.1 k; omega
      rcases List.mem_cons.1 he with rfl | he
      · exact hpk
      · have := h1 e he
        exact lt_tr hpk (by omega)
theorem skp_get {k key : Bs} (hk : cmp k key < 0) : ∀ {l : List Pp}, RiL l → getL (skp k l) key = getL l key
  | [], _ => rfl
  | p :: l, h => by
    obtain ⟨h1, h2⟩ := List.pairwise_cons.1 h
    unfold skp
    rw [List.dropWhile_cons]
    split
    · rename_i hc
      have hc : cmp p.1 k ≤ 0 := by simpa using hc
      have : getL (skp k l) key = getL l key := skp_get hk h2
      unfold skp at this
      rw [this, getL_cons]
      have hne : p.1 ≠ key := by
        rintro rfl
        have := cmp_anti p.1 k
        omega
      rw [if_neg hne]
      cases getL l key <;> rfl
    · rfl
theorem unN_mem : ∀ (n : Nat) (ls : List (List Pp)) (e : Pp), e ∈ unN n ls → ∃ l ∈ ls, e ∈ l
  | 0, _, _, h => by cases h
  | n + 1, ls, e, h => by
    unfold unN at h
    split at h
    · cases h
    · split at h
      · rename_i b _ p r hp
        rcases List.mem_cons.1 h with rfl | h
        · exact ⟨_, List.mem_of_getElem? hp, by simp⟩
        · obtain ⟨l, hl, he⟩ := unN_mem n _ e h
          obtain ⟨l', hl', rfl⟩ := List.mem_map.1 hl
          exact ⟨l', hl', skp_mem he⟩
      · cases h
theorem fst_skp {k key : Bs} (hk : cmp k key < 0) : ∀ {ls : List (List Pp)}, (∀ l ∈ ls, RiL l) → fstL (ls.map (skp k)) key = fstL ls key
  | [], _ => rfl
  | l :: ls, h => by
    simp only [List.map_cons, fstL]
    rw [skp_get hk (h l (by simp)), fst_skp hk fun m hm => h m (List.mem_cons_of_mem _ hm)]
theorem fst_none {key : Bs} : ∀ {ls : List (List Pp)}, (∀ l ∈ ls, ∀ e ∈ l, e.1 ≠ key) → fstL ls key = none
  | [], _ => rfl
  | l :: ls, h => by
    simp only [fstL]
    rw [getL_none (h l (by simp))]
    exact fst_none fun m hm => h m (List.mem_cons_of_mem _ hm)
theorem union_is : ∀ (n : Nat) (ls : List (List Pp)), tot ls ≤ n → (∀ l ∈ ls, RiL l) → RiL (unionL ls) ∧ ∀ key, getL (unionL ls) key = fstL ls key := by
  intro n
  induction n with
  | zero =>
    intro ls hn hr
    have hb : bst ls ls.length = none := by
      rcases hb : bst ls ls.length with _ | b
      · rfl
      · obtain ⟨_, p, r, hp⟩ := bst_some hb
        have := tot_lt hp
        omega
    rw [unionL_none hb]
    refine ⟨List.Pairwise.nil, fun key => ?_⟩
    rw [fst_none]
    · rfl
    · intro l hl e he
      obtain ⟨i, hi⟩ := List.getElem?_of_mem hl
      have := bst_none hb i (List.getElem?_eq_some_iff.1 hi).1 l hi
      subst this
      cases he
  | succ n ih =>
    intro ls hn hr
    rcases hb : bst ls ls.length with _ | b
    · rw [unionL_none hb]
      refine ⟨List.Pairwise.nil, fun key => ?_⟩
      rw [fst_none]
      · rfl
      · intro l hl e he
        obtain ⟨i, hi⟩ := List.getElem?_of_mem hl
        have := bst_none hb i (List.getElem?_eq_some_iff.1 hi).1 l hi
        subst this
        cases he
    · obtain ⟨hbl, p, r, hp⟩ := bst_some hb
      have hlt := tot_lt hp
      rw [unionL_some hb hp]
      have hr' : ∀ l ∈ ls.map (skp p.1), RiL l := by
        intro l hl
        obtain ⟨l', hl', rfl⟩ := List.mem_map.1 hl
        exact skp_ri (hr l' hl')
      obtain ⟨i1, i2⟩ := ih (ls.map (skp p.1)) (by omega) hr'
      have hgt : ∀ e ∈ unionL (ls.map (skp p.1)), cmp p.1 e.1 < 0 := by
        intro e he
        obtain ⟨l, hl, hel⟩ := unN_mem _ _ e he
        obtain ⟨l', hl', rfl⟩ := List.mem_map.1 hl
        exact skp_gt (hr l' hl') e hel
      refine ⟨List.pairwise_cons.2 ⟨hgt, i1⟩, fun key => ?_⟩
      rw [getL_cons, i2]
      have hle := bst_le hb
      rw [keyAt_eq hp] at hle
      -- no head is less than p
      have hmin : ∀ (i : Nat) (l : List Pp), ls[i]? = some l → ∀ e ∈ l, cmp p.1 e.1 ≤ 0 ∧ (i < b → cmp p.1 e.1 < 0) := by
        intro i l hl e he
        have hil := (List.getElem?_eq_some_iff.1 hl).1
        cases l with
        | nil => cases he
        | cons q s =>
          obtain ⟨h1, h2⟩ := hle i hil q s hl
          rcases List.mem_cons.1 he with rfl | he
          · exact ⟨h1, h2⟩
          · have h3 := (List.pairwise_cons.1 (hr _ (List.mem_of_getElem? hl))).1 e he
            have h4 : cmp p.1 e.1 < 0 := by
              rcases Int.lt_or_eq_of_le h1 with g | g
              · exact lt_tr g (by omega)
              · have := (cmp_eq _ _).1 g
                rw [this]
                exact h3
            exact ⟨by omega, fun _ => h4⟩
      by_cases hk : cmp p.1 key < 0
      · rw [fst_skp hk hr, if_neg (by rintro rfl; rw [cmp_self] at hk; omega)]
        cases fstL ls key <;> rfl
      · have hz : fstL (ls.map (skp p.1)) key = none := by
          refine fst_none fun l hl e he => ?_
          obtain ⟨l', hl', rfl⟩ := List.mem_map.1 hl
          have := skp_gt (hr l' hl') e he
          rintro rfl
          exact hk this
        rw [hz]
        simp only
        by_cases e : p.1 = key
        · subst e
          rw [if_pos rfl]
          have hsplit : ls = ls.take b ++ (p :: r) :: ls.drop (b + 1) := by
            rw [← dropG hp, List.take_append_drop]
          rw [hsplit, fstL_app, fst_none]
          · simp only [fstL]
            rw [getL_at (hr _ (List.mem_of_getElem? hp)) (by simp)]
          · intro l hl e he hne
            obtain ⟨i, hi⟩ := List.getElem?_of_mem hl
            have hib : i < b := by
              have := (List.getElem?_eq_some_iff.1 hi).1
              rw [List.length_take] at this
              omega
            rw [List.getElem?_take_of_lt hib] at hi
            have := (hmin i l hi e he).2 hib
            rw [hne, cmp_self] at this
            omega
        · rw [if_neg e, fst_none]
          intro l hl e' he' hne
          obtain ⟨i, hi⟩ := List.getElem?_of_mem hl
          have := (hmin i l hi e' he').1
          rw [hne] at this
          rcases Int.lt_or_eq_of_le this with g | g
          · exact hk g
          · exact e ((cmp_eq _ _).1 g)
theorem union_ri {ls : List (List Pp)} (h : ∀ l ∈ ls, RiL l) : RiL (unionL ls) := (union_is _ ls (Nat.le_refl _) h).1
theorem union_get {ls : List (List Pp)} (h : ∀ l ∈ ls, RiL l) (key : Bs) : getL (unionL ls) key = fstL ls key := (union_is _ ls (Nat.le_refl _) h).2 key
/-- Whatever was put together first. -/
theorem union_two {a b : List (List Pp)} (ha : ∀ l ∈ a, RiL l) (hb : ∀ l ∈ b, RiL l) : unionL [unionL a, unionL b] = unionL (a ++ b) := by
  have hab : ∀ l ∈ a ++ b, RiL l := fun l hl => (List.mem_append.1 hl).elim (ha l) (hb l)
  have h2 : ∀ l ∈ [unionL a, unionL b], RiL l := by
    intro l hl
    simp only [List.mem_cons, List.not_mem_nil, or_false] at hl
    rcases hl with rfl | rfl
    · exact union_ri ha
    · exact union_ri hb
  refine (union_ri h2).uniq (union_ri hab) fun k => ?_
  rw [union_get h2, union_get hab, fstL_app]
  simp only [fstL, union_get ha, union_get hb]
  cases fstL a k with
  | some v => rfl
  | none => cases fstL b k <;> rfl
end Go.Sx
namespace Go.Sx
open Go Go.Proofs
set_option maxRecDepth 10000
variable {w0 : World} {H : List Ck}
theorem stars_append {β : Type} {f : β → List Ck} {F G : List β} {H : List Ck} : Ent (stars f (F ++ G) :: H) (stars f F :: stars f G :: H) := by
  unfold stars
  rw [List.flatMap_append]
  exact Ent.trans st_app (Ent.star Ent.refl)
/-- A telling of Of. -/
structure OfD where
  b : Nat
  a : Option Addr
  c : Nat
  out : List KV
@[reducible] def OfD.fu (d : OfD) : Fu := ⟨some (27, [.pointer (some ⟨d.b, 0, none⟩)])⟩
@[reducible] def ofP (d : OfD) : List Ck := [ofG d.b d.a d.c d.out]
def OfD.l (d : OfD) : List Pp := d.out.map KV.p
theorem ofd_tv {d : OfD} (h : SmL d.l) : TvC Try.prog w0 (ofG d.b d.a d.c d.out) d.fu.val d.l := ⟨27, [.pointer (some ⟨d.b, 0, none⟩)], rfl, inferInstance, of_tell h⟩
theorem ofd_nth {fs : List OfD} {i : Nat} {d : OfD} (hd : fs[i]? = some d) (h : SmL d.l) : TvC Try.prog w0 (stars ofP fs) d.fu.val d.l :=
  (ofd_tv h).frame ((fs.eraseIdx i).flatMap ofP) (fun _ => stars_get hd) (fun H => by
    have h := stars_put (f := ofP) (s := d) (H := H) (List.getElem?_eq_some_iff.1 hd).1
    rw [set_same hd] at h
    exact h)
theorem ofd_union {b c : Nat} {a : Option Addr} {fs : List OfD} (hn : fs.length ≤ 549755813888) (hs : ∀ d ∈ fs, SmL d.l ∧ d.l.length ≤ 549755813888) :
    TvC Try.prog w0 (uG b a c (fs.map OfD.fu) (stars ofP fs)) (.func (.func 33) #[] #[.pointer (some ⟨b, 0, none⟩)]) (unionL (fs.map OfD.l)) := by
  refine ⟨33, [.pointer (some ⟨b, 0, none⟩)], rfl, inferInstance, union_tell (by simp) (by simpa using hn) ?_⟩
  intro i f l hf hl
  rw [List.getElem?_map] at hf hl
  rcases hd : fs[i]? with _ | d
  · rw [hd] at hf; cases hf
  · rw [hd] at hf hl
    cases hf
    cases hl
    obtain ⟨h1, h2⟩ := hs d (List.mem_of_getElem? hd)
    exact ⟨h2, h1, true, fun _ => stars ofP fs, stars ofP fs, .inr (ofd_nth hd h1)⟩
/-! ### What a map says -/
theorem getL_map : ∀ (l : List KV) (k : Bs), getL (l.map KV.p) k = getE l k
  | [], _ => rfl
  | e :: l, k => by
    rw [List.map_cons, getL_cons, getE_cons, getL_map l k]
    rfl
theorem map_says {es s out : List KV} (hM : Mrg es s) (ho : out.map KV.p = (lastsE s).map KV.p) : RiL (out.map KV.p) ∧ ∀ k, getL (out.map KV.p) k = getE es k := by
  obtain ⟨h1, h2⟩ := lasts_is hM.up
  have hri : RiL (out.map KV.p) := by
    rw [ho]
    unfold RiL
    rw [List.pairwise_map]
    exact h1
  refine ⟨hri, fun k => ?_⟩
  have hst : getE es k = getE s k := by
    unfold getE
    rw [hM.st.eq k]
  rw [hst]
  have hiff : ∀ v, getL (out.map KV.p) k = some v ↔ getE s k = some v := by
    intro v
    rw [← h2]
    constructor
    · intro g
      have := getL_mem g
      rw [ho] at this
      obtain ⟨e, he, hp⟩ := List.mem_map.1 this
      exact ⟨e, he, congrArg Prod.fst hp, congrArg Prod.snd hp⟩
    · rintro ⟨e, he, rfl, rfl⟩
      have : e.p ∈ out.map KV.p := by rw [ho]; exact List.mem_map_of_mem he
      exact getL_at hri this
  cases g : getE s k with
  | some v => exact (hiff v).2 g
  | none =>
    cases g2 : getL (out.map KV.p) k with
    | none => rfl
    | some v => rw [(hiff v).1 g2] at g; cases g
/-- Each telling is the map of a list. -/
def Maps (fs : List OfD) (ls : List SE) : Prop := fs.length = ls.length ∧ ∀ (i : Nat) (d : OfD) (s : SE), fs[i]? = some d → ls[i]? = some s → RiL d.l ∧ (∀ k, getL d.l k = getE s.xs k) ∧ SmL d.l ∧ d.l.length ≤ s.xs.length
theorem Maps.nil : Maps [] [] := ⟨rfl, fun i d s h _ => by simp at h⟩
theorem Maps.snoc {fs : List OfD} {ls : List SE} {d : OfD} {s : SE} (h : Maps fs ls) (h1 : RiL d.l) (h2 : ∀ k, getL d.l k = getE s.xs k) (h3 : SmL d.l) (h4 : d.l.length ≤ s.xs.length) : Maps (fs ++ [d]) (ls ++ [s]) := by
  refine ⟨by simp [h.1], fun i d' s' hd hs => ?_⟩
  rcases Nat.lt_or_ge i fs.length with g | g
  · rw [List.getElem?_append_left g] at hd
    rw [List.getElem?_append_left (by rw [← h.1]; exact g)] at hs
    exact h.2 i d' s' hd hs
  · rw [List.getElem?_append_right g] at hd
    rw [List.getElem?_append_right (by rw [← h.1]; exact g)] at hs
    have hi := (List.getElem?_eq_some_iff.1 hd).1
    simp only [List.length_cons, List.length_nil] at hi
    have e1 : i - fs.length = 0 := by omega
    rw [e1] at hd
    rw [← h.1, e1] at hs
    cases hd
    cases hs
    exact ⟨h1, h2, h3, h4⟩
theorem Maps.ri {fs : List OfD} {ls : List SE} (h : Maps fs ls) : ∀ l ∈ fs.map OfD.l, RiL l := by
  intro l hl
  obtain ⟨d, hd, rfl⟩ := List.mem_map.1 hl
  obtain ⟨i, hi⟩ := List.getElem?_of_mem hd
  obtain ⟨s, hs⟩ := get_lt ls i (by have := (List.getElem?_eq_some_iff.1 hi).1; rw [← h.1]; exact this)
  exact (h.2 i d s hi hs).1
theorem Maps.fst : ∀ {fs : List OfD} {ls : List SE}, Maps fs ls → ∀ k, fstL (fs.map OfD.l) k = fstE ls k
  | [], [], _, _ => rfl
  | [], _ :: _, h, _ => by have := h.1; simp at this
  | _ :: _, [], h, _ => by have := h.1; simp at this
  | d :: fs, s :: ls, h, k => by
    have h0 := h.2 0 d s rfl rfl
    have ih := Maps.fst (fs := fs) (ls := ls) ⟨by have := h.1; simpa using this, fun i d' s' hd hs => h.2 (i + 1) d' s' (by simpa using hd) (by simpa using hs)⟩ k
    simp only [List.map_cons, fstL, fstE, h0.2.1, ih]
    cases getE s.xs k <;> rfl
end Go.Sx
