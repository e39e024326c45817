/- Part of a proof: several parts of a walk, one behind the other. -/
import Derived.Test.YtpnhoafmlhlfgaaGreatCMEj
import Derived.Test.YtpnhoafmlhlfgaaGreatCKB
import Derived.Test.YtpnhoafmlhlfgaaGreatCZPj
import Derived.Test.YtpnhoafmlhlfgaaGreatCH1j
namespace Go.Sx
open Go
def RiL (l : List Pp) : Prop := l.Pairwise fun a b => cmp a.1 b.1 < 0
/-- What a list says of a key: the last one that has it. -/
def getL (l : List Pp) (k : Bs) : Option Bs := ((l.filter fun p => decide (p.1 = k)).getLast?).map Prod.snd
theorem getL_cons (p : Pp) (l : List Pp) (k : Bs) : getL (p :: l) k = match getL l k with
    | some v => some v
    | none => if p.1 = k then some p.2 else none := by
  unfold getL
  rw [List.filter_cons]
  by_cases h : p.1 = k
  · simp only [h, decide_true, if_true]
    cases hl : (l.filter fun p => decide (p.1 = k)).getLast? with
    | none =>
      rw [List.getLast?_eq_none_iff] at hl
      simp [hl]
    | some q => simp [List.getLast?_cons, hl]
  · simp only [h, decide_false, if_false]
    cases hl : (l.filter fun p => decide (p.1 = k)).getLast? with
    | none => simp [hl]
    | some q => simp [hl]
theorem getL_none {k : Bs} : ∀ {l : List Pp}, (∀ p ∈ l, p.1 ≠ k) → getL l k = none
  | [], _ => rfl
  | p :: l, h => by
    rw [getL_cons, getL_none fun q hq => h q (List.mem_cons_of_mem _ hq), if_neg (h p (by simp))]
theorem getL_mem {k v : Bs} : ∀ {l : List Pp}, getL l k = some v → (k, v) ∈ l
  | [], h => by cases h
  | p :: l, h => by
    rw [getL_cons] at h
    cases hl : getL l k with
    | some w =>
      rw [hl] at h
      cases h
      exact List.mem_cons_of_mem _ (getL_mem hl)
    | none =>
      rw [hl] at h
      simp only at h
      by_cases e : p.1 = k
      · rw [if_pos e] at h
        cases h
        subst e
        simp
      · rw [if_neg e] at h
        cases h
theorem getL_at {l : List Pp} (h : RiL l) {p : Pp} (hp : p ∈ l) : getL l p.1 = some p.2 := by
  induction l with
  | nil => cases hp
  | cons q l ih =>
    obtain ⟨h1, h2⟩ := List.pairwise_cons.1 h
    rw [getL_cons]
    rcases List.mem_cons.1 hp with rfl | hp
    · rw [getL_none fun r hr e => by have := h1 r hr; rw [e, cmp_self] at this; omega, if_pos rfl]
    · rw [ih h2 hp]
/-- Rising lists that say the same are one. -/
theorem RiL.uniq : ∀ {l m : List Pp}, RiL l → RiL m → (∀ k, getL l k = getL m k) → l = m
  | [], [], _, _, _ => rfl
  | [], q :: m, _, hm, h => by
    have := getL_at hm (p := q) (by simp)
    rw [← h] at this
    cases this
  | p :: l, [], hl, _, h => by
    have := getL_at hl (p := p) (by simp)
    rw [h] at this
    cases this
  | p :: l, q :: m, hl, hm, h => by
    obtain ⟨h1, h2⟩ := List.pairwise_cons.1 hl
    obtain ⟨g1, g2⟩ := List.pairwise_cons.1 hm
    have a1 := getL_at hl (p := p) (by simp)
    have a2 := getL_at hm (p := q) (by simp)
    have b1 := getL_mem (by rw [← h]; exact a1)
    have b2 := getL_mem (by rw [h]; exact a2)
    have hpq : p = q := by
      rcases List.mem_cons.1 b1 with e | e
      · exact e
      · rcases List.mem_cons.1 b2 with e' | e'
        · exact e'.symm
        · have x1 := g1 _ e
          have x2 := h1 _ e'
          have := cmp_anti p.1 q.1
          simp only at x1 x2
          omega
    subst hpq
    congr 1
    refine RiL.uniq h2 g2 fun k => ?_
    have hk := h k
    rw [getL_cons, getL_cons] at hk
    by_cases e : p.1 = k
    · subst e
      rw [getL_none fun r hr e => by have := h1 r hr; rw [e, cmp_self] at this; omega, getL_none fun r hr e => by have := g1 r hr; rw [e, cmp_self] at this; omega]
    · simp only [if_neg e] at hk
      cases x : getL l k <;> cases y : getL m k <;> simp_all
/-- What the first of some lists says that says something. -/
def fstL : List (List Pp) → Bs → Option Bs
  | [], _ => none
  | l :: ls, k => match getL l k with
    | some v => some v
    | none => fstL ls k
theorem fstL_app (k : Bs) : ∀ (a b : List (List Pp)), fstL (a ++ b) k = match fstL a k with | some v => some v | none => fstL b k
  | [], b => rfl
  | l :: a, b => by
    show (match getL l k with | some v => some v | none => fstL (a ++ b) k) = _
    rw [fstL_app k a b]
    simp only [fstL]
    cases getL l k <;> rfl
theorem bst_none : ∀ {j : Nat} {ls : List (List Pp)}, bst ls j = none → ∀ i < j, ∀ l, ls[i]? = some l → l = []
  | 0, _, _, i, hi, _, _ => by omega
  | j + 1, ls, h, i, hi, l, hl => by
    unfold bst at h
    split at h
    · split at h
      · cases h
      · split at h <;> cases h
    · rename_i hx
      rcases Nat.lt_or_ge i j with g | g
      · exact bst_none h i g l hl
      · obtain rfl : i = j := by omega
        cases l with
        | nil => rfl
        | cons p r => exact absurd hl (hx p r)
theorem keyAt_eq {ls : List (List Pp)} {b : Nat} {p : Pp} {r : List Pp} (h : ls[b]? = some (p :: r)) : keyAt ls b = p.1 := by simp [keyAt, h]
/-- The best one's head is the least, and less than those ahead of it. -/
theorem bst_le : ∀ {j : Nat} {ls : List (List Pp)} {b : Nat}, bst ls j = some b → ∀ i < j, ∀ q r, ls[i]? = some (q :: r) → cmp (keyAt ls b) q.1 ≤ 0 ∧ (i < b → cmp (keyAt ls b) q.1 < 0)
  | 0, _, _, h, _, _, _, _, _ => by cases h
  | j + 1, ls, b, h, i, hi, q, r, hq => by
    unfold bst at h
    split at h
    · rename_i p s hj
      split at h
      · rename_i hn
        cases h
        rcases Nat.lt_or_ge i j with g | g
        · have := bst_none hn i g _ hq
          cases this
        · obtain rfl : i = j := by omega
          rw [hj] at hq
          cases hq
          rw [keyAt_eq hj, cmp_self]
          exact ⟨Int.le_refl _, fun g => absurd g (Nat.lt_irrefl _)⟩
      · rename_i b' hb'
        have ih := bst_le hb'
        obtain ⟨hb1, p', r', hb2⟩ := bst_some hb'
        split at h
        · rename_i hc
          cases h
          rw [keyAt_eq hj]
          rcases Nat.lt_or_ge i j with g | g
          · have h1 := (ih i g q r hq).1
            have := lt_tr hc h1
            exact ⟨by omega, fun _ => this⟩
          · obtain rfl : i = j := by omega
            rw [hj] at hq
            cases hq
            rw [cmp_self]
            exact ⟨Int.le_refl _, fun g => absurd g (Nat.lt_irrefl _)⟩
        · rename_i hc
          cases h
          rcases Nat.lt_or_ge i j with g | g
          · exact ih i g q r hq
          · obtain rfl : i = j := by omega
            rw [hj] at hq
            cases hq
            have := cmp_anti q.1 (keyAt ls b)
            exact ⟨by omega, fun g => by omega⟩
    · rename_i hx
      rcases Nat.lt_or_ge i j with g | g
      · exact bst_le h i g q r hq
      · obtain rfl : i = j := by omega
        exact absurd hq (hx q r)
theorem skp_mem {k : Bs} {l : List Pp} {e : Pp} (h : e ∈ skp k l) : e ∈ l := (List.dropWhile_sublist _).subset h
theorem skp_ri {k : Bs} {l : List Pp} (h : RiL l) : RiL (skp k l) := h.sublist (List.dropWhile_sublist _)
theorem skp_gt {k : Bs} : ∀ {l : List Pp}, RiL l → ∀ e ∈ skp k l, cmp k e.1 < 0
  | [], _, e, he => by cases he
  | p :: l, h, e, he => by
    obtain ⟨h1, h2⟩ := List.pairwise_cons.1 h
    unfold skp at he
    rw [List.dropWhile_cons] at he
    split at he
    · exact skp_gt h2 e he
    · rename_i hc
      have hc : ¬ cmp p.1 k ≤ 0 := by simpa using hc
      have hpk : cmp k p.1 < 0 := by have := cmp_anti p.1 k; omega
      rcases List.mem_cons.1 he with rfl | he
      · exact hpk
      · have := h1 e he
        exact lt_tr hpk (by omega)
theorem skp_get {k key : Bs} (hk : cmp k key < 0) : ∀ {l : List Pp}, RiL l → getL (skp k l) key = getL l key
  | [], _ => rfl
  | p :: l, h => by
    obtain ⟨h1, h2⟩ := List.pairwise_cons.1 h
    unfold skp
    rw [List.dropWhile_cons]
    split
    · rename_i hc
      have hc : cmp p.1 k ≤ 0 := by simpa using hc
      have : getL (skp k l) key = getL l key := skp_get hk h2
      unfold skp at this
      rw [this, getL_cons]
      have hne : p.1 ≠ key := by
        rintro rfl
        have := cmp_anti p.1 k
        omega
      rw [if_neg hne]
      cases getL l key <;> rfl
    · rfl
theorem unN_mem : ∀ (n : Nat) (ls : List (List Pp)) (e : Pp), e ∈ unN n ls → ∃ l ∈ ls, e ∈ l
  | 0, _, _, h => by cases h
  | n + 1, ls, e, h => by
    unfold unN at h
    split at h
    · cases h
    · split at h
      · rename_i b _ p r hp
        rcases List.mem_cons.1 h with rfl | h
        · exact ⟨_, List.mem_of_getElem? hp, by simp⟩
        · obtain ⟨l, hl, he⟩ := unN_mem n _ e h
          obtain ⟨l', hl', rfl⟩ := List.mem_map.1 hl
          exact ⟨l', hl', skp_mem he⟩
      · cases h
theorem fst_skp {k key : Bs} (hk : cmp k key < 0) : ∀ {ls : List (List Pp)}, (∀ l ∈ ls, RiL l) → fstL (ls.map (skp k)) key = fstL ls key
  | [], _ => rfl
  | l :: ls, h => by
    simp only [List.map_cons, fstL]
    rw [skp_get hk (h l (by simp)), fst_skp hk fun m hm => h m (List.mem_cons_of_mem _ hm)]
theorem fst_none {key : Bs} : ∀ {ls : List (List Pp)}, (∀ l ∈ ls, ∀ e ∈ l, e.1 ≠ key) → fstL ls key = none
  | [], _ => rfl
  | l :: ls, h => by
    simp only [fstL]
    rw [getL_none (h l (by simp))]
    exact fst_none fun m hm => h m (List.mem_cons_of_mem _ hm)
theorem union_is : ∀ (n : Nat) (ls : List (List Pp)), tot ls ≤ n → (∀ l ∈ ls, RiL l) → RiL (unionL ls) ∧ ∀ key, getL (unionL ls) key = fstL ls key := by
  intro n
  induction n with
  | zero =>
    intro ls hn hr
    have hb : bst ls ls.length = none := by
      rcases hb : bst ls ls.length with _ | b
      · rfl
      · obtain ⟨_, p, r, hp⟩ := bst_some hb
        have := tot_lt hp
        omega
    rw [unionL_none hb]
    refine ⟨List.Pairwise.nil, fun key => ?_⟩
    rw [fst_none]
    · rfl
    · intro l hl e he
      obtain ⟨i, hi⟩ := List.getElem?_of_mem hl
      have := bst_none hb i (List.getElem?_eq_some_iff.1 hi).1 l hi
      subst this
      cases he
  | succ n ih =>
    intro ls hn hr
    rcases hb : bst ls ls.length with _ | b
    · rw [unionL_none hb]
      refine ⟨List.Pairwise.nil, fun key => ?_⟩
      rw [fst_none]
      · rfl
      · intro l hl e he
        obtain ⟨i, hi⟩ := List.getElem?_of_mem hl
        have := bst_none hb i (List.getElem?_eq_some_iff.1 hi).1 l hi
        subst this
        cases he
    · obtain ⟨hbl, p, r, hp⟩ := bst_some hb
      have hlt := tot_lt hp
      rw [unionL_some hb hp]
      have hr' : ∀ l ∈ ls.map (skp p.1), RiL l := by
        intro l hl
        obtain ⟨l', hl', rfl⟩ := List.mem_map.1 hl
        exact skp_ri (hr l' hl')
      obtain ⟨i1, i2⟩ := ih (ls.map (skp p.1)) (by omega) hr'
      have hgt : ∀ e ∈ unionL (ls.map (skp p.1)), cmp p.1 e.1 < 0 := by
        intro e he
        obtain ⟨l, hl, hel⟩ := unN_mem _ _ e he
        obtain ⟨l', hl', rfl⟩ := List.mem_map.1 hl
        exact skp_gt (hr l' hl') e hel
      refine ⟨List.pairwise_cons.2 ⟨hgt, i1⟩, fun key => ?_⟩
      rw [getL_cons, i2]
      have hle := bst_le hb
      rw [keyAt_eq hp] at hle
      -- no head is less than p
      have hmin : ∀ (i : Nat) (l : List Pp), ls[i]? = some l → ∀ e ∈ l, cmp p.1 e.1 ≤ 0 ∧ (i < b → cmp p.1 e.1 < 0) := by
        intro i l hl e he
        have hil := (List.getElem?_eq_some_iff.1 hl).1
        cases l with
        | nil => cases he
        | cons q s =>
          obtain ⟨h1, h2⟩ := hle i hil q s hl
          rcases List.mem_cons.1 he with rfl | he
          · exact ⟨h1, h2⟩
          · have h3 := (List.pairwise_cons.1 (hr _ (List.mem_of_getElem? hl))).1 e he
            have h4 : cmp p.1 e.1 < 0 := by
              rcases Int.lt_or_eq_of_le h1 with g | g
              · exact lt_tr g (by omega)
              · have := (cmp_eq _ _).1 g
                rw [this]
                exact h3
            exact ⟨by omega, fun _ => h4⟩
      by_cases hk : cmp p.1 key < 0
      · rw [fst_skp hk hr, if_neg (by rintro rfl; rw [cmp_self] at hk; omega)]
        cases fstL ls key <;> rfl
      · have hz : fstL (ls.map (skp p.1)) key = none := by
          refine fst_none fun l hl e he => ?_
          obtain ⟨l', hl', rfl⟩ := List.mem_map.1 hl
          have := skp_gt (hr l' hl') e he
          rintro rfl
          exact hk this
        rw [hz]
        simp only
        by_cases e : p.1 = key
        · subst e
          rw [if_pos rfl]
          have hsplit : ls = ls.take b ++ (p :: r) :: ls.drop (b + 1) := by
            rw [← dropG hp, List.take_append_drop]
          rw [hsplit, fstL_app, fst_none]
          · simp only [fstL]
            rw [getL_at (hr _ (List.mem_of_getElem? hp)) (by simp)]
          · intro l hl e he hne
            obtain ⟨i, hi⟩ := List.getElem?_of_mem hl
            have hib : i < b := by
              have := (List.getElem?_eq_some_iff.1 hi).1
              rw [List.length_take] at this
              omega
            rw [List.getElem?_take_of_lt hib] at hi
            have := (hmin i l hi e he).2 hib
            rw [hne, cmp_self] at this
            omega
        · rw [if_neg e, fst_none]
          intro l hl e' he' hne
          obtain ⟨i, hi⟩ := List.getElem?_of_mem hl
          have := (hmin i l hi e' he').1
          rw [hne] at this
          rcases Int.lt_or_eq_of_le this with g | g
          · exact hk g
          · exact e ((cmp_eq _ _).1 g)
theorem union_ri {ls : List (List Pp)} (h : ∀ l ∈ ls, RiL l) : RiL (unionL ls) := (union_is _ ls (Nat.le_refl _) h).1
theorem union_get {ls : List (List Pp)} (h : ∀ l ∈ ls, RiL l) (key : Bs) : getL (unionL ls) key = fstL ls key := (union_is _ ls (Nat.le_refl _) h).2 key
/-- Whatever was put together first. -/
theorem union_two {a b : List (List Pp)} (ha : ∀ l ∈ a, RiL l) (hb : ∀ l ∈ b, RiL l) : unionL [unionL a, unionL b] = unionL (a ++ b) := by
  have hab : ∀ l ∈ a ++ b, RiL l := fun l hl => (List.mem_append.1 hl).elim (ha l) (hb l)
  have h2 : ∀ l ∈ [unionL a, unionL b], RiL l := by
    intro l hl
    simp only [List.mem_cons, List.not_mem_nil, or_false] at hl
    rcases hl with rfl | rfl
    · exact union_ri ha
    · exact union_ri hb
  refine (union_ri h2).uniq (union_ri hab) fun k => ?_
  rw [union_get h2, union_get hab, fstL_app]
  simp only [fstL, union_get ha, union_get hb]
  cases fstL a k with
  | some v => rfl
  | none => cases fstL b k <;> rfl
end Go.Sx
namespace Go.Sx
open Go Go.Proofs
set_option maxRecDepth 10000
variable {w0 : World} {H : List Ck}
theorem st_app {A B H : List Ck} : Ent (.star (A ++ B) :: H) (A ++ .star B :: H) := Ent.open (by rw [List.append_assoc]; exact Ent.appL (Ent.star Ent.refl))
theorem st_app' {A B H : List Ck} : Ent (A ++ .star B :: H) (.star (A ++ B) :: H) := Ent.star (by rw [List.append_assoc]; exact Ent.appL (Ent.open Ent.refl))
theorem st_one {B : List Ck} : Ent [.star B] B := Ent.open (by rw [List.append_nil]; exact Ent.refl)
theorem st_one' {B : List Ck} : Ent B [.star B] := Ent.star (by rw [List.append_nil]; exact Ent.refl)
theorem st_sw {A B H : List Ck} : Ent (.star A :: .star B :: H) (.star B :: .star A :: H) := Ent.perm (.swap _ _ _)
theorem FnS.post {P : Program} {H : List Ck} {k : FuncId} {args : Array Value} {R R' : Value → List Ck → Prop} (h : FnS P w0 H k args R) (hm : ∀ v K, R v K → ∃ K', R' v K' ∧ Ent K K') : FnS P w0 H k args R' := fun w hs => by
  refine Calls.mono (h w hs) ?_
  rintro e w' ⟨v, rfl, K, h1, h2⟩
  obtain ⟨K', h3, h4⟩ := hm v K h1
  exact ⟨v, rfl, K', h3, h2.ent h4⟩
theorem stars_append' {β : Type} {f : β → List Ck} {F G : List β} {H : List Ck} : Ent (stars f F :: stars f G :: H) (stars f (F ++ G) :: H) := by
  unfold stars
  rw [List.flatMap_append]
  exact Ent.open st_app'
abbrev yv (ll : Nat) : Value := .func (.yield ll) #[] #[]
/-- What is handed to yield: whose bytes it is in, told; what is then known of the consumer. -/
def TellS (P : Program) (w0 : World) (o : Bool) (g0 : Ck) (gm : Nat → Ck) (g1 g2 : Ck) (k : Nat) (cap : List Value) (L : List (Bs × Bs)) : Prop :=
  ∀ (ll : Nat) (φ : Nat → List Ck → Prop) (fin : List Ck → Prop),
    (∀ (i : Nat) (x : KV) (u : Nat) (K T E : List Ck), L[i]? = some x.p → φ i K → (o = true → T = oKVs x) → REe w0 (.star T :: E) x →
      YldS P w0 (.star T :: .star K :: gm u :: E) ll #[.slice x.ka x.k.length x.kc, .slice x.va x.v.length x.vc] (fun v K' => ∃ K2, (v = .bool true ∧ φ (i + 1) K2 ∨ v = .bool false ∧ fin K2) ∧ K' = .star K2 :: gm u :: E)) →
    ∀ K, φ 0 K → FnS P w0 [g0, .star K] k (yv ll :: cap).toArray (fun v K' => v = .tuple #[] ∧ ∃ K2, φ L.length K2 ∧ K' = [g1, .star K2] ∨ fin K2 ∧ K' = [g2, .star K2])
/-- A value that tells so. -/
def TvF (P : Program) (w0 : World) (o : Bool) (g0 : Ck) (gm : Nat → Ck) (g1 g2 : Ck) (v : Value) (L : List (Bs × Bs)) : Prop := ∃ k cap, v = .func (.func k) #[] (List.toArray cap) ∧ FnT P k ∧ TellS P w0 o g0 gm g1 g2 k cap L
/-- Such a value, or nil. -/
def TvS (P : Program) (w0 : World) (o : Bool) (g0 : Ck) (gm : Nat → Ck) (g1 g2 : Ck) (v : Value) (L : List (Bs × Bs)) : Prop := v = .nilFunc ∧ L = [] ∧ g1 = g0 ∨ TvF P w0 o g0 gm g1 g2 v L
theorem copied_s {a : Option Addr} {c : Nat} {xs : Bs} (ha : RBy w0 H a c xs) (hx : xs.length ≤ 140737488355328) : FnS Tryz.prog w0 H 39 #[.slice a xs.length c] (fun v H' => ∃ a', v = .slice a' xs.length xs.length ∧ H' = ob a' xs.length xs :: H) := by
  refine fns_enter Tryz.func39 rfl rfl rfl ?_
  refine sx ?_
  refine s_call rfl (bclone_s ha hx) ?_
  rintro _ _ ⟨a1, c1, rfl, rfl⟩
  refine ⟨chk_seq, ?_⟩
  refine s_call rfl clip_s ?_
  rintro _ _ ⟨rfl, rfl⟩
  refine ⟨chk_seq, ?_⟩
  refine sx ?_
  exact s_ret1 rfl rfl ⟨a1, rfl, rfl⟩
theorem tell_none {o : Bool} {g g2 : Ck} {gm : Nat → Ck} : TellS Tryz.prog w0 o g gm g g2 70 [] [] := by
  intro ll φ fin _ K h
  refine fns_enter Tryz.func70 rfl rfl rfl ?_
  refine sx ?_
  exact s_end0 rfl ⟨rfl, K, .inl ⟨h, rfl⟩⟩
theorem of_s {o : Bool} {g0 g1 g2 : Ck} {gm : Nat → Ck} {v : Value} {L : List (Bs × Bs)} (h : TvS Tryz.prog w0 o g0 gm g1 g2 v L) : FnS Tryz.prog w0 H 37 #[v] (fun v' H' => TvF Tryz.prog w0 o g0 gm g1 g2 v' L ∧ H' = H) := by
  refine fns_enter Tryz.func37 rfl rfl rfl ?_
  refine sx ?_
  rcases h with ⟨rfl, rfl, rfl⟩ | ⟨k, cap, rfl, hk, ht⟩
  · refine sx ?_
    exact s_ret1 rfl rfl ⟨⟨70, [], rfl, inferInstance, tell_none⟩, rfl⟩
  · refine sx ?_
    exact s_ret1 rfl rfl ⟨⟨k, cap, rfl, hk, ht⟩, rfl⟩
end Go.Sx
namespace Go.Sx
open Go Go.Proofs
set_option maxRecDepth 10000
variable {w0 : World} {H : List Ck}
@[reducible] def ofL (b : Nat) (a : Option Addr) (c : Nat) (out : List KV) : List Ck := [.hb b 22 [.slice a out.length c], ol 51 a c out, stars oKVs out]
@[reducible] def ofG (b : Nat) (a : Option Addr) (c : Nat) (out : List KV) : Ck := .star (ofL b a c out)
/-- Small bytes. -/
def SmL (L : List (Bs × Bs)) : Prop := ∀ p ∈ L, p.1.length ≤ 140737488355328 ∧ p.2.length ≤ 140737488355328
theorem SmL.kv {out : List KV} {L : List (Bs × Bs)} (h : SmL L) (ho : out.map KV.p = L) {x : KV} (hx : x ∈ out) : x.k.length ≤ 140737488355328 ∧ x.v.length ≤ 140737488355328 := by
  subst ho
  exact h x.p (List.mem_map_of_mem hx)
theorem ent_oKVs {x : KV} {H R1 R2 H' : List Ck} (h1 : Rm (ob x.ka x.kc x.k) H R1) (h2 : Rm (ob x.va x.vc x.v) R1 R2) (h : Ent R2 H') : Ent H (.star (oKVs x) :: H') :=
  Ent.star (L := oKVs x) (Ent.cons h1 (Ent.cons h2 h))
theorem REe.of {x : KV} : REe w0 (.star (oKVs x) :: H) x := REe.ent (H' := oKVs x ++ H) ⟨RBy.hd, RBy.hd.tl⟩ (Ent.open Ent.refl)
structure OfI where
  i : Nat
  K : List Ck
set_option maxHeartbeats 4000000 in
theorem of_tell {b c : Nat} {a : Option Addr} {out : List KV} (hsm : SmL (out.map KV.p)) : TellS Tryz.prog w0 true (ofG b a c out) (fun _ => ofG b a c out) (ofG b a c out) (ofG b a c out) 43 [.pointer (some ⟨b, 0, none⟩)] (out.map KV.p) := by
  intro ll φ fin hy K h0
  refine FnS.ent (H' := ofL b a c out ++ [.star K]) ?_ (Ent.open Ent.refl)
  refine fns_enter Tryz.func43 rfl rfl rfl ?_
  refine s_kn (Kn.sl (xs := out) (RSl.hd.tl)) fun ⟨l1, l2⟩ => ?_
  simp only [maxLen] at l2
  refine sx ?_
  refine s_loop (fun q : OfI => [(0, yv ll), (5, .slice a out.length c), (6, .int .i64 out.length), (7, .int .i64 q.i)]) (fun q => .star q.K :: ofL b a c out) (fun q => q.i ≤ out.length ∧ φ q.i q.K) (fun q => out.length - q.i) ⟨0, K⟩ ⟨Nat.zero_le _, h0⟩ ?_
  rintro ⟨i, K1⟩ ⟨h1, h2⟩
  simp only at h1 h2 ⊢
  refine sx ?_
  refine s_if rfl (fun t1 => ?_) (fun t1 => ?_)
  · obtain ⟨e, he⟩ := get_lt out i (by omega)
    have hst : REe w0 (stars oKVs out :: []) e := REe.st (List.mem_of_getElem? he)
    obtain ⟨y1, y2⟩ := hsm.kv rfl (List.mem_of_getElem? he)
    refine sx ?_
    refine s_alloc fun b7 => ?_
    refine sx ?_
    have hk : RBy w0 (.hb b7 51 (Cel.f e) :: .star K1 :: ofL b a c out) e.ka e.kc e.k := hst.k.tl.tl.tl.tl
    have hv : RBy w0 (.hb b7 51 (Cel.f e) :: .star K1 :: ofL b a c out) e.va e.vc e.v := hst.v.tl.tl.tl.tl
    refine sx ?_; refine s_drR (.star K1) (by exact rm) (.one true 0 (.one true 1 (.one true 2 (.one true 4 (.one true 5 (.one false 3 (.one false 6 (.one false 7 (.one true 8 .nil))))))))) mixed (by kernel_rfl) ?_; refine sx ?_
    refine s_call rfl (copied_s (xs := e.k) (by exact rby) y1) ?_
    rintro _ _ ⟨ka, rfl, rfl⟩
    refine ⟨chk_held (by exact ent), ?_⟩
    refine sx ?_
    refine s_call rfl (copied_s (xs := e.v) (by exact rby) y2) ?_
    rintro _ _ ⟨va, rfl, rfl⟩
    refine ⟨chk_held (by exact ent), ?_⟩
    refine sx ?_
    refine s_yld rfl rfl ((hy i ⟨ka, e.k.length, e.k, va, e.v.length, e.v⟩ 0 K1 _ [.hb b7 51 (Cel.f e)] (get_map (f := KV.p) (x := e) he) h2 (fun _ => rfl) REe.of).ent ?_) ?_
    · refine ent_oKVs (by exact rm) (by exact rm) ?_
      refine Ent.cons (by exact rm) ?_
      exact Ent.star (L := ofL b a c out) (by exact ent)
    rintro _ _ ⟨K2, hK2, rfl⟩
    have hop : Ent (.star K2 :: ofG b a c out :: [.hb b7 51 (Cel.f e)]) (.star K2 :: .hb b7 51 (Cel.f e) :: ofL b a c out) := Ent.head (Ent.open (by exact ent))
    refine ⟨chk_held (hop.trans (by exact ent)), ?_⟩
    refine s_entL _ hop ?_
    rcases hK2 with ⟨rfl, hK2⟩ | ⟨rfl, hK2⟩
    · refine sx ?_
      exact s_again ⟨i + 1, K2⟩ ⟨by simp only; omega, hK2⟩ (by simp only; omega)
    · refine sx ?_
      exact s_ret0 rfl ⟨rfl, K2, .inr ⟨hK2, rfl⟩⟩ (Ent.star (L := ofL b a c out) (by exact ent))
  obtain rfl : i = out.length := by omega
  refine sx ?_
  exact s_end0 rfl ⟨rfl, K1, .inl ⟨by simpa using h2, rfl⟩⟩ (Ent.star (L := ofL b a c out) (by exact ent))
structure OfJ where
  i : Nat
  a : Option Addr
  c : Nat
  os : List KV
set_option maxHeartbeats 4000000 in
theorem Of_s {a : Option Addr} {c : Nat} {es : List KV} (hx : RSl w0 H a c es) (hr : ∀ e ∈ es, REe w0 H e) (hl : es.length ≤ 549755813888) (hsm : SmL (es.map KV.p)) :
    FnS Tryz.prog w0 H 19 #[.slice a es.length c] (fun v H' => ∃ b a' c' out, v = .func (.func 43) #[] #[.pointer (some ⟨b, 0, none⟩)] ∧ (out : List KV).map KV.p = es.map KV.p ∧ H' = ofG b a' c' out :: H) := by
  refine fns_enter Tryz.func19 rfl rfl rfl ?_
  refine sx ?_
  refine s_alloc fun b3 => ?_
  refine sx ?_
  refine s_loop (fun q : OfJ => [(3, .pointer (some ⟨b3, 0, none⟩)), (6, .slice a es.length c), (7, .int .i64 es.length), (8, .int .i64 q.i)]) (fun q => .hb b3 22 [.slice q.a q.os.length q.c] :: ol 51 q.a q.c q.os :: stars oKVs q.os :: H) (fun q => q.i ≤ es.length ∧ q.os.map KV.p = (es.map KV.p).take q.i) (fun q => es.length - q.i) ⟨0, none, 0, []⟩ ⟨Nat.zero_le _, by simp⟩ ?_ (he := Ent.head (Ent.nilS.trans (Ent.head stars_nil)))
  rintro ⟨i, oa, oc, os⟩ ⟨h1, h2⟩
  simp only at h1 h2 ⊢
  have hol : os.length = i := by
    have := congrArg List.length h2
    simp only [List.length_map, List.length_take] at this
    omega
  refine sx ?_
  refine s_if rfl (fun t1 => ?_) (fun t1 => ?_)
  · obtain ⟨e, he⟩ := get_lt es i (by omega)
    have her := hr e (List.mem_of_getElem? he)
    obtain ⟨y1, y2⟩ := hsm.kv rfl (List.mem_of_getElem? he)
    have hk := her.k
    have hv := her.v
    refine sx ?_
    refine s_alloc fun b5 => ?_
    refine sx ?_
    refine s_drU (.hb b5 51 (Cel.f e) :: .hb b3 22 [.slice oa os.length oc] :: H) (.one true 0 (.one true 1 (.one true 2 (.one true 4 (.one true 5 (.one false 3 (.one false 6 (.one true 7 (.one false 8 (.one false 9 .nil)))))))))) (.one false 10 .nil) [10] #[true, true, true, true, true, true, true, true, true, true, false] mixed (by kernel_rfl) ?_
    refine sx ?_
    refine s_call rfl (copied_s (xs := e.k) (by exact rby) y1) ?_
    rintro _ _ ⟨ka, rfl, rfl⟩
    refine ⟨chk_held (by exact ent), ?_⟩
    refine sx ?_
    refine s_call rfl (copied_s (xs := e.v) (by exact rby) y2) ?_
    rintro _ _ ⟨va, rfl, rfl⟩
    refine ⟨chk_held (by exact ent), ?_⟩
    refine sx ?_
    refine s_bsl [(⟨ka, e.k.length, e.k, va, e.v.length, e.v⟩ : KV)] rfl rfl fun b42 => ?_
    refine s_app (xs := os) (ys := [(⟨ka, e.k.length, e.k, va, e.v.length, e.v⟩ : KV)]) ?_ (hby := by simp only [List.length_cons, List.length_nil]; omega)
    intro a4 c4
    refine sx ?_
    refine s_bar ?_
    refine sx ?_
    refine s_again ⟨i + 1, a4, c4, os ++ [⟨ka, e.k.length, e.k, va, e.v.length, e.v⟩]⟩ ⟨by simp only; omega, ?_⟩ (by simp only; omega) (he := ?_)
    · simp only [List.map_append]
      rw [h2, snocT (get_map (f := KV.p) he)]
      rfl
    · refine Ent.cons (by exact rm) (Ent.cons (by exact rm) ?_)
      exact Ent.trans (H' := ob ka e.k.length e.k :: ob va e.v.length e.v :: stars oKVs os :: H) (by exact ent) (stars_snoc (f := oKVs) (s := ⟨ka, e.k.length, e.k, va, e.v.length, e.v⟩))
  obtain rfl : i = es.length := by omega
  rw [List.take_of_length_le (by simp)] at h2
  refine sx ?_
  exact s_ret1 rfl rfl ⟨b3, oa, oc, os, rfl, h2, rfl⟩ (Ent.star (L := ofL b3 oa oc os) (by exact ent))
end Go.Sx
