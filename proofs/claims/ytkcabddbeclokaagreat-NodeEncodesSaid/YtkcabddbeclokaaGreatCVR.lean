/- What is taken out of a node and what is left, in plain words: both may be; weights; what is taken lies within its child's range. -/
import Derived.Test.YtkcabddbeclokaaGreatCVN
import Derived.Test.YtkcabddbeclokaaGreatCVI
import Derived.Test.YtkcabddbeclokaaGreatCQAj
namespace Go.Sx
open Go
/-! ### Weights -/
def wtL (k : Nat) (ks : List Bs) (l : List MD) : List Int := (List.range k).map fun c => ((sumM (l.filter fun m => decide (chl ks m.lo = c)) : Nat) : Int)
theorem wtL_len (k : Nat) (ks : List Bs) (l : List MD) : (wtL k ks l).length = k := by simp [wtL]
theorem wtL_get {k : Nat} {ks : List Bs} {l : List MD} {c : Nat} (h : c < k) : (wtL k ks l)[c]? = some ((sumM (l.filter fun m => decide (chl ks m.lo = c)) : Nat) : Int) := by
  simp [wtL, h]
theorem wtL_nil (k : Nat) (ks : List Bs) : wtL k ks [] = List.replicate k 0 := by
  rw [wtL]
  refine List.ext_getElem? fun i => ?_
  simp only [List.getElem?_map, List.getElem?_replicate, List.filter_nil]
  split
  · rename_i h
    rw [List.getElem?_range h]
    rfl
  · rename_i h
    rw [List.getElem?_eq_none (by simp; omega)]
    rfl
theorem wtL_snoc {k : Nat} {ks : List Bs} {l : List MD} {m : MD} {w : Int} (hw : (wtL k ks l)[chl ks m.lo]? = some w) : wtL k ks (l ++ [m]) = (wtL k ks l).set (chl ks m.lo) (w + lenM m) := by
  have hk : chl ks m.lo < k := by
    have := (List.getElem?_eq_some_iff.1 hw).1
    rwa [wtL_len] at this
  rw [wtL_get hk] at hw
  injection hw with hw
  refine List.ext_getElem? fun i => ?_
  rw [List.getElem?_set, wtL_len]
  by_cases hi : i < k
  · rw [wtL_get hi]
    by_cases e : chl ks m.lo = i
    · rw [if_pos e, if_pos hk, ← hw, ← e, List.filter_append]
      simp only [List.filter_cons, decide_true, if_true, List.filter_nil, sumM_snoc]
      congr 1
    · rw [if_neg e, wtL_get hi, List.filter_append]
      simp [e]
  · rw [List.getElem?_eq_none (by rw [wtL_len]; omega)]
    split
    · rename_i e
      omega
    · rw [List.getElem?_eq_none (by rw [wtL_len]; omega)]
theorem wtL_over {k : Nat} {ks : List Bs} {l : List MD} {m : MD} (h : ¬ chl ks m.lo < k) : wtL k ks (l ++ [m]) = wtL k ks l := by
  refine List.ext_getElem? fun i => ?_
  by_cases hi : i < k
  · rw [wtL_get hi, wtL_get hi, List.filter_append]
    have : ¬ chl ks m.lo = i := by omega
    simp [this]
  · rw [List.getElem?_eq_none (by rw [wtL_len]; omega), List.getElem?_eq_none (by rw [wtL_len]; omega)]
theorem sum_set : ∀ (l : List Int) (i : Nat) (w v : Int), l[i]? = some w → (l.set i (w + v)).sum = l.sum + v
  | [], i, w, v, h => by simp at h
  | x :: l, 0, w, v, h => by simp at h; subst h; simp; omega
  | x :: l, i + 1, w, v, h => by
    have := sum_set l i w v (by simpa using h)
    simp only [List.set_cons_succ, List.sum_cons]
    omega
theorem wtL_sum {k : Nat} {ks : List Bs} (hk : ks.length < k) : ∀ (l : List MD), (wtL k ks l).sum = (sumM l : Nat) := by
  intro l
  have key : ∀ (n : Nat) (l : List MD), l.length = n → (wtL k ks l).sum = (sumM l : Nat) := by
    intro n
    induction n with
    | zero =>
      intro l hl
      rw [List.eq_nil_of_length_eq_zero hl, wtL_nil]
      simp [sumM]
    | succ n ih =>
      intro l hl
      obtain ⟨r, m, rfl⟩ : ∃ r m, l = r ++ [m] := ⟨l.dropLast, l.getLast (by intro e; rw [e] at hl; cases hl), (List.dropLast_concat_getLast _).symm⟩
      have h1 := ih r (by simpa using hl)
      have h2 := chl_le ks m.lo
      rw [wtL_snoc (wtL_get (l := r) (by omega : chl ks m.lo < k)), sum_set _ _ _ _ (wtL_get (by omega)), h1, sumM_snoc]
      omega
  exact key _ l rfl
theorem forM_eq {ks : List Bs} {i : Nat} {l : List MD} : forM ks (i : Int) l = l.filter fun m => decide (chl ks m.lo = i) := by
  unfold forM
  congr 1
  funext m
  exact decide_eq_decide.2 (by omega)
theorem othM_eq {ks : List Bs} {i : Nat} {l : List MD} : othM ks (i : Int) l = l.filter fun m => !decide (chl ks m.lo = i) := by
  unfold othM
  congr 1
  funext m
  congr 1
  exact decide_eq_decide.2 (by omega)
theorem sumM_pos {l : List MD} : sumM l = 0 ↔ l.length = 0 := by
  have := sumM_len l
  constructor
  · intro h; omega
  · intro h
    rw [List.eq_nil_of_length_eq_zero h]
    rfl
/-! ### What is taken may be -/
theorem chkM_one {size : Int} {m : MD} (h : chkM size [m] = 0) : sizedB size = true ∧ mayM size m = true ∧ ¬ (m.st ≤ 0 ∨ 4611686018427387904 < m.st) := by
  unfold chkM at h
  cases hs : sizedB size
  · rw [hs] at h; cases h
  rw [hs, if_pos rfl, chkG] at h
  split at h
  · cases h
  · rename_i h1
    split at h
    · cases h
    · rename_i h2
      exact ⟨rfl, by simpa using h1, h2⟩
theorem chkM_two {size : Int} {a m : MD} (h : chkM size [a, m] = 0) : ¬ m.st ≤ a.st := by
  unfold chkM at h
  split at h
  · rw [chkG] at h
    split at h
    · cases h
    · split at h
      · cases h
      · rw [chkG] at h
        split at h
        · cases h
        · split at h
          · cases h
          · rename_i h2
            exact fun g => h2 (.inl g)
  · cases h
theorem for_may {size : Int} {ks : List Bs} {i : Nat} : ∀ {l : List MD} {p : Option MD} {last : Int}, mayG size ks p l = 0 → ((∃ a, p = some a ∧ chl ks a.lo = i ∧ last = a.st) ∨ (last = 0 ∧ ∀ a, p = some a → chl ks a.lo ≠ i)) → chkG size last (l.filter fun m => decide (chl ks m.lo = i)) = 0
  | [], _, _, _, _ => rfl
  | m :: r, p, last, h, hp => by
    have hasc := (mayG_asc h).1
    have hasc2 := (mayG_asc h).2
    obtain ⟨h1, h2⟩ := mayG_0.1 h
    obtain ⟨g1, g2, g3⟩ := oneN_0.1 h1
    obtain ⟨q1, q2, q3⟩ := chkM_one g1
    by_cases hm : chl ks m.lo = i
    · rw [List.filter_cons, if_pos (by simpa using hm), chkG, if_neg (by rw [q2]; decide)]
      have hlast : ¬ (m.st ≤ last ∨ 4611686018427387904 < m.st) := by
        rcases hp with ⟨a, rfl, ha, rfl⟩ | ⟨rfl, _⟩
        · have hb := g3 a rfl
          unfold behN at hb
          simp only [Bool.or_eq_true, Bool.and_eq_true, decide_eq_true_eq] at hb
          rcases hb with hb | hb
          · omega
          · have := chkM_two hb.2
            omega
        · exact q3
      rw [if_neg hlast]
      exact for_may h2 (.inl ⟨m, rfl, hm, rfl⟩)
    · rw [List.filter_cons, if_neg (by simpa using hm)]
      rcases hp with ⟨a, rfl, ha, rfl⟩ | ⟨rfl, hp⟩
      · have h3 := hasc a rfl m (by simp)
        have : ∀ x ∈ r, ¬ chl ks x.lo = i := fun x hx => by
          have := (List.pairwise_cons.1 hasc2).1 x hx
          omega
        rw [List.filter_eq_nil_iff.2 (fun x hx => by simpa using this x hx)]
        rfl
      · exact for_may h2 (.inr ⟨rfl, fun a ha => by cases ha; exact hm⟩)
theorem oth_may {size : Int} {ks : List Bs} {i : Nat} : ∀ {l : List MD} {p p' : Option MD}, mayG size ks p l = 0 → (p' = none ∨ (p' = p ∧ ∀ a, p = some a → chl ks a.lo ≠ i) ∨ ∃ a b, p' = some a ∧ p = some b ∧ chl ks a.lo < chl ks b.lo) → mayG size ks p' (l.filter fun m => !decide (chl ks m.lo = i)) = 0
  | [], _, _, _, _ => rfl
  | m :: r, p, p', h, hp => by
    have hasc := (mayG_asc h).1
    obtain ⟨h1, h2⟩ := mayG_0.1 h
    obtain ⟨g1, g2, g3⟩ := oneN_0.1 h1
    by_cases hm : chl ks m.lo = i
    · rw [List.filter_cons, if_neg (by simp [hm])]
      refine oth_may h2 ?_
      rcases hp with rfl | ⟨rfl, hp⟩ | ⟨a, b, rfl, rfl, hab⟩
      · exact .inl rfl
      · cases p' with
        | none => exact .inl rfl
        | some a =>
          have h3 := hasc a rfl m (by simp)
          have h4 := hp a rfl
          exact .inr (.inr ⟨a, m, rfl, rfl, by omega⟩)
      · have h3 := hasc b rfl m (by simp)
        exact .inr (.inr ⟨a, m, rfl, rfl, by omega⟩)
    · rw [List.filter_cons, if_pos (by simp [hm])]
      refine mayG_0.2 ⟨oneN_0.2 ⟨g1, g2, fun a ha => ?_⟩, oth_may h2 (.inr (.inl ⟨rfl, fun a ha => by cases ha; exact hm⟩))⟩
      rcases hp with rfl | ⟨rfl, hp⟩ | ⟨a', b, rfl, rfl, hab⟩
      · cases ha
      · exact g3 a ha
      · cases ha
        have h3 := hasc b rfl m (by simp)
        unfold behN
        rw [decide_eq_true (show chl ks a.lo < chl ks m.lo by omega)]
        rfl
theorem sumM_filter (l : List MD) (p : MD → Bool) : sumM (l.filter p) ≤ sumM l := by
  induction l with
  | nil => exact Nat.le_refl _
  | cons m l ih =>
    rw [List.filter_cons]
    split
    · simp only [sumM, List.map_cons, List.sum_cons] at *; omega
    · simp only [sumM, List.map_cons, List.sum_cons] at *; omega
theorem left_may {size : Int} {d : List Int × List Bs} {ms : List MD} {i : Nat} (h : chkN size d ms = 0) : chkN size d (ms.filter fun m => !decide (chl d.2 m.lo = i)) = 0 := by
  obtain ⟨g1, g2, g3, g4⟩ := chkN_0 h
  have h1 := sumM_filter ms (fun m => !decide (chl d.2 m.lo = i))
  have a2 : bytesM ms = 4 + sumM ms := rfl
  have a3 : bytesM (ms.filter fun m => !decide (chl d.2 m.lo = i)) = 4 + sumM (ms.filter fun m => !decide (chl d.2 m.lo = i)) := rfl
  exact chkN_mk g1 g2 (oth_may g3 (.inl rfl)) (by omega)
theorem taken_may {size : Int} {d : List Int × List Bs} {ms : List MD} {i : Nat} (h : chkN size d ms = 0) : chkM size (ms.filter fun m => decide (chl d.2 m.lo = i)) = 0 := by
  obtain ⟨g1, g2, g3, g4⟩ := chkN_0 h
  rw [chkM, if_pos (chkK_0 g1).1]
  exact for_may g3 (.inr ⟨rfl, fun a ha => by cases ha⟩)
/-! ### Within its child's range -/
theorem lt_tr {x y z : Bs} (h1 : cmp x y < 0) (h2 : cmp y z ≤ 0) : cmp x z < 0 := (cmp_lt_trans x y z (by omega) h2).2 (.inl h1)
theorem tr_lt {x y z : Bs} (h1 : cmp x y ≤ 0) (h2 : cmp y z < 0) : cmp x z < 0 := (cmp_lt_trans x y z h1 (by omega)).2 (.inr h2)
theorem cmp_nil : ∀ (x : Bs), cmp [] x ≤ 0
  | [] => by decide
  | _ :: _ => by simp [cmp]
theorem cmp_nil_lt {x : Bs} (h : 1 ≤ x.length) : cmp [] x < 0 := by
  cases x with
  | nil => simp at h
  | cons a r => simp [cmp]
/-- The range of a child. -/
theorem sp_all {d : List Int × List Bs} {i : Nat} (hy : ∀ x ∈ d.2, 1 ≤ x.length) (hR : risK d.2 = true) (hi : i ≤ d.2.length) : spR d ([], [], true) i = (if 0 < i then d.2.getD (i - 1) [] else [], if i < d.2.length then d.2.getD i [] else [], !decide (i < d.2.length)) := by
  obtain ⟨ps, ks⟩ := d
  simp only at hy hR hi ⊢
  unfold spR
  simp only
  have hlo : ∀ l : Bs, (if 0 < cmp l [] then l else ([] : Bs)) = l := fun l => by
    split
    · rfl
    · rename_i g
      have h1 := cmp_anti l []
      have h2 := cmp_nil l
      exact ((cmp_eq l []).1 (by omega)).symm
  by_cases h : i < ks.length
  · have hne : ¬ cmp (ks.getD i []) (if 0 < i then ks.getD (i - 1) [] else []) ≤ 0 := by
      have hg : ks[i]? = some (ks.getD i []) := by simp [h]
      split
      · rename_i h0
        have hg1 : ks[i - 1]? = some (ks.getD (i - 1) []) := by simp [show i - 1 < ks.length by omega]
        have h1 := risK_iff.1 hR (i - 1) _ _ hg1 (by rw [show i - 1 + 1 = i by omega]; exact hg)
        have h2 := cmp_anti (ks.getD (i - 1) []) (ks.getD i [])
        omega
      · have h1 := cmp_nil_lt (hy _ (List.mem_of_getElem? hg))
        have h2 := cmp_anti [] (ks.getD i [])
        omega
    simp only [meR, emR, beR, h, decide_true, Bool.not_true, Bool.not_false, Bool.false_and, Bool.true_and, Bool.false_or, Bool.true_or, if_true, hne, decide_false, Bool.false_eq_true, if_false, hlo, foR]
  · simp only [meR, emR, beR, h, decide_false, Bool.not_false, Bool.not_true, Bool.false_and, Bool.or_false, Bool.false_eq_true, if_false, hlo, foR, if_true]
theorem me_in {lo hi l h : Bs} {al : Bool} (h1 : cmp lo hi < 0) (h2 : cmp l lo ≤ 0) (h3 : al = true ∨ cmp hi h ≤ 0) : meR (lo, hi, false) (l, h, al) = (lo, hi, false) := by
  have a1 := cmp_anti lo hi
  have a2 := cmp_anti hi h
  have e1 : emR (lo, hi, false) = false := by simp only [emR, Bool.not_false, Bool.true_and]; exact decide_eq_false (by omega)
  have e2 : emR (l, h, al) = false := by
    rcases h3 with rfl | h3
    · rfl
    · have := lt_tr (tr_lt h2 h1) h3
      have a3 := cmp_anti l h
      cases al
      · simp only [emR, Bool.not_false, Bool.true_and]; exact decide_eq_false (by omega)
      · rfl
  have e3 : beR (l, h, al) (lo, hi, false) = false := by
    rcases h3 with rfl | h3
    · rfl
    · cases al
      · simp only [beR, Bool.not_false, Bool.true_and, Bool.false_or]; exact decide_eq_false (by omega)
      · rfl
  unfold meR
  rw [e1, e2]
  simp only [Bool.or_self, Bool.false_eq_true, if_false, e3]
  rw [if_neg (by omega : ¬ 0 < cmp l lo)]
  unfold foR
  rw [e1]
  simp
theorem within_all {size : Int} {d : List Int × List Bs} {ms : List MD} {i : Nat} (h : chkN size d ms = 0) (hi : i < d.1.length) : withinL (spR d ([], [], true) i) (ms.filter fun m => decide (chl d.2 m.lo = i)) = ms.filter fun m => decide (chl d.2 m.lo = i) := by
  obtain ⟨g1, g2, g3, g4⟩ := chkN_0 h
  obtain ⟨hs, ⟨hf, _, hn, hp⟩, hy, hR, hB⟩ := chkK_0 g1
  rw [sp_all (fun x hx => (hy x hx).1) hR (by omega)]
  have hall : ∀ {l : List MD} {p : Option MD}, mayG size d.2 p l = 0 → ∀ m ∈ l, chkM size [m] = 0 ∧ withN d.2 m = true := by
    intro l
    induction l with
    | nil => intro p _ m hm; cases hm
    | cons a r ih =>
      intro p h m hm
      obtain ⟨h1, h2⟩ := mayG_0.1 h
      obtain ⟨q1, q2, q3⟩ := oneN_0.1 h1
      rcases List.mem_cons.1 hm with rfl | hm
      · exact ⟨q1, q2⟩
      · exact ih h2 m hm
  have key : ∀ m ∈ ms.filter (fun m => decide (chl d.2 m.lo = i)), wthM (if 0 < i then d.2.getD (i - 1) [] else [], if i < d.2.length then d.2.getD i [] else [], !decide (i < d.2.length)) m = some m := by
    intro m hm
    obtain ⟨hm1, hm2⟩ := List.mem_filter.1 hm
    have hm2 : chl d.2 m.lo = i := by simpa using hm2
    obtain ⟨q1, q2⟩ := hall g3 m hm1
    obtain ⟨_, q3, _⟩ := chkM_one q1
    have hl : cmp (if 0 < i then d.2.getD (i - 1) [] else []) m.lo ≤ 0 := by
      split
      · rename_i h0
        have h1 : i - 1 < d.2.findIdx (fun x => decide (0 < cmp x m.lo)) := by
          show i - 1 < chl d.2 m.lo
          omega
        have h2 := List.not_of_lt_findIdx h1
        have h3 : d.2.getD (i - 1) [] = d.2[i - 1]'(by omega) := by simp [List.getD_eq_getElem?_getD, show i - 1 < d.2.length by omega]
        rw [h3]
        simp only [decide_eq_false_iff_not] at h2
        omega
      · exact cmp_nil _
    have hlt : i < d.2.length → cmp m.lo (d.2.getD i []) < 0 := fun g => by
      have h2 : d.2.findIdx (fun x => decide (0 < cmp x m.lo)) < d.2.length := by
        show chl d.2 m.lo < _
        omega
      have h3 := List.findIdx_getElem (w := h2)
      have h4 : d.2.getD i [] = d.2[d.2.findIdx (fun x => decide (0 < cmp x m.lo))] := by
        have : d.2.findIdx (fun x => decide (0 < cmp x m.lo)) = i := hm2
        simp [List.getD_eq_getElem?_getD, this, g]
      rw [h4]
      have h5 := cmp_anti m.lo (d.2[d.2.findIdx (fun x => decide (0 < cmp x m.lo))])
      simp only [decide_eq_true_eq] at h3
      omega
    have hkd : m.kd = 1 ∨ m.kd = 2 ∨ (m.kd = 3 ∧ cmp m.lo m.hi < 0) := by
      unfold mayM at q3
      split at q3
      · exact .inl (by assumption)
      · split at q3
        · exact .inr (.inl (by assumption))
        · split at q3
          · rename_i h3
            simp only [Bool.and_eq_true, decide_eq_true_eq] at q3
            exact .inr (.inr ⟨h3, q3.1.2⟩)
          · cases q3
    have fin : ∀ hi' : Bs, saidR m = (m.lo, hi', false) → cmp m.lo hi' < 0 → (i < d.2.length → cmp hi' (d.2.getD i []) ≤ 0) → (m.kd = 3 → hi' = m.hi) → wthM (if 0 < i then d.2.getD (i - 1) [] else [], if i < d.2.length then d.2.getD i [] else [], !decide (i < d.2.length)) m = some m := by
      intro hi' e1 e2 e3 e4
      have e5 := me_in (l := if 0 < i then d.2.getD (i - 1) [] else []) (h := if i < d.2.length then d.2.getD i [] else []) (al := !decide (i < d.2.length)) e2 hl (by
        by_cases g : i < d.2.length
        · rw [if_pos g]; exact .inr (e3 g)
        · exact .inl (by simp [g]))
      have a1 := cmp_anti m.lo hi'
      have e6 : emR (m.lo, hi', false) = false := by simp only [emR, Bool.not_false, Bool.true_and]; exact decide_eq_false (by omega)
      unfold wthM
      rw [e1, e5, e6, if_neg (by decide)]
      split
      · rename_i h3
        rw [e4 h3]
      · rfl
    rcases hkd with h3 | h3 | ⟨h3, h4⟩
    · refine fin (m.lo ++ [0]) (if_pos (.inl h3)) (by rw [cmp_next]; decide) (fun g => ?_) (fun g => by rw [h3] at g; cases g)
      have h5 := near_next m.lo _ (hlt g)
      have := cmp_anti (m.lo ++ [0]) (d.2.getD i [])
      omega
    · refine fin (m.lo ++ [0]) (if_pos (.inr h3)) (by rw [cmp_next]; decide) (fun g => ?_) (fun g => by rw [h3] at g; cases g)
      have h5 := near_next m.lo _ (hlt g)
      have := cmp_anti (m.lo ++ [0]) (d.2.getD i [])
      omega
    · refine fin m.hi (by unfold saidR; rw [if_neg (by omega), if_pos h3]) h4 (fun g => ?_) (fun _ => rfl)
      unfold withN at q2
      simp only [Bool.or_eq_true, decide_eq_true_eq] at q2
      rw [hm2] at q2
      rcases q2 with (q2 | q2) | q2
      · exact absurd h3 q2
      · omega
      · exact q2
  unfold withinL
  have : ∀ {l : List MD}, (∀ m ∈ l, wthM (if 0 < i then d.2.getD (i - 1) [] else [], if i < d.2.length then d.2.getD i [] else [], !decide (i < d.2.length)) m = some m) → l.filterMap (wthM (if 0 < i then d.2.getD (i - 1) [] else [], if i < d.2.length then d.2.getD i [] else [], !decide (i < d.2.length))) = l := by
    intro l
    induction l with
    | nil => intro _; rfl
    | cons a r ih => intro h; rw [List.filterMap_cons, h a (by simp), ih (fun m hm => h m (by simp [hm]))]
  exact this key
end Go.Sx
