/- Messages that do the same, and parts of them: in plain words. -/
import Derived.Test.YtpnhoafmlhlfgaaGreatCZPj
import Derived.Test.YtpnhoafmlhlfgaaGreatCGPj
import Derived.Test.YtpnhoafmlhlfgaaGreatCGDj
namespace Go.Sx
open Go
theorem getM_setl (key : Bs) : ∀ (l : List MD), getM (setlL l) key = getM l key
  | [] => rfl
  | m :: r => by
    by_cases h : KeepM m r
    · rw [setl_yes h, getM_cons, getM_cons, getM_setl key r]
    · rw [setl_no h, getM_setl key r, getM_cons, if_neg]
      rintro ⟨h1, h2⟩
      exact h ⟨key, h2, h1⟩
theorem setl_setl : ∀ (l : List MD), setlL (setlL l) = setlL l
  | [] => rfl
  | m :: r => by
    by_cases h : KeepM m r
    · have : KeepM m (setlL r) := by
        obtain ⟨key, h1, h2⟩ := h
        exact ⟨key, h1, by rw [getM_setl]; exact h2⟩
      rw [setl_yes h, setl_yes this, setl_setl r]
    · rw [setl_no h, setl_setl r]
theorem sumM_sub {k l : List MD} (h : k.Sublist l) : sumM k ≤ sumM l := by
  induction h with
  | slnil => exact Nat.le_refl _
  | cons a _ ih => simp only [sumM, List.map_cons, List.sum_cons] at *; omega
  | cons_cons a _ ih => simp only [sumM, List.map_cons, List.sum_cons] at *; omega
theorem mean_getM {l m : List MD} {ps : List PD} (h1 : IsMean l ps) (h2 : IsMean m ps) (key : Bs) : getM l key = getM m key := by
  rcases e : getM l key with _ | o
  · rcases e2 : getM m key with _ | o
    · rfl
    · have := (h1.2 key o).1 ((h2.2 key o).2 e2)
      rw [e] at this; cases this
  · exact ((h2.2 key o).1 ((h1.2 key o).2 e)).symm
theorem getM_congr {k t : Bs} : ∀ {l : List MD}, (∀ m ∈ l, (hasB (saidR m) k = true ↔ hasB (saidR m) t = true)) → getM l k = getM l t
  | [], _ => rfl
  | m :: r, h => by
    rw [getM_cons, getM_cons, getM_congr fun x hx => h x (by simp [hx])]
    by_cases g : hasB (saidR m) k = true
    · simp [g, (h m (by simp)).1 g]
    · have : ¬ hasB (saidR m) t = true := fun q => g ((h m (by simp)).2 q)
      simp [g, this]
/-- The places that messages name. -/
def Edg (K : List Bs) (l : List MD) : Prop := ∀ m ∈ l, m.lo ∈ K ∧ m.hi ∈ K ∧ m.lo ++ [0] ∈ K
theorem max_of : ∀ {L : List Bs}, L ≠ [] → ∃ t ∈ L, ∀ x ∈ L, cmp x t ≤ 0
  | [], h => absurd rfl h
  | [a], _ => ⟨a, by simp, fun x hx => by rw [List.mem_singleton.1 hx, cmp_self]; omega⟩
  | a :: b :: r, _ => by
    obtain ⟨t, h1, h2⟩ := max_of (L := b :: r) (by simp)
    by_cases g : cmp a t ≤ 0
    · exact ⟨t, by simp [h1], fun x hx => by rcases List.mem_cons.1 hx with rfl | hx; exact g; exact h2 x hx⟩
    · refine ⟨a, by simp, fun x hx => ?_⟩
      rcases List.mem_cons.1 hx with rfl | hx
      · rw [cmp_self]; omega
      · have := nle g
        exact le_tr (h2 x hx) (by omega)
theorem said_edg {K : List Bs} {m : MD} (h : m.lo ∈ K ∧ m.hi ∈ K ∧ m.lo ++ [0] ∈ K) : saidR m = t30 ∨ ∃ lo hi, saidR m = (lo, hi, false) ∧ lo ∈ K ∧ hi ∈ K := by
  by_cases k1 : m.kd = 1 ∨ m.kd = 2
  · exact .inr ⟨_, _, said_one k1, h.1, h.2.2⟩
  · by_cases k3 : m.kd = 3
    · exact .inr ⟨_, _, said_cut k3, h.1, h.2.1⟩
    · left; unfold saidR; rw [if_neg k1, if_neg k3]
theorem edg_same {K : List Bs} {a b : List MD} (ha : Edg K a) (hb : Edg K b) (h : ∀ k ∈ K, getM a k = getM b k) (key : Bs) : getM a key = getM b key := by
  by_cases hE : K.filter (fun x => decide (cmp x key ≤ 0)) = []
  · have none : ∀ {l : List MD}, Edg K l → getM l key = none := fun {l} hl => by
      rw [getM_none]
      rintro ⟨m, hm, hs⟩
      rcases said_edg (hl m hm) with e | ⟨lo, hi, e, h1, _⟩
      · rw [e] at hs; exact has_t30 hs
      · rw [e, hasB_iff] at hs
        have : lo ∈ K.filter (fun x => decide (cmp x key ≤ 0)) := List.mem_filter.2 ⟨h1, by simpa using hs.1⟩
        rw [hE] at this; cases this
    rw [none ha, none hb]
  · obtain ⟨t, h1, h2⟩ := max_of hE
    obtain ⟨t1, t2⟩ := List.mem_filter.1 h1
    have t2 : cmp t key ≤ 0 := by simpa using t2
    have same : ∀ {l : List MD}, Edg K l → getM l key = getM l t := fun {l} hl => getM_congr fun m hm => by
      rcases said_edg (hl m hm) with e | ⟨lo, hi, e, e1, e2⟩
      · rw [e]; exact ⟨fun q => absurd q has_t30, fun q => absurd q has_t30⟩
      · rw [e, hasB_iff, hasB_iff]
        simp only [Bool.false_eq_true, false_or]
        constructor
        · rintro ⟨q1, q2⟩
          exact ⟨h2 lo (List.mem_filter.2 ⟨e1, by simpa using q1⟩), tr_lt t2 q2⟩
        · rintro ⟨q1, q2⟩
          refine ⟨le_tr q1 t2, ?_⟩
          by_cases q : cmp hi key ≤ 0
          · have := h2 hi (List.mem_filter.2 ⟨e2, by simpa using q⟩)
            have := cmp_anti hi t
            omega
          · exact nle q
    rw [same ha, same hb, h t t1]
/-! Within. -/
theorem fo_idem (d : T3) : foR (foR d) = foR d := by
  unfold foR
  by_cases h : emR d = true
  · rw [if_pos h, if_pos emR_t30]
  · rw [if_neg h]
    by_cases g : d.2.2 = true
    · rw [if_pos g, if_neg (by rw [emR_iff]; simp)]
      simp
    · rw [if_neg g, if_neg h, if_neg g]
theorem me_fo (a b : T3) : foR (meR a b) = meR a b := by
  unfold meR
  split
  · unfold foR; rw [if_pos emR_t30]
  · exact fo_idem _
theorem me_nil {a b : T3} (h : emR (meR a b) = true) : meR a b = t30 := by
  have e := me_fo a b
  unfold foR at e
  rw [if_pos h] at e
  exact e.symm
theorem nef_uniq {a b : T3} (ha : Nef a) (hb : Nef b) (h : ∀ key, hasB a key = true ↔ hasB b key = true) : a = b := by
  have := sep_uniq (l := [a]) (m := [b]) ha hb fun key => by rw [inU_one, inU_one]; exact h key
  exact List.singleton_inj.1 this
theorem em_of7 {a : T3} (h : ∀ key, ¬ hasB a key = true) : emR a = true := by
  refine Classical.byContradiction fun g => h a.1 (ne_has g)
theorem me_assoc (a b c : T3) : meR a (meR b c) = meR (meR a b) c := by
  have hs : ∀ key, hasB (meR a (meR b c)) key = true ↔ hasB (meR (meR a b) c) key = true := fun key => by
    rw [has_me, has_me, has_me, has_me, and_assoc]
  by_cases h : emR (meR a (meR b c)) = true
  · have : emR (meR (meR a b) c) = true := em_of7 fun key k => has_em h ((hs key).2 k)
    rw [me_nil h, me_nil this]
  · exact nef_uniq ⟨me_fo _ _, h⟩ ⟨me_fo _ _, fun k => h (em_of7 fun key q => has_em k ((hs key).1 q))⟩ hs
/-- Of which keys a message says something within a range. -/
theorem wth_has {r : T3} {m : MD} {key : Bs} : (match wthM r m with | some x => hasB (saidR x) key = true ∧ x.kd = m.kd ∧ x.v = m.v | none => False) ↔ hasB (saidR m) key = true ∧ hasB r key = true := by
  unfold wthM
  by_cases h : emR (meR (saidR m) r) = true
  · rw [if_pos h]
    exact ⟨fun k => k.elim, fun k => has_em h (has_me.2 k)⟩
  · rw [if_neg h]
    simp only
    by_cases k3 : m.kd = 3
    · rw [if_pos k3]
      have hf := (me_fin (a := saidR m) (b := r) (said_fin m) h).1
      have e : saidR ⟨m.st, m.kd, (meR (saidR m) r).1, (meR (saidR m) r).2.1, m.v⟩ = meR (saidR m) r := by
        rw [said_cut (m := ⟨m.st, m.kd, (meR (saidR m) r).1, (meR (saidR m) r).2.1, m.v⟩) k3]
        simp only
        rw [hf]
      rw [e, has_me]
      simp
    · rw [if_neg k3]
      simp only [and_true]
      have hne := ne_has h
      rw [has_me] at hne
      by_cases k1 : m.kd = 1 ∨ m.kd = 2
      · rw [said_one k1] at hne ⊢
        rw [has_one] at hne ⊢
        constructor
        · intro k; exact ⟨k, by rw [k, ← hne.1]; exact hne.2⟩
        · exact fun k => k.1
      · have : saidR m = t30 := by unfold saidR; rw [if_neg k1, if_neg k3]
        rw [this] at hne
        exact absurd hne.1 has_t30
theorem getM_within (r : T3) (key : Bs) : ∀ (l : List MD), getM (withinL r l) key = if hasB r key = true then getM l key else none
  | [] => by simp [withinL, getM]
  | m :: l => by
    have ih := getM_within r key l
    have hw := wth_has (r := r) (m := m) (key := key)
    have hc : withinL r (m :: l) = match wthM r m with | some x => x :: withinL r l | none => withinL r l := by
      unfold withinL
      rw [List.filterMap_cons]
      cases wthM r m <;> rfl
    rw [hc]
    rcases e : wthM r m with _ | x
    · rw [e] at hw
      simp only [false_iff] at hw
      simp only
      rw [ih, getM_cons]
      by_cases g : hasB r key = true
      · rw [if_pos g, if_pos g, if_neg]
        exact fun k => hw ⟨k.2, g⟩
      · rw [if_neg g, if_neg g]
    · rw [e] at hw
      simp only at hw ⊢
      rw [getM_cons, ih, getM_cons]
      have hkd : x.kd = m.kd ∧ x.v = m.v := by
        unfold wthM at e
        split at e
        · cases e
        · simp only [Option.some.injEq] at e
          rw [← e]
          split <;> exact ⟨rfl, rfl⟩
      have hw : hasB (saidR x) key = true ↔ hasB (saidR m) key = true ∧ hasB r key = true := ⟨fun k => hw.1 ⟨k, hkd⟩, fun k => (hw.2 k).1⟩
      rw [hkd.1, hkd.2]
      by_cases g : hasB r key = true
      · simp only [g, if_true, hw, and_true]
      · simp only [g, if_false, hw, and_false]
        simp
theorem wth_wth (r s : T3) (m : MD) : ((wthM r m).bind fun x => wthM s x) = wthM (meR r s) m := by
  have ha := me_assoc (saidR m) r s
  unfold wthM
  by_cases h : emR (meR (saidR m) r) = true
  · rw [if_pos h]
    have : emR (meR (saidR m) (meR r s)) = true := em_of7 fun key k => by
      rw [has_me, has_me] at k
      exact has_em h (has_me.2 ⟨k.1, k.2.1⟩)
    rw [if_pos this]
    rfl
  · rw [if_neg h]
    simp only [Option.bind_some]
    by_cases k3 : m.kd = 3
    · rw [if_pos k3]
      have hf := (me_fin (a := saidR m) (b := r) (said_fin m) h).1
      have e : saidR ⟨m.st, m.kd, (meR (saidR m) r).1, (meR (saidR m) r).2.1, m.v⟩ = meR (saidR m) r := by
        rw [said_cut (m := ⟨m.st, m.kd, (meR (saidR m) r).1, (meR (saidR m) r).2.1, m.v⟩) k3]
        simp only
        rw [hf]
      rw [e, ha]
      split
      · rfl
      · simp only [k3, if_true]
    · rw [if_neg k3, if_neg k3, if_neg k3]
      have hne := ne_has h
      rw [has_me] at hne
      have key : emR (meR (saidR m) s) = true ↔ emR (meR (saidR m) (meR r s)) = true := by
        have one : m.kd = 1 ∨ m.kd = 2 := by
          refine Classical.byContradiction fun k1 => ?_
          have : saidR m = t30 := by unfold saidR; rw [if_neg k1, if_neg k3]
          rw [this] at hne
          exact has_t30 hne.1
        rw [said_one one] at hne ⊢
        rw [has_one] at hne
        constructor
        · intro q
          exact em_of7 fun key k => by
            rw [has_me, has_me] at k
            exact has_em q (has_me.2 ⟨k.1, k.2.2⟩)
        · intro q
          exact em_of7 fun key k => by
            rw [has_me, has_one] at k
            exact has_em q (has_me.2 ⟨has_one.2 k.1, has_me.2 ⟨by rw [k.1, ← hne.1]; exact hne.2, k.2⟩⟩)
      by_cases q : emR (meR (saidR m) s) = true
      · rw [if_pos q, if_pos (key.1 q)]
      · rw [if_neg q, if_neg fun k => q (key.2 k)]
theorem within_within (r s : T3) (l : List MD) : withinL s (withinL r l) = withinL (meR r s) l := by
  unfold withinL
  rw [List.filterMap_filterMap]
  congr 1
  funext m
  exact wth_wth r s m
theorem within_len {r : T3} {n : Nat} {l : List MD} (hr : r.1.length ≤ n ∧ r.2.1.length ≤ n) (hl : ∀ m ∈ l, m.lo.length + 1 ≤ n ∧ m.hi.length ≤ n) (hv : ∀ m ∈ l, m.v.length ≤ n) : ∀ x ∈ withinL r l, x.lo.length ≤ n ∧ x.hi.length ≤ n ∧ x.v.length ≤ n := by
  intro x hx
  obtain ⟨m, hm, e⟩ := List.mem_filterMap.1 hx
  obtain ⟨h1, h2⟩ := hl m hm
  have h3 := hv m hm
  unfold wthM at e
  split at e
  · cases e
  · simp only [Option.some.injEq] at e
    rw [← e]
    have hq := qk_me (k := n) (a := saidR m) (b := r) (qk_said h1 h2) hr
    split
    · exact ⟨hq.1, hq.2, h3⟩
    · exact ⟨by omega, h2, h3⟩
theorem within_le (r : T3) (l : List MD) : (withinL r l).length ≤ l.length := List.length_filterMap_le _ _
/-- Parts of the messages, one behind the other, do what all did. -/
theorem parts_app {E : Option Bs} {l : List MD} {r : T3} {key : Bs} : appO (appO (appO E (getM (withinL r l) key)) (getM (withinL (miR ([], [], true) r).1 l) key)) (getM (withinL (miR ([], [], true) r).2 l) key) = appO E (getM l key) := by
  have h := has_mi (a := ([], [], true)) (b := r) (key := key)
  have hall : hasB ([], [], true) key = true := by
    rw [hasB_iff]
    refine ⟨?_, .inl rfl⟩
    cases key <;> simp [cmp]
  rw [getM_within, getM_within, getM_within]
  simp only [hall, true_and] at h
  by_cases g : hasB r key = true
  · have h1 : ¬ hasB (miR ([], [], true) r).1 key = true := fun k => (h.1 (.inl k)) g
    have h2 : ¬ hasB (miR ([], [], true) r).2 key = true := fun k => (h.1 (.inr k)) g
    rw [if_pos g, if_neg h1, if_neg h2]
    rfl
  · rw [if_neg g]
    rcases q : getM l key with _ | o
    · simp [appO]
    · rcases h.2 g with k | k
      · rw [if_pos k]
        by_cases k2 : hasB (miR ([], [], true) r).2 key = true
        · rw [if_pos k2]; rfl
        · rw [if_neg k2]; rfl
      · rw [if_pos k]; rfl
/-- How long what comes out is. -/
theorem IsApp.lens {l : List KV} {ms : List MD} {out : List KV} {n : Nat} (h : IsApp l ms out) (hl : ∀ e ∈ l, e.k.length ≤ n ∧ e.v.length ≤ n) (hm : ∀ m ∈ ms, m.lo.length ≤ n ∧ m.v.length ≤ n) : ∀ e ∈ out, e.k.length ≤ n ∧ e.v.length ≤ n := by
  intro e he
  have h1 := (h.eq e.k e.v).1 ⟨e, he, rfl, rfl⟩
  rcases g : getM ms e.k with _ | o
  · rw [g] at h1
    obtain ⟨x, hx, e1, e2⟩ := getE_some h1
    rw [← e1, ← e2]
    exact hl x hx
  · rw [g] at h1
    have h1 : o = some e.v := h1
    rw [h1] at g
    obtain ⟨m, hmm, _, e1, e2⟩ := getM_put g
    rw [← e1, ← e2]
    exact hm m hmm
end Go.Sx
