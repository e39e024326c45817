/- Part of a proof: several parts of a walk, one behind the other. -/
import Derived.Test.YtpnhoafmlhlfgaaGreatCW2j
import Derived.Test.YtpnhoafmlhlfgaaGreatCGIj
import Derived.Test.YtpnhoafmlhlfgaaGreatCGAj
namespace Go.Sx
open Go
theorem nbN_beN (k : Nat) : ∀ (xs : Bs), xs.length = k → nbN k (beN xs) = xs := by
  induction k with
  | zero => intro xs h; rw [List.eq_nil_of_length_eq_zero h]; rfl
  | succ k ih =>
    intro xs h
    obtain ⟨ys, c, rfl⟩ : ∃ ys c, xs = ys ++ [c] := ⟨xs.dropLast, xs.getLast (by intro e; rw [e] at h; cases h), (List.dropLast_concat_getLast _).symm⟩
    have hc := c.toNat_lt
    have e1 : (beN ys * 256 + c.toNat) / 256 = beN ys := by omega
    have e2 : UInt8.ofNat (beN ys * 256 + c.toNat) = c := by
      apply UInt8.toNat_inj.1
      show (beN ys * 256 + c.toNat) % 256 = c.toNat
      omega
    rw [nbN, beN_snoc, e1, e2, ih ys (by simpa using h)]
theorem takeS_back {n : Nat} {s : SrcB} (h : (takeS n s).2.2 = false) : s.2 = false ∧ (takeS n s).1.length = n ∧ s.1 = (takeS n s).1 ++ (takeS n s).2.1 := by
  unfold takeS at *
  split at h
  · cases h
  · rename_i g
    rw [if_neg g]
    refine ⟨by cases e : s.2; rfl; exact absurd (.inl e) g, ?_, (List.take_append_drop _ _).symm⟩
    rw [List.length_take]
    have : ¬ s.1.length < n := fun k => g (.inr k)
    omega
theorem numS_back {k : Nat} {s : SrcB} (h : (numS k s).2.2 = false) : s.2 = false ∧ s.1 = nbN k (numS k s).1 ++ (numS k s).2.1 := by
  obtain ⟨h1, h2, h3⟩ := takeS_back (n := k) (s := s) h
  refine ⟨h1, ?_⟩
  show s.1 = nbN k (beN (takeS k s).1) ++ (takeS k s).2.1
  rw [nbN_beN k _ h2, ← h3]
theorem oneS_back {s : SrcB} (h : (oneS s).2.2 = false) : s.2 = false ∧ s.1 = encM1 (oneS s).1 ++ (oneS s).2.1 := by
  unfold oneS at *
  simp only at h ⊢
  obtain ⟨t0, t1, t2⟩ := takeS_back h
  obtain ⟨x0, x1, x2⟩ := takeS_back t0
  obtain ⟨l0, l1⟩ := numS_back x0
  obtain ⟨k0, k1⟩ := numS_back l0
  obtain ⟨j0, j1⟩ := numS_back k0
  obtain ⟨i0, i1⟩ := numS_back j0
  refine ⟨i0, ?_⟩
  generalize numS 8 s = p1 at *
  generalize numS 1 p1.2 = p2 at *
  generalize numS 2 p2.2 = p3 at *
  generalize numS 2 p3.2 = p4 at *
  generalize takeS p3.1 p4.2 = p5 at *
  generalize takeS p4.1 p5.2 = p6 at *
  have ht : tailM ⟨p1.1, p2.1, p5.1, if (p2.1 : Int) = 3 then p6.1 else [], if (p2.1 : Int) = 3 then [] else p6.1⟩ = p6.1 := by
    unfold tailM
    by_cases g : (p2.1 : Int) = 3
    · simp [g]
    · simp [g]
  simp only [encM1, ht, Int.toNat_natCast]
  rw [x1, t1, i1, j1, k1, l1, x2, t2]
  simp only [List.append_assoc]
theorem loopS_back : ∀ (n : Nat) (out : List MD) (s : SrcB), (loopS n out s).2.2 = false → s.2 = false ∧ ∃ l, (loopS n out s).1 = out ++ l ∧ l.length = n ∧ s.1 = l.flatMap encM1 ++ (loopS n out s).2.1
  | 0, out, s, h => ⟨h, [], by simp [loopS]⟩
  | n + 1, out, s, h => by
    rw [loopS] at *
    split at h
    · rename_i g; rw [g] at h; cases h
    · rename_i g
      obtain ⟨h1, l, h2, h3, h4⟩ := loopS_back n _ _ h
      obtain ⟨k1, k2⟩ := oneS_back h1
      rw [if_neg g]
      refine ⟨k1, (oneS s).1 :: l, ?_, by simp [h3], ?_⟩
      · rw [h2, List.append_assoc]; rfl
      · rw [List.flatMap_cons, List.append_assoc, ← h4, ← k2]
theorem decM_back {size : Int} {xs : Bs} {l : List MD} (h : decM size xs = some l) : chkM size l = 0 ∧ layM l = xs := by
  unfold decM at h
  split at h
  · rename_i g
    obtain ⟨_, g1, g2, g3⟩ := g
    cases h
    refine ⟨g3, ?_⟩
    unfold srcM at *
    obtain ⟨k1, l, k2, k3, k4⟩ := loopS_back _ _ _ g1
    obtain ⟨j1, j2⟩ := numS_back k1
    rw [List.eq_nil_of_length_eq_zero g2, List.append_nil] at k4
    rw [k2, List.nil_append, layM, k3, ← k4]
    exact j2.symm
  · cases h
theorem srcM_lay {l : List MD} (h : ∀ m ∈ l, Canon m) (hl : l.length < 4294967296) : srcM (layM l) = (l, ([], false)) := by
  have h1 : numS 4 (layM l, false) = (l.length, (l.flatMap encM1, false)) := numS_app (by omega)
  have h2 := loopS_enc l [] [] h
  rw [List.append_nil, List.nil_append] at h2
  rw [srcM, h1, h2]
theorem decM_lay {size : Int} {l : List MD} (h : chkM size l = 0) (hl : l.length < 4294967296) : decM size (layM l) = some l ∧ decME size (layM l) = 0 := by
  have hs : sizedB size = true := by unfold chkM at h; split at h; assumption; cases h
  have e : decM size (layM l) = some l := by
    rw [decM, srcM_lay (chkM_canon h) hl, if_pos ⟨hs, rfl, rfl, h⟩]
  refine ⟨e, ?_⟩
  rw [decME, if_neg (by rw [hs]; decide), e]
  rfl
theorem decME_0 {size : Int} {xs : Bs} (h : decME size xs = 0) : ∃ l, decM size xs = some l := by
  unfold decME at h
  split at h
  · cases h
  split at h
  · rename_i g; exact Option.isSome_iff_exists.1 g
  · cases h
/-- Which stamps may be: they rise. -/
theorem chkG_iff {size : Int} : ∀ {l : List MD} {last : Int}, chkG size last l = 0 ↔ (∀ m ∈ l, mayM size m = true ∧ m.st ≤ 4611686018427387904 ∧ last < m.st) ∧ l.Pairwise fun a b => a.st < b.st
  | [], _ => by simp [chkG]
  | m :: r, last => by
    rw [chkG]
    by_cases h1 : mayM size m = false
    · rw [if_pos h1]
      refine ⟨fun h => (by cases h), fun h => ?_⟩
      have := (h.1 m (by simp)).1
      rw [h1] at this; cases this
    rw [if_neg h1]
    by_cases h2 : m.st ≤ last ∨ 4611686018427387904 < m.st
    · rw [if_pos h2]
      refine ⟨fun h => (by cases h), fun h => ?_⟩
      have := (h.1 m (by simp)).2
      omega
    rw [if_neg h2, chkG_iff (l := r)]
    constructor
    · rintro ⟨g1, g2⟩
      refine ⟨fun x hx => ?_, List.pairwise_cons.2 ⟨fun x hx => (g1 x hx).2.2, g2⟩⟩
      rcases List.mem_cons.1 hx with rfl | hx
      · exact ⟨by simpa using h1, by omega, by omega⟩
      · have := g1 x hx
        exact ⟨this.1, this.2.1, by omega⟩
    · rintro ⟨g1, g2⟩
      obtain ⟨k1, k2⟩ := List.pairwise_cons.1 g2
      exact ⟨fun x hx => ⟨(g1 x (by simp [hx])).1, (g1 x (by simp [hx])).2.1, k1 x hx⟩, k2⟩
theorem chkM_iff {size : Int} {l : List MD} : chkM size l = 0 ↔ sizedB size = true ∧ (∀ m ∈ l, mayM size m = true ∧ m.st ≤ 4611686018427387904 ∧ 0 < m.st) ∧ l.Pairwise fun a b => a.st < b.st := by
  unfold chkM
  split
  · rename_i h; rw [chkG_iff]; exact ⟨fun g => ⟨h, g⟩, fun g => g.2⟩
  · rename_i h; exact ⟨fun g => (by cases g), fun g => absurd g.1 h⟩
theorem chkM_sub {size : Int} {k l : List MD} (h : chkM size l = 0) (hs : k.Sublist l) : chkM size k = 0 := by
  obtain ⟨h1, h2, h3⟩ := chkM_iff.1 h
  exact chkM_iff.2 ⟨h1, fun m hm => h2 m (hs.subset hm), h3.sublist hs⟩
theorem setl_sub : ∀ (l : List MD), (setlL l).Sublist l
  | [] => List.Sublist.refl _
  | m :: r => by
    by_cases h : KeepM m r
    · rw [setl_yes h]; exact List.Sublist.cons_cons m (setl_sub r)
    · rw [setl_no h]; exact (setl_sub r).cons m
theorem chkM_setl {size : Int} {l : List MD} (h : chkM size l = 0) : chkM size (setlL l) = 0 := chkM_sub h (setl_sub l)
theorem cmp_ne_nil {a b : Bs} (h : cmp a b < 0) : 1 ≤ b.length := by
  cases b with
  | nil => cases a <;> simp [cmp] at h
  | cons _ _ => simp
theorem le_ne_nil {a b : Bs} (h : cmp a b ≤ 0) (ha : 1 ≤ a.length) : 1 ≤ b.length := by
  cases b with
  | nil => cases a <;> simp [cmp] at h ha
  | cons _ _ => simp
theorem wth_st {r : T3} {m x : MD} (h : wthM r m = some x) : x.st = m.st := by
  unfold wthM at h
  split at h
  · cases h
  · simp only [Option.some.injEq] at h
    rw [← h]; split <;> rfl
theorem me_fin {a b : T3} (ha : a.2.2 = false) (h : ¬ emR (meR a b) = true) : meR a b = (if 0 < cmp b.1 a.1 then b.1 else a.1, if beR b a = true then b.2.1 else a.2.1, false) ∧ cmp (if 0 < cmp b.1 a.1 then b.1 else a.1) (if beR b a = true then b.2.1 else a.2.1) < 0 := by
  have hff : (if beR b a = true then b.2.2 else a.2.2) = false := by
    split
    · rename_i g1; exact (beR_iff.1 g1).1
    · exact ha
  unfold meR at h ⊢
  rw [hff] at h ⊢
  by_cases g : (emR a || emR b) = true
  · rw [if_pos g] at h; exact absurd emR_t30 h
  rw [if_neg g] at h ⊢
  generalize (if 0 < cmp b.1 a.1 then b.1 else a.1) = A at h ⊢
  generalize (if beR b a = true then b.2.1 else a.2.1) = B at h ⊢
  unfold foR at h ⊢
  by_cases e : emR (A, B, false) = true
  · rw [if_pos e] at h; exact absurd emR_t30 h
  rw [if_neg e, if_neg (by simp)]
  refine ⟨rfl, nle fun k => e (emR_iff.2 ⟨rfl, k⟩)⟩
theorem wth_may {size : Int} {r : T3} {m x : MD} (hr : (r.1.length : Int) ≤ size / 16 ∧ (r.2.1.length : Int) ≤ size / 16) (hm : mayM size m = true) (h : wthM r m = some x) : mayM size x = true := by
  unfold wthM at h
  split at h
  · cases h
  rename_i he
  simp only [Option.some.injEq] at h
  rw [← h]
  by_cases hk : m.kd = 3
  · rw [if_pos hk]
    have hsd : saidR m = (m.lo, m.hi, false) := by unfold saidR; rw [if_neg (by omega), if_pos hk]
    unfold mayM at hm ⊢
    rw [if_neg (by omega), if_neg (by omega), if_pos hk] at hm
    simp only
    rw [if_neg (by omega), if_neg (by omega), if_pos hk]
    unfold keyB at hm ⊢
    simp only [Bool.and_eq_true, decide_eq_true_eq] at hm ⊢
    obtain ⟨⟨⟨⟨h1, h2⟩, h3, h4⟩, h5⟩, h6⟩ := hm
    rw [hsd] at he ⊢
    obtain ⟨hf, hlt⟩ := me_fin (a := (m.lo, m.hi, false)) rfl he
    rw [hf]
    simp only at hlt ⊢
    refine ⟨⟨⟨⟨?_, ?_⟩, cmp_ne_nil hlt, ?_⟩, hlt⟩, h6⟩
    · split
      · rename_i g
        exact le_ne_nil (a := m.lo) (by have := cmp_anti m.lo r.1; omega) h1
      · exact h1
    · split
      · exact hr.1
      · exact h2
    · split
      · exact hr.2
      · exact h4
  · rw [if_neg hk]; exact hm
theorem chkM_within {size : Int} {l : List MD} {r : T3} (hr : (r.1.length : Int) ≤ size / 16 ∧ (r.2.1.length : Int) ≤ size / 16) (h : chkM size l = 0) : chkM size (withinL r l) = 0 := by
  obtain ⟨h1, h2, h3⟩ := chkM_iff.1 h
  refine chkM_iff.2 ⟨h1, fun x hx => ?_, ?_⟩
  · obtain ⟨m, hm, e⟩ := List.mem_filterMap.1 hx
    have := h2 m hm
    exact ⟨wth_may hr this.1 e, by rw [wth_st e]; exact this.2⟩
  · unfold withinL
    refine List.pairwise_filterMap.2 (List.Pairwise.imp ?_ h3)
    intro a b hab x hx y hy
    rw [wth_st hx, wth_st hy]
    exact hab
end Go.Sx
namespace Go.Sx
open Go
def ofStep (key : Bs) (s : Nat × Option Bs) (p : PD) : Nat × Option Bs := match spP p key with
  | some (some v) => (s.1 + 1, some v)
  | some none => (s.1 + 1, s.2)
  | none => s
def ofP (ps : List PD) (key : Bs) : Nat × Option Bs := ps.foldl (ofStep key) (0, none)
theorem ofP_snoc (ps : List PD) (p : PD) (key : Bs) : ofP (ps ++ [p]) key = ofStep key (ofP ps key) p := by simp [ofP]
theorem ofP_le (ps : List PD) (key : Bs) : (ofP ps key).1 ≤ ps.length := by
  have h : ∀ (ps : List PD) (s : Nat × Option Bs), (ps.foldl (ofStep key) s).1 ≤ s.1 + ps.length := by
    intro ps
    induction ps with
    | nil => intro s; simp
    | cons p r ih =>
      intro s
      rw [List.foldl_cons, List.length_cons]
      have h1 := ih (ofStep key s p)
      have h2 : (ofStep key s p).1 ≤ s.1 + 1 := by
        unfold ofStep
        split <;> simp
      omega
  have := h ps (0, none)
  simpa [ofP] using this
theorem sp_one {a b : PD} {key : Bs} {o : Option Bs} (ha : okP a) (hb : okP b) (h : stepP a b) (hs : spP a key = some o) : spP b key = none := by
  rcases e : spP b key with _ | q
  · rfl
  · have h1 := sp_in ha hs
    have h2 := sp_in hb e
    have h3 := tr_lt h2.1 h1.2
    have h4 := tr_lt h.1 h3
    rw [cmp_self] at h4
    omega
theorem of_none {key : Bs} : ∀ {ps : List PD} (s : Nat × Option Bs), (∀ p ∈ ps, spP p key = none) → ps.foldl (ofStep key) s = s
  | [], s, _ => rfl
  | p :: r, s, h => by
    rw [List.foldl_cons]
    have : ofStep key s p = s := by unfold ofStep; rw [h p (by simp)]
    rw [this]
    exact of_none s fun x hx => h x (by simp [hx])
theorem of_wf {key : Bs} : ∀ {ps : List PD} (s : Nat × Option Bs), WfP ps → (∃ p o, p ∈ ps ∧ spP p key = some o ∧ ps.foldl (ofStep key) s = (s.1 + 1, match o with | some v => some v | none => s.2)) ∨ ((∀ o, ¬ PIn ps key o) ∧ ps.foldl (ofStep key) s = s)
  | [], s, _ => .inr ⟨fun o ⟨p, hp, _⟩ => (by cases hp), rfl⟩
  | p :: r, s, h => by
    obtain ⟨g1, g2⟩ := List.pairwise_cons.1 h.2
    rw [List.foldl_cons]
    rcases e : spP p key with _ | o
    · have e1 : ofStep key s p = s := by unfold ofStep; rw [e]
      rw [e1]
      rcases of_wf s ⟨fun x hx => h.1 x (by simp [hx]), g2⟩ with ⟨q, o, hq, h1, h2⟩ | ⟨h1, h2⟩
      · exact .inl ⟨q, o, by simp [hq], h1, h2⟩
      · refine .inr ⟨fun o => ?_, h2⟩
        rintro ⟨x, hx, hs⟩
        rcases List.mem_cons.1 hx with rfl | hx
        · rw [e] at hs; cases hs
        · exact h1 o ⟨x, hx, hs⟩
    · refine .inl ⟨p, o, by simp, e, ?_⟩
      rw [of_none _ fun x hx => sp_one (h.1 p (by simp)) (h.1 x (by simp [hx])) (g1 x hx) e]
      unfold ofStep
      rw [e]
      cases o <;> rfl
/-- What pieces that are a meaning say of a key. -/
theorem of_mean {l : List MD} {ps : List PD} {key : Bs} (h : IsMean l ps) : ofP ps key = match getM l key with
    | none => (0, none)
    | some o => (1, o) := by
  unfold ofP
  rcases of_wf (key := key) (0, none) h.1 with ⟨p, o, hp, hs, e⟩ | ⟨h1, e⟩
  · rw [e, (h.2 key o).1 ⟨p, hp, hs⟩]
    cases o <;> rfl
  · rw [e]
    rcases g : getM l key with _ | o
    · rfl
    · exact absurd ((h.2 key o).2 g) (h1 o)
theorem wf_step {ps : List PD} (h : WfP ps) {i j : Nat} {a b : PD} (hij : i < j) (ha : ps[i]? = some a) (hb : ps[j]? = some b) : stepP a b := by
  obtain ⟨h1, e1⟩ := List.getElem?_eq_some_iff.1 ha
  obtain ⟨h2, e2⟩ := List.getElem?_eq_some_iff.1 hb
  rw [← e1, ← e2]
  exact List.pairwise_iff_getElem.1 h.2 i j h1 h2 hij
/-- Who puts what is there. -/
theorem getM_put {key v : Bs} : ∀ {l : List MD}, getM l key = some (some v) → ∃ m ∈ l, m.kd = 1 ∧ m.lo = key ∧ m.v = v
  | [], h => by simp [getM] at h
  | m :: r, h => by
    simp only [getM] at h
    rcases e : getM r key with _ | o
    · rw [e] at h
      simp only at h
      split at h
      · rename_i g
        simp only [Option.some.injEq] at h
        split at h
        · rename_i k
          simp only [Option.some.injEq] at h
          have hs : saidR m = (m.lo, m.lo ++ [0], false) := by unfold saidR; rw [if_pos (.inl k)]
          rw [hs, has_one] at g
          exact ⟨m, by simp, k, g.symm, h⟩
        · cases h
      · cases h
    · rw [e] at h
      simp only at h
      rw [h] at e
      obtain ⟨x, hx, k⟩ := getM_put e
      exact ⟨x, by simp [hx], k⟩
end Go.Sx
