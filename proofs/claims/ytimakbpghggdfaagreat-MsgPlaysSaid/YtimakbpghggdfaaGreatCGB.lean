/- How a meaning is made, by the program: from the last message back. -/
import Derived.Test.YtimakbpghggdfaaGreatCGAj
namespace Go.Sx
open Go
/-- The parts of a range that none of some others has. -/
def woR : T3 → List T3 → List T3
  | r, [] => if emR r = true then [] else [r]
  | r, x :: l => if emR (meR r x) = true then woR r l else (if emR (miR r x).1 = true then [] else [(miR r x).1]) ++ woR (miR r x).2 l
theorem sep_low {x : T3} {l : List T3} {key : Bs} (h : SepR (x :: l)) (hk : cmp key x.1 ≤ 0) : ¬ inU l key := by
  rintro ⟨y, hy, hyk⟩
  have h1 := h.above y hy
  have h2 := h.head.2
  rw [emR_iff] at h2
  have h3 := nle fun g => h2 ⟨h1.1, g⟩
  have h4 := (hasB_iff.1 hyk).1
  have h5 := lt_tr (lt_tr h3 (by omega : cmp x.2.1 y.1 ≤ 0)) h4
  have := cmp_anti x.1 key
  omega
theorem mi_low {a b : T3} {key : Bs} (h : hasB (miR a b).1 key = true) (hb : ¬ emR b = true) : cmp key b.1 ≤ 0 := by
  unfold miR at h
  rw [if_neg hb] at h
  have h1 := (has_me.1 h).2
  have h2 := has_lt.1 h1
  omega
theorem wo_in : ∀ {l : List T3} {r : T3} {key : Bs}, SepR l → (inU (woR r l) key ↔ hasB r key = true ∧ ¬ inU l key)
  | [], r, key, _ => by
    unfold woR
    split
    · rename_i h
      exact ⟨fun g => absurd g inU_nil, fun g => absurd g.1 (has_em h)⟩
    · rw [inU_one]
      exact ⟨fun g => ⟨g, inU_nil⟩, fun g => g.1⟩
  | x :: l, r, key, hs => by
    have ih := fun r => wo_in (r := r) (key := key) hs.tail
    have hxn := hs.head.2
    have hcons : inU (x :: l) key ↔ hasB x key = true ∨ inU l key := by simp [inU]
    unfold woR
    split
    · rename_i h
      rw [ih, hcons]
      have : ¬ (hasB r key = true ∧ hasB x key = true) := fun g => has_em h (has_me.2 g)
      exact ⟨fun g => ⟨g.1, fun k => k.elim (fun k => this ⟨g.1, k⟩) g.2⟩, fun g => ⟨g.1, fun k => g.2 (.inr k)⟩⟩
    · rw [inU_app, ih, hcons]
      have hmi := has_mi (a := r) (b := x) (key := key)
      have h1 : inU (if emR (miR r x).1 = true then [] else [(miR r x).1]) key ↔ hasB (miR r x).1 key = true := by
        split
        · rename_i g
          exact ⟨fun k => absurd k inU_nil, fun k => absurd k (has_em g)⟩
        · exact inU_one
      rw [h1]
      constructor
      · rintro (g | g)
        · have k := hmi.1 (.inl g)
          exact ⟨k.1, fun k' => k'.elim k.2 (sep_low hs (mi_low g hxn))⟩
        · have k := hmi.1 (.inr g.1)
          exact ⟨k.1, fun k' => k'.elim k.2 g.2⟩
      · rintro ⟨g1, g2⟩
        have k := hmi.2 ⟨g1, fun k => g2 (.inl k)⟩
        exact k.imp id fun k => ⟨k, fun k' => g2 (.inr k')⟩
/-- A range with ends, in its form or empty. -/
def Fin3 (d : T3) : Prop := d.2.2 = false
theorem fin_fo {d : T3} (h : Fin3 d) : Fin3 (foR d) := by
  unfold Fin3 foR at *
  split
  · rfl
  · split
    · rename_i g; rw [h] at g; cases g
    · exact h
theorem fin_me {a b : T3} (h : Fin3 a) : Fin3 (meR a b) := by
  unfold meR
  split
  · rfl
  · refine fin_fo ?_
    show (if beR b a = true then b.2.2 else a.2.2) = false
    split
    · rename_i g
      exact (beR_iff.1 g).1
    · exact h
theorem fin_mi {a b : T3} (h : Fin3 a) : Fin3 (miR a b).1 ∧ Fin3 (miR a b).2 := by
  unfold miR
  split
  · exact ⟨fin_fo h, rfl⟩
  · refine ⟨fin_me h, ?_⟩
    simp only
    split
    · rfl
    · exact fin_me h
theorem wo_nef : ∀ {l : List T3} {r : T3}, (foR r = r ∨ emR r = true) → Fin3 r → ∀ d ∈ woR r l, Nef d ∧ Fin3 d
  | [], r, hf, hn, d, hd => by
    unfold woR at hd
    split at hd
    · cases hd
    · rename_i h
      rw [List.mem_singleton.1 hd]
      exact ⟨⟨hf.resolve_right h, h⟩, hn⟩
  | x :: l, r, hf, hn, d, hd => by
    unfold woR at hd
    split at hd
    · exact wo_nef hf hn d hd
    · rcases List.mem_append.1 hd with hd | hd
      · split at hd
        · cases hd
        · rename_i h
          rw [List.mem_singleton.1 hd]
          exact ⟨⟨mi_fo1 r x, h⟩, (fin_mi hn).1⟩
      · exact wo_nef (.inl (mi_fo2 r x)) (fin_mi hn).2 d hd
theorem wo_nil {l : List T3} {r : T3} (hs : SepR l) (hf : foR r = r ∨ emR r = true) (hn : Fin3 r) : woR r l = [] ↔ ∀ key, hasB r key = true → inU l key := by
  constructor
  · intro h key hk
    refine Classical.byContradiction fun g => ?_
    have := (wo_in (r := r) (key := key) hs).2 ⟨hk, g⟩
    rw [h] at this
    exact inU_nil this
  · intro h
    rcases hw : woR r l with _ | ⟨d, t⟩
    · rfl
    · have hd := (wo_nef (l := l) hf hn d (by rw [hw]; simp)).1
      have h1 : inU (woR r l) d.1 := ⟨d, by rw [hw]; simp, ne_has hd.2⟩
      have h2 := (wo_in hs).1 h1
      exact absurd (h _ h2.1) h2.2
theorem said_fin (m : MD) : Fin3 (saidR m) := by
  unfold saidR
  split
  · rfl
  · split <;> rfl
theorem said_form (m : MD) : foR (saidR m) = saidR m ∨ emR (saidR m) = true := by
  by_cases h : emR (saidR m) = true
  · exact .inr h
  · refine .inl ?_
    unfold foR
    rw [if_neg h, if_neg (by rw [said_fin m]; decide)]
/-- Of which keys messages say something. -/
theorem getM_none {l : List MD} {key : Bs} : getM l key = none ↔ ¬ ∃ m ∈ l, hasB (saidR m) key = true := by
  induction l with
  | nil => simp [getM]
  | cons m r ih =>
    simp only [getM]
    cases h : getM r key with
    | some o =>
      simp only [reduceCtorEq, false_iff, Decidable.not_not]
      have : ¬ (getM r key = none) := by rw [h]; simp
      rw [ih, Decidable.not_not] at this
      obtain ⟨x, hx, hk⟩ := this
      exact ⟨x, by simp [hx], hk⟩
    | none =>
      have h := ih.1 h
      by_cases g : hasB (saidR m) key = true
      · simp only [g, if_true, reduceCtorEq, false_iff, Decidable.not_not]
        exact ⟨m, by simp, g⟩
      · simp only [g]
        simp only [Bool.false_eq_true, if_false, true_iff]
        rintro ⟨x, hx, hk⟩
        rcases List.mem_cons.1 hx with rfl | hx
        · exact g hk
        · exact h ⟨x, hx, hk⟩
/-- How far it has come: of the messages so far (from the end), what is said; what is gone; what is put. -/
structure MnSt (r : List MD) (over gone : List T3) (puts : List PD) : Prop where
  ov : SepR over
  on : ∀ key, inU over key ↔ getM r key ≠ none
  gn : ∀ key, inU gone key ↔ getM r key = some none
  gf : ∀ d ∈ gone, Nef d ∧ Fin3 d
  pt : ∀ p ∈ puts, p.put = true ∧ p.gn = t30 ∧ getM r p.key = some (some p.v)
  pu : ∀ key v, getM r key = some (some v) → ∃ p ∈ puts, p.key = key ∧ p.v = v
  pd : puts.Pairwise fun a b => a.key ≠ b.key
theorem MnSt.nil : MnSt [] [] [] [] := ⟨trivial, fun key => by simp [inU, getM], fun key => by simp [inU, getM], fun d h => (by cases h), fun p h => (by cases h), fun key v h => (by simp [getM] at h), List.Pairwise.nil⟩
theorem getM_cons {m : MD} {r : List MD} {key : Bs} : getM (m :: r) key = if getM r key = none ∧ hasB (saidR m) key = true then some (if m.kd = 1 then some m.v else none) else getM r key := by
  simp only [getM]
  cases h : getM r key with
  | some o => simp
  | none => by_cases g : hasB (saidR m) key = true <;> simp [g]
/-- A message of which later ones say all. -/
theorem MnSt.skip {r : List MD} {over gone : List T3} {puts : List PD} {m : MD} (h : MnSt r over gone puts) (hw : woR (saidR m) over = []) : MnSt (m :: r) over gone puts := by
  have h1 := (wo_nil h.ov (said_form m) (said_fin m)).1 hw
  have e : ∀ key, getM (m :: r) key = getM r key := fun key => by
    rw [getM_cons, if_neg]
    rintro ⟨g1, g2⟩
    exact (h.on key).1 (h1 key g2) g1
  exact ⟨h.ov, fun key => by rw [e]; exact h.on key, fun key => by rw [e]; exact h.gn key, h.gf, fun p hp => by rw [e]; exact h.pt p hp, fun key v g => h.pu key v (by rw [← e]; exact g), h.pd⟩
theorem over_on {r : List MD} {over c : List T3} {m : MD} (ho : ∀ key, inU over key ↔ getM r key ≠ none) (hc : IsCv (over ++ [saidR m]) c) (key : Bs) : inU c key ↔ getM (m :: r) key ≠ none := by
  rw [hc.2, inU_app, inU_one, ho, getM_cons]
  by_cases h1 : getM r key = none
  · by_cases h2 : hasB (saidR m) key = true <;> simp [h1, h2]
  · simp [h1]
theorem MnSt.put {r : List MD} {over gone c : List T3} {puts : List PD} {m : MD} (h : MnSt r over gone puts) (hw : woR (saidR m) over ≠ []) (hk : m.kd = 1) (hc : IsCv (over ++ [saidR m]) c) : MnSt (m :: r) c gone (puts ++ [⟨true, m.lo, m.v, t30⟩]) := by
  have hsd : saidR m = (m.lo, m.lo ++ [0], false) := by unfold saidR; rw [if_pos (.inl hk)]
  have hlo : getM r m.lo = none := by
    refine Classical.byContradiction fun g => hw ((wo_nil h.ov (said_form m) (said_fin m)).2 fun key hkey => ?_)
    rw [hsd, has_one] at hkey
    rw [hkey]; exact (h.on _).2 g
  have e : ∀ key, getM (m :: r) key = if key = m.lo then some (some m.v) else getM r key := fun key => by
    rw [getM_cons, hsd]
    by_cases g : key = m.lo
    · subst g
      rw [if_pos ⟨hlo, has_one.2 rfl⟩, if_pos rfl, if_pos hk]
    · rw [if_neg (fun k => g (has_one.1 k.2)), if_neg g]
  refine ⟨hc.1, over_on h.on hc, fun key => ?_, h.gf, fun p hp => ?_, fun key v g => ?_, ?_⟩
  · rw [h.gn, e]
    split
    · rename_i g; rw [g, hlo]; simp
    · exact Iff.rfl
  · rcases List.mem_append.1 hp with hp | hp
    · obtain ⟨g1, g2, g3⟩ := h.pt p hp
      refine ⟨g1, g2, ?_⟩
      rw [e, if_neg (fun g => by rw [g, hlo] at g3; cases g3)]
      exact g3
    · rw [List.mem_singleton.1 hp]
      exact ⟨rfl, rfl, by rw [e, if_pos rfl]⟩
  · rw [e] at g
    split at g
    · rename_i g1
      simp only [Option.some.injEq] at g
      exact ⟨⟨true, m.lo, m.v, t30⟩, by simp, g1.symm, g⟩
    · obtain ⟨p, hp, k⟩ := h.pu key v g
      exact ⟨p, List.mem_append_left _ hp, k⟩
  · refine List.pairwise_append.2 ⟨h.pd, by simp, fun a ha b hb => ?_⟩
    rw [List.mem_singleton.1 hb]
    intro g
    have := (h.pt a ha).2.2
    rw [g, hlo] at this
    cases this
theorem MnSt.gone {r : List MD} {over gone c : List T3} {puts : List PD} {m : MD} (h : MnSt r over gone puts) (hk : m.kd ≠ 1) (hc : IsCv (over ++ [saidR m]) c) : MnSt (m :: r) c (gone ++ woR (saidR m) over) puts := by
  have e : ∀ key, getM (m :: r) key = if getM r key = none ∧ hasB (saidR m) key = true then some none else getM r key := fun key => by rw [getM_cons, if_neg hk]
  refine ⟨hc.1, over_on h.on hc, fun key => ?_, fun d hd => ?_, fun p hp => ?_, fun key v g => ?_, h.pd⟩
  · rw [inU_app, h.gn, wo_in h.ov, h.on, e]
    by_cases h1 : getM r key = none
    · by_cases h2 : hasB (saidR m) key = true <;> simp [h1, h2]
    · simp [h1]
  · rcases List.mem_append.1 hd with hd | hd
    · exact h.gf d hd
    · exact wo_nef (said_form m) (said_fin m) d hd
  · obtain ⟨g1, g2, g3⟩ := h.pt p hp
    refine ⟨g1, g2, ?_⟩
    rw [e, if_neg (fun g => by rw [g.1] at g3; cases g3)]
    exact g3
  · rw [e] at g
    split at g
    · cases g
    · exact h.pu key v g
/-- A range that is gone, as a piece. -/
abbrev gpP (d : T3) : PD := ⟨false, [], [], d⟩
theorem cv_fin {l c : List T3} (hc : IsCv l c) (hl : ∀ d ∈ l, Fin3 d) : ∀ d ∈ c, Fin3 d := by
  have top : ∀ (l : List T3) (k : Bs), ∃ t, cmp k t ≤ 0 ∧ ∀ d ∈ l, cmp d.2.1 t ≤ 0 := by
    intro l
    induction l with
    | nil => exact fun k => ⟨k, by rw [cmp_self]; omega, fun d h => by cases h⟩
    | cons d l ih =>
      intro k
      obtain ⟨t, h1, h2⟩ := ih k
      by_cases g : cmp d.2.1 t ≤ 0
      · exact ⟨t, h1, fun x hx => by rcases List.mem_cons.1 hx with rfl | hx; exact g; exact h2 x hx⟩
      · have g := nle g
        refine ⟨d.2.1, le_tr h1 (by omega), fun x hx => ?_⟩
        rcases List.mem_cons.1 hx with rfl | hx
        · rw [cmp_self]; omega
        · exact le_tr (h2 x hx) (by omega)
  intro d hd
  unfold Fin3
  cases g : d.2.2
  · rfl
  · obtain ⟨t, h1, h2⟩ := top l d.1
    obtain ⟨x, hx, hk⟩ := (hc.2 t).1 ⟨d, hd, hasB_iff.2 ⟨h1, .inl g⟩⟩
    have h3 := (hasB_iff.1 hk).2.resolve_left (by rw [hl x hx]; decide)
    have := h2 x hx
    have := cmp_anti x.2.1 t
    omega
/-- Put into the order of where they begin, they are a meaning. -/
theorem mean_of {l : List MD} {over gone c : List T3} {puts srt : List PD} (h : MnSt l over gone puts) (hc : IsCv gone c) (hp : (puts ++ c.map gpP).Perm srt) (hs : srt.Pairwise fun a b => cmp (atP a) (atP b) ≤ 0) : IsMean l srt := by
  have hfin := cv_fin hc fun d hd => (h.gf d hd).2
  have hsep := sepR_iff.1 hc.1
  have hok : ∀ p ∈ puts ++ c.map gpP, okP p := fun p hp => by
    rcases List.mem_append.1 hp with hp | hp
    · obtain ⟨g1, g2, _⟩ := h.pt p hp
      unfold okP; rw [if_pos g1]; exact g2
    · obtain ⟨d, hd, rfl⟩ := List.mem_map.1 hp
      unfold okP
      rw [if_neg (by simp)]
      exact ⟨rfl, rfl, hsep.1 d hd, hfin d hd⟩
  have hsay : ∀ p ∈ puts ++ c.map gpP, ∀ key o, spP p key = some o → getM l key = some o := fun p hp key o hs => by
    rcases List.mem_append.1 hp with hp | hp
    · obtain ⟨g1, g2, g3⟩ := h.pt p hp
      unfold spP at hs
      rw [if_pos g1] at hs
      split at hs
      · rename_i g; rw [← g, g3]; exact hs
      · cases hs
    · obtain ⟨d, hd, rfl⟩ := List.mem_map.1 hp
      unfold spP at hs
      rw [if_neg (by simp)] at hs
      split at hs
      · rename_i g
        cases hs
        exact (h.gn key).1 ((hc.2 key).1 ⟨d, hd, g⟩)
      · cases hs
  refine ⟨⟨fun p hp' => hok p (hp.mem_iff.2 hp'), ?_⟩, fun key o => ⟨?_, fun g => ?_⟩⟩
  · -- any two are apart
    have sym : ∀ {a b : PD}, ((a.put = true ∧ b.put = true ∧ a.key ≠ b.key) ∨ (a.put = true ∧ b.put = false ∧ ∀ o, spP b a.key ≠ some o) ∨ (a.put = false ∧ b.put = true ∧ ∀ o, spP a b.key ≠ some o) ∨ (a.put = false ∧ b.put = false ∧ (cmp a.gn.2.1 b.gn.1 < 0 ∨ cmp b.gn.2.1 a.gn.1 < 0))) → ((b.put = true ∧ a.put = true ∧ b.key ≠ a.key) ∨ (b.put = true ∧ a.put = false ∧ ∀ o, spP a b.key ≠ some o) ∨ (b.put = false ∧ a.put = true ∧ ∀ o, spP b a.key ≠ some o) ∨ (b.put = false ∧ a.put = false ∧ (cmp b.gn.2.1 a.gn.1 < 0 ∨ cmp a.gn.2.1 b.gn.1 < 0))) := by
      rintro a b (⟨g1, g2, g3⟩ | ⟨g1, g2, g3⟩ | ⟨g1, g2, g3⟩ | ⟨g1, g2, g3⟩)
      · exact .inl ⟨g2, g1, fun e => g3 e.symm⟩
      · exact .inr (.inr (.inl ⟨g2, g1, g3⟩))
      · exact .inr (.inl ⟨g2, g1, g3⟩)
      · exact .inr (.inr (.inr ⟨g2, g1, g3.symm⟩))
    have hap : (puts ++ c.map gpP).Pairwise fun a b => (a.put = true ∧ b.put = true ∧ a.key ≠ b.key) ∨ (a.put = true ∧ b.put = false ∧ ∀ o, spP b a.key ≠ some o) ∨ (a.put = false ∧ b.put = true ∧ ∀ o, spP a b.key ≠ some o) ∨ (a.put = false ∧ b.put = false ∧ (cmp a.gn.2.1 b.gn.1 < 0 ∨ cmp b.gn.2.1 a.gn.1 < 0)) := by
      refine List.pairwise_append.2 ⟨?_, ?_, ?_⟩
      · exact List.Pairwise.imp_of_mem (fun ha hb g => .inl ⟨(h.pt _ ha).1, (h.pt _ hb).1, g⟩) h.pd
      · refine List.pairwise_map.2 (List.Pairwise.imp (fun g => ?_) hsep.2)
        exact .inr (.inr (.inr ⟨rfl, rfl, .inl g.2⟩))
      · intro a ha b hb
        obtain ⟨d, hd, rfl⟩ := List.mem_map.1 hb
        refine .inr (.inl ⟨(h.pt a ha).1, rfl, fun o g => ?_⟩)
        have g1 := hsay _ (List.mem_append_right _ hb) _ _ g
        rw [(h.pt a ha).2.2] at g1
        unfold spP at g
        rw [if_neg (by simp)] at g
        split at g
        · cases g; cases g1
        · cases g
    have hap2 := hap.perm hp (fun g => sym g)
    refine List.Pairwise.imp_of_mem ?_ (hap2.and hs)
    rintro a b ha hb ⟨g, hle⟩
    have oa := hok a (hp.mem_iff.2 ha)
    have ob := hok b (hp.mem_iff.2 hb)
    have eb := at_end ob
    unfold stepP
    rcases g with ⟨g1, g2, g3⟩ | ⟨g1, g2, g3⟩ | ⟨g1, g2, g3⟩ | ⟨g1, g2, g3⟩
    · refine ⟨?_, fun k => by rw [g1] at k; cases k⟩
      unfold atP at hle
      unfold endP atP
      rw [if_pos g1, if_pos g2] at hle ⊢
      have h1 : cmp a.key b.key < 0 := by
        have : ¬ cmp a.key b.key = 0 := fun e => g3 ((cmp_eq a.key b.key).1 e)
        omega
      have h2 := near_next _ _ h1
      have := cmp_anti b.key (a.key ++ [0])
      omega
    · refine ⟨?_, fun k => by rw [g1] at k; cases k⟩
      obtain ⟨o, ho⟩ := sp_at ob
      have h3 : a.key ≠ atP b := fun e => g3 o (by rw [e]; exact ho)
      unfold atP at hle h3
      unfold endP atP
      rw [if_pos g1, if_neg (by simp [g2])] at hle
      rw [if_neg (by simp [g2])] at h3
      rw [if_pos g1, if_neg (by simp [g2])]
      have h1 : cmp a.key b.gn.1 < 0 := by
        have : ¬ cmp a.key b.gn.1 = 0 := fun e => h3 ((cmp_eq a.key b.gn.1).1 e)
        omega
      have h2 := near_next _ _ h1
      have := cmp_anti b.gn.1 (a.key ++ [0])
      omega
    · refine ⟨?_, fun _ k => by rw [g2] at k; cases k⟩
      unfold atP at hle
      unfold endP atP
      rw [if_neg (by simp [g1]), if_pos g2] at hle ⊢
      refine nlt fun k => g3 none ?_
      unfold okP at oa
      rw [if_neg (by simp [g1])] at oa
      unfold spP
      rw [if_neg (by simp [g1]), if_pos]
      exact hasB_iff.2 ⟨hle, .inr k⟩
    · unfold atP at hle
      unfold endP atP
      unfold atP endP at eb
      rw [if_neg (by simp [g1]), if_neg (by simp [g2])] at hle
      rw [if_neg (by simp [g2]), if_neg (by simp [g2])] at eb
      rw [if_neg (by simp [g1]), if_neg (by simp [g2])]
      have h1 : cmp a.gn.2.1 b.gn.1 < 0 := by
        rcases g3 with g3 | g3
        · exact g3
        · have h4 := lt_tr (lt_tr eb (by omega : cmp b.gn.2.1 a.gn.1 ≤ 0)) hle
          rw [cmp_self] at h4
          omega
      exact ⟨by omega, fun _ _ => h1⟩
  · rintro ⟨p, hp', hs'⟩
    exact hsay p (hp.mem_iff.2 hp') key o hs'
  · cases o with
    | none =>
      obtain ⟨d, hd, hk⟩ := (hc.2 key).2 ((h.gn key).2 g)
      refine ⟨gpP d, hp.mem_iff.1 (List.mem_append_right _ (List.mem_map.2 ⟨d, hd, rfl⟩)), ?_⟩
      unfold spP
      rw [if_neg (by simp), if_pos hk]
    | some v =>
      obtain ⟨p, hp', k1, k2⟩ := h.pu key v g
      refine ⟨p, hp.mem_iff.1 (List.mem_append_left _ hp'), ?_⟩
      unfold spP
      rw [if_pos (h.pt p hp').1, if_pos k1, k2]
end Go.Sx

