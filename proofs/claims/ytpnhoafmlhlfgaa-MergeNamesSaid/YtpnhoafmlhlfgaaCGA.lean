/- What messages mean, in plain words: pieces; what they say of a key; there is but one list of pieces that says it. -/
import Derived.Test.YtpnhoafmlhlfgaaCW1
import Derived.Test.YtpnhoafmlhlfgaaCQC
import Derived.Test.YtpnhoafmlhlfgaaCQA
namespace Go.Sx
open Go
/-- A piece: a key with its value, or a range that is gone. -/
structure PD where
  put : Bool
  key : Bs
  v : Bs
  gn : T3
deriving DecidableEq
def atP (p : PD) : Bs := if p.put = true then p.key else p.gn.1
def endP (p : PD) : Bs := if p.put = true then p.key ++ [0] else p.gn.2.1
def okP (p : PD) : Prop := if p.put = true then p.gn = t30 else p.key = [] ∧ p.v = [] ∧ Nef p.gn ∧ p.gn.2.2 = false
def spP (p : PD) (key : Bs) : Option (Option Bs) := if p.put = true then (if p.key = key then some (some p.v) else none) else if hasB p.gn key = true then some none else none
def PIn (ps : List PD) (key : Bs) (o : Option Bs) : Prop := ∃ p ∈ ps, spP p key = some o
/-- What messages make of a key: the last one that says something of it. -/
def getM : List MD → Bs → Option (Option Bs)
  | [], _ => none
  | m :: r, key => match getM r key with
    | some o => some o
    | none => if hasB (saidR m) key = true then some (if m.kd = 1 then some m.v else none) else none
def stepP (a b : PD) : Prop := cmp (endP a) (atP b) ≤ 0 ∧ (a.put = false → b.put = false → cmp (endP a) (atP b) < 0)
def WfP (ps : List PD) : Prop := (∀ p ∈ ps, okP p) ∧ ps.Pairwise stepP
def IsMean (l : List MD) (ps : List PD) : Prop := WfP ps ∧ ∀ key o, PIn ps key o ↔ getM l key = some o
theorem has_one {k key : Bs} : hasB (k, k ++ [0], false) key = true ↔ key = k := by
  rw [hasB_iff]
  constructor
  · rintro ⟨h1, h2⟩
    have h2 := h2.resolve_left (by simp)
    have h1 : cmp k key ≤ 0 := h1
    have h2 : cmp key (k ++ [0]) < 0 := h2
    rcases Int.lt_or_eq_of_le h1 with h | h
    · have := near_next k key h
      omega
    · exact ((cmp_eq _ _).1 h).symm
  · rintro rfl
    exact ⟨by show cmp key key ≤ 0; rw [cmp_self]; omega, .inr (by show cmp key (key ++ [0]) < 0; rw [cmp_next]; decide)⟩
theorem at_end {p : PD} (h : okP p) : cmp (atP p) (endP p) < 0 := by
  unfold okP at h
  unfold atP endP
  split
  · rw [cmp_next]; decide
  · rename_i hp
    rw [if_neg hp] at h
    obtain ⟨_, _, hn, hf⟩ := h
    have := hn.2
    rw [emR_iff] at this
    exact nle fun g => this ⟨hf, g⟩
/-- A piece says something of where it begins. -/
theorem sp_at {p : PD} (h : okP p) : ∃ o, spP p (atP p) = some o := by
  have he := at_end h
  unfold okP at h
  unfold spP atP endP at *
  split
  · exact ⟨_, if_pos rfl⟩
  · rename_i hp
    simp only [hp] at h he
    refine ⟨none, if_pos ?_⟩
    exact hasB_iff.2 ⟨by rw [cmp_self]; omega, .inr (by simpa using he)⟩
/-- What a piece says lies between its ends. -/
theorem sp_in {p : PD} {key : Bs} {o : Option Bs} (h : okP p) (hs : spP p key = some o) : cmp (atP p) key ≤ 0 ∧ cmp key (endP p) < 0 := by
  unfold okP at h
  unfold spP at hs
  unfold atP endP
  split
  · rename_i hp
    rw [if_pos hp] at hs
    split at hs
    · rename_i hk
      subst hk
      rw [cmp_self, cmp_next]
      omega
    · cases hs
  · rename_i hp
    rw [if_neg hp] at hs h
    split at hs
    · rename_i hk
      have := hasB_iff.1 hk
      rw [h.2.2.2] at this
      exact ⟨this.1, this.2.resolve_left (by decide)⟩
    · cases hs
theorem rise_at {a b : PD} (ha : okP a) (h : stepP a b) : cmp (atP a) (atP b) < 0 := lt_tr (at_end ha) h.1
theorem eq_of_rise {α : Type} {lt : α → α → Prop} (has : ∀ a b, lt a b → ¬ lt b a) : ∀ {l m : List α}, l.Pairwise lt → m.Pairwise lt → (∀ x, x ∈ l ↔ x ∈ m) → l = m
  | [], [], _, _, _ => rfl
  | [], b :: m, _, _, h => by have := (h b).2 (by simp); simp at this
  | a :: l, [], _, _, h => by have := (h a).1 (by simp); simp at this
  | a :: l, b :: m, hl, hm, h => by
    obtain ⟨ha, hl'⟩ := List.pairwise_cons.1 hl
    obtain ⟨hb, hm'⟩ := List.pairwise_cons.1 hm
    have e : a = b := by
      rcases List.mem_cons.1 ((h a).1 (by simp)) with e | h1
      · exact e
      rcases List.mem_cons.1 ((h b).2 (by simp)) with e | h2
      · exact e.symm
      · exact absurd (hb a h1) (has _ _ (ha b h2))
    subst e
    rw [eq_of_rise has hl' hm' fun x => ?_]
    constructor
    · intro hx
      rcases List.mem_cons.1 ((h x).1 (by simp [hx])) with e | h1
      · subst e; exact absurd (ha x hx) (fun g => has _ _ g g)
      · exact h1
    · intro hx
      rcases List.mem_cons.1 ((h x).2 (by simp [hx])) with e | h1
      · subst e; exact absurd (hb x hx) (fun g => has _ _ g g)
      · exact h1
/-- The ranges that are gone. -/
def goneP (ps : List PD) : List T3 := (ps.filter fun p => !p.put).map PD.gn
theorem gone_sep {ps : List PD} (h : WfP ps) : SepR (goneP ps) := by
  refine sepR_iff.2 ⟨fun a ha => ?_, ?_⟩
  · obtain ⟨p, hp, e⟩ := List.mem_map.1 ha
    obtain ⟨h1, h2⟩ := List.mem_filter.1 hp
    have := h.1 p h1
    unfold okP at this
    rw [if_neg (by simpa using h2)] at this
    rw [← e]; exact this.2.2.1
  · refine List.pairwise_map.2 ?_
    refine List.Pairwise.imp_of_mem ?_ (h.2.filter _)
    intro a b ha hb hs
    obtain ⟨a1, a2⟩ := List.mem_filter.1 ha
    obtain ⟨b1, b2⟩ := List.mem_filter.1 hb
    have ha2 : a.put = false := by simpa using a2
    have hb2 : b.put = false := by simpa using b2
    have oa := h.1 a a1
    unfold okP at oa
    rw [if_neg (by simp [ha2])] at oa
    have := hs.2 ha2 hb2
    unfold endP atP at this
    rw [if_neg (by simp [ha2]), if_neg (by simp [hb2])] at this
    exact ⟨oa.2.2.2, this⟩
theorem gone_in {ps : List PD} {key : Bs} : inU (goneP ps) key ↔ PIn ps key none := by
  constructor
  · rintro ⟨r, hr, hk⟩
    obtain ⟨p, hp, e⟩ := List.mem_map.1 hr
    obtain ⟨h1, h2⟩ := List.mem_filter.1 hp
    refine ⟨p, h1, ?_⟩
    unfold spP
    rw [if_neg (by simpa using h2), if_pos (by rw [e]; exact hk)]
  · rintro ⟨p, hp, hs⟩
    unfold spP at hs
    split at hs
    · split at hs <;> cases hs
    · rename_i h2
      split at hs
      · rename_i hk
        exact ⟨p.gn, List.mem_map.2 ⟨p, List.mem_filter.2 ⟨hp, by simpa using h2⟩, rfl⟩, hk⟩
      · cases hs
theorem wf_mem {ps qs : List PD} (h1 : WfP ps) (h2 : WfP qs) (h : ∀ key o, PIn ps key o ↔ PIn qs key o) {p : PD} (hp : p ∈ ps) : p ∈ qs := by
  have op := h1.1 p hp
  cases hput : p.put
  · have e := sep_uniq (gone_sep h1) (gone_sep h2) fun key => by rw [gone_in, gone_in]; exact h key none
    have m : p.gn ∈ goneP ps := List.mem_map.2 ⟨p, List.mem_filter.2 ⟨hp, by simp [hput]⟩, rfl⟩
    rw [e] at m
    obtain ⟨q, hq, eq⟩ := List.mem_map.1 m
    obtain ⟨q1, q2⟩ := List.mem_filter.1 hq
    have oq := h2.1 q q1
    unfold okP at op oq
    have q3 : q.put = false := by simpa using q2
    rw [if_neg (by simp [hput])] at op
    rw [if_neg (by simp [q3])] at oq
    have : q = p := by
      obtain ⟨a, b, c, d⟩ := q
      obtain ⟨a', b', c', d'⟩ := p
      simp only at hput q3 op oq eq
      rw [hput, q3, op.1, op.2.1, oq.1, oq.2.1, eq]
    rw [← this]; exact q1
  · have hs : spP p p.key = some (some p.v) := by unfold spP; rw [if_pos hput, if_pos rfl]
    obtain ⟨q, hq, hqs⟩ := (h _ _).1 ⟨p, hp, hs⟩
    have oq := h2.1 q hq
    unfold okP at op oq
    unfold spP at hqs
    split at hqs
    · rename_i q3
      split at hqs
      · rename_i hk
        rw [if_pos hput] at op
        rw [if_pos q3] at oq
        have : q = p := by
          obtain ⟨a, b, c, d⟩ := q
          obtain ⟨a', b', c', d'⟩ := p
          simp only at hput q3 op oq hk hqs
          simp only [Option.some.injEq] at hqs
          rw [hput, q3, op, oq, hk, hqs]
        rw [← this]; exact hq
      · cases hqs
    · split at hqs <;> cases hqs
theorem WfP.uniq {ps qs : List PD} (h1 : WfP ps) (h2 : WfP qs) (h : ∀ key o, PIn ps key o ↔ PIn qs key o) : ps = qs := by
  have rise : ∀ {l : List PD}, WfP l → l.Pairwise fun a b => cmp (atP a) (atP b) < 0 := fun hl => List.Pairwise.imp_of_mem (fun ha _ hs => rise_at (hl.1 _ ha) hs) hl.2
  refine eq_of_rise (fun a b g1 g2 => ?_) (rise h1) (rise h2) fun x => ⟨wf_mem h1 h2 h, wf_mem h2 h1 fun k o => (h k o).symm⟩
  have := cmp_anti (atP a) (atP b)
  omega
/-- There is one meaning. -/
theorem IsMean.uniq {l m : List MD} {ps qs : List PD} (h1 : IsMean l ps) (h2 : IsMean m qs) (h : ∀ key, getM l key = getM m key) : ps = qs :=
  WfP.uniq h1.1 h2.1 fun key o => by rw [h1.2, h2.2, h]
theorem getM_app (a b : List MD) (key : Bs) : getM (a ++ b) key = match getM b key with
    | some o => some o
    | none => getM a key := by
  induction a with
  | nil => simp only [List.nil_append, getM]; cases getM b key <;> rfl
  | cons m r ih =>
    simp only [List.cons_append, getM, ih]
    cases getM b key <;> rfl
end Go.Sx
