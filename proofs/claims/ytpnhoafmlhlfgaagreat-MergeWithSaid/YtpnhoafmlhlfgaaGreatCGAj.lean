/- Part of a proof: several parts of a walk, one behind the other. -/
import Derived.Test.YtpnhoafmlhlfgaaGreatCKA
import Derived.Test.YtpnhoafmlhlfgaaGreatCQCj
namespace Go.Sx
open Go
theorem common_anti : ∀ (x y : Bs), common y x = common x y
  | [], [] => rfl
  | [], _ :: _ => rfl
  | _ :: _, [] => rfl
  | a :: x, b :: y => by
    by_cases h : a = b
    · subst h; simp [common, common_anti x y]
    · have h' : ¬ b = a := fun e => h e.symm
      simp [common, h, h']
theorem common_take : ∀ (x y : Bs), x.take (common x y) = y.take (common x y)
  | [], _ => by simp [common]
  | _ :: _, [] => by simp [common]
  | a :: x, b :: y => by
    by_cases h : a = b
    · subst h; simp [common, common_take x y]
    · simp [common, h]
theorem common_ne : ∀ (x y : Bs), common x y < x.length → common x y < y.length → x.getD (common x y) 0 ≠ y.getD (common x y) 0
  | [], _, h, _ => by simp [common] at h
  | _ :: _, [], _, h => by simp [common] at h
  | a :: x, b :: y, h1, h2 => by
    by_cases h : a = b
    · subst h
      simp only [common, if_true, List.length_cons, List.getD_cons_succ] at *
      exact common_ne x y (by omega) (by omega)
    · simp only [common, if_neg h, List.getD_cons_zero]
      exact h
/-- Compare, where one is the other's beginning. -/
theorem cmp_beg {x y : Bs} (h : common x y = x.length ∨ common x y = y.length) : (cmp x y < 0 ↔ x.length < y.length) ∧ (cmp x y = 0 ↔ x.length = y.length) := by
  have h1 := cmp_common x y
  have h2 := common_le x y
  by_cases e1 : common x y = x.length <;> by_cases e2 : common x y = y.length
  · rw [if_pos ⟨e1, e2⟩] at h1; omega
  · rw [if_neg (fun g => e2 g.2), if_pos e1] at h1; omega
  · rw [if_neg (fun g => e1 g.1), if_neg e1, if_pos (.inl e2)] at h1; omega
  · exact absurd h (by rintro (g | g) <;> contradiction)
/-- Compare, where they part. -/
theorem cmp_part {x y : Bs} (h1 : common x y ≠ x.length) (h2 : common x y ≠ y.length) : (cmp x y < 0 ↔ x.getD (common x y) 0 < y.getD (common x y) 0) := by
  have h3 := common_le x y
  have hn := common_ne x y (by omega) (by omega)
  rw [cmp_common, if_neg (fun g => h1 g.1), if_neg h1]
  have hu : ∀ a b : UInt8, a ≠ b → (¬ b < a ↔ a < b) := fun a b e => by
    have : a.toNat ≠ b.toNat := fun g => e (UInt8.toNat_inj.1 g)
    simp only [UInt8.lt_iff_toNat_lt]
    omega
  by_cases hc : y.getD (common x y) 0 < x.getD (common x y) 0
  · rw [if_pos (.inr hc)]
    have := fun h => (hu _ _ hn).2 h hc
    constructor
    · intro g; omega
    · intro g; exact absurd g this
  · rw [if_neg (by rintro (g | g); exact h2 g; exact hc g)]
    exact ⟨fun _ => (hu _ _ hn).1 hc, fun _ => by omega⟩
/-- Nothing is between a key and the one with a nought behind it. -/
theorem cmp_next : ∀ (a : Bs), cmp a (a ++ [0]) = -1
  | [] => rfl
  | x :: a => by simp [cmp, cmp_next a]
theorem near_next : ∀ (a c : Bs), cmp a c < 0 → 0 ≤ cmp c (a ++ [0])
  | [], [], h => by simp [cmp] at h
  | [], z :: c, _ => by
    show 0 ≤ cmp (z :: c) [0]
    by_cases e : z = 0
    · subst e
      cases c <;> simp [cmp]
    · have h0 : (0 : UInt8) < z := by
        have : z.toNat ≠ 0 := fun g => e (UInt8.toNat_inj.1 (by simpa using g))
        simp only [UInt8.lt_iff_toNat_lt]
        show (0 : Nat) < _
        omega
      simp [cmp, e, h0]
  | x :: a, [], h => by simp [cmp] at h
  | x :: a, z :: c, h => by
    show 0 ≤ cmp (z :: c) (x :: (a ++ [0]))
    by_cases e : x = z
    · subst e
      simp only [cmp, if_true] at h ⊢
      exact near_next a c h
    · have e' : ¬ z = x := fun g => e g.symm
      simp only [cmp, if_neg e, if_neg e'] at h ⊢
      split at h
      · omega
      · rename_i g
        rw [if_pos (by
          have : x.toNat ≠ z.toNat := fun g => e (UInt8.toNat_inj.1 g)
          simp only [UInt8.lt_iff_toNat_lt] at *
          omega)]
        decide
/-- What is between two keys. -/
def btw (a b : Bs) : Bs := b.take (common a b + 1)
theorem btw_len : ∀ {a b : Bs}, cmp a b < 0 → common a b + 1 ≤ b.length
  | [], [], h => by simp [cmp] at h
  | [], _ :: _, _ => by simp [common]
  | _ :: _, [], h => by simp [cmp] at h
  | x :: a, y :: b, h => by
    by_cases e : x = y
    · subst e
      simp only [cmp, common, if_true, List.length_cons] at *
      have := btw_len h
      omega
    · simp [common, e]
theorem btw_above : ∀ {a b : Bs}, cmp a b < 0 → cmp a (btw a b) < 0
  | [], [], h => by simp [cmp] at h
  | [], y :: b, _ => by simp [btw, common, cmp]
  | _ :: _, [], h => by simp [cmp] at h
  | x :: a, y :: b, h => by
    by_cases e : x = y
    · subst e
      have := btw_above (a := a) (b := b) (by simpa [cmp] using h)
      simpa [btw, common, cmp] using this
    · simp only [cmp, if_neg e] at h
      simp only [btw, common, if_neg e, Nat.zero_add, List.take_succ_cons, List.take_zero, cmp]
      exact h
theorem take_le : ∀ (k : Nat) (b : Bs), cmp (b.take k) b ≤ 0
  | 0, [] => by simp [cmp]
  | 0, _ :: _ => by simp [cmp]
  | _ + 1, [] => by simp [cmp]
  | k + 1, x :: b => by simpa [cmp] using take_le k b
theorem btw_short : ∀ {a b c : Bs}, cmp a b < 0 → cmp a c < 0 → cmp c b ≤ 0 → common a b + 1 ≤ c.length
  | [], b, [], _, h, _ => by simp [cmp] at h
  | [], b, z :: c, _, _, _ => by simp [common]
  | x :: a, [], c, h, _, _ => by simp [cmp] at h
  | x :: a, y :: b, [], _, h, _ => by simp [cmp] at h
  | x :: a, y :: b, z :: c, h1, h2, h3 => by
    by_cases e : x = y
    · subst e
      by_cases e2 : x = z
      · subst e2
        simp only [cmp, common, if_true, List.length_cons] at *
        have := btw_short h1 h2 h3
        omega
      · exfalso
        have e2' : ¬ z = x := fun g => e2 g.symm
        simp only [cmp, if_neg e2, if_neg e2'] at h2 h3
        split at h2
        · omega
        · split at h3
          · omega
          · have : x.toNat ≠ z.toNat := fun g => e2 (UInt8.toNat_inj.1 g)
            simp only [UInt8.lt_iff_toNat_lt] at *
            omega
    · simp [common, e]
theorem btw_ahead : ∀ (a b : Bs), cmp (b.take (common a b)) a ≤ 0 := fun a b => by
  rw [← common_take a b]
  exact take_le _ _
theorem cmp_zero_iff {a b : Bs} : cmp a b = 0 ↔ a = b := cmp_eq a b
end Go.Sx
namespace Go.Sx
open Go
/-- A piece: a key with its value, or a range that is gone. -/
structure PD where
  put : Bool
  key : Bs
  v : Bs
  gn : T3
deriving DecidableEq
def atP (p : PD) : Bs := if p.put = true then p.key else p.gn.1
def endP (p : PD) : Bs := if p.put = true then p.key ++ [0] else p.gn.2.1
def okP (p : PD) : Prop := if p.put = true then p.gn = t30 else p.key = [] ∧ p.v = [] ∧ Nef p.gn ∧ p.gn.2.2 = false
def spP (p : PD) (key : Bs) : Option (Option Bs) := if p.put = true then (if p.key = key then some (some p.v) else none) else if hasB p.gn key = true then some none else none
def PIn (ps : List PD) (key : Bs) (o : Option Bs) : Prop := ∃ p ∈ ps, spP p key = some o
/-- What messages make of a key: the last one that says something of it. -/
def getM : List MD → Bs → Option (Option Bs)
  | [], _ => none
  | m :: r, key => match getM r key with
    | some o => some o
    | none => if hasB (saidR m) key = true then some (if m.kd = 1 then some m.v else none) else none
def stepP (a b : PD) : Prop := cmp (endP a) (atP b) ≤ 0 ∧ (a.put = false → b.put = false → cmp (endP a) (atP b) < 0)
def WfP (ps : List PD) : Prop := (∀ p ∈ ps, okP p) ∧ ps.Pairwise stepP
def IsMean (l : List MD) (ps : List PD) : Prop := WfP ps ∧ ∀ key o, PIn ps key o ↔ getM l key = some o
theorem has_one {k key : Bs} : hasB (k, k ++ [0], false) key = true ↔ key = k := by
  rw [hasB_iff]
  constructor
  · rintro ⟨h1, h2⟩
    have h2 := h2.resolve_left (by simp)
    have h1 : cmp k key ≤ 0 := h1
    have h2 : cmp key (k ++ [0]) < 0 := h2
    rcases Int.lt_or_eq_of_le h1 with h | h
    · have := near_next k key h
      omega
    · exact ((cmp_eq _ _).1 h).symm
  · rintro rfl
    exact ⟨by show cmp key key ≤ 0; rw [cmp_self]; omega, .inr (by show cmp key (key ++ [0]) < 0; rw [cmp_next]; decide)⟩
theorem at_end {p : PD} (h : okP p) : cmp (atP p) (endP p) < 0 := by
  unfold okP at h
  unfold atP endP
  split
  · rw [cmp_next]; decide
  · rename_i hp
    rw [if_neg hp] at h
    obtain ⟨_, _, hn, hf⟩ := h
    have := hn.2
    rw [emR_iff] at this
    exact nle fun g => this ⟨hf, g⟩
/-- A piece says something of where it begins. -/
theorem sp_at {p : PD} (h : okP p) : ∃ o, spP p (atP p) = some o := by
  have he := at_end h
  unfold okP at h
  unfold spP atP endP at *
  split
  · exact ⟨_, if_pos rfl⟩
  · rename_i hp
    simp only [hp] at h he
    refine ⟨none, if_pos ?_⟩
    exact hasB_iff.2 ⟨by rw [cmp_self]; omega, .inr (by simpa using he)⟩
/-- What a piece says lies between its ends. -/
theorem sp_in {p : PD} {key : Bs} {o : Option Bs} (h : okP p) (hs : spP p key = some o) : cmp (atP p) key ≤ 0 ∧ cmp key (endP p) < 0 := by
  unfold okP at h
  unfold spP at hs
  unfold atP endP
  split
  · rename_i hp
    rw [if_pos hp] at hs
    split at hs
    · rename_i hk
      subst hk
      rw [cmp_self, cmp_next]
      omega
    · cases hs
  · rename_i hp
    rw [if_neg hp] at hs h
    split at hs
    · rename_i hk
      have := hasB_iff.1 hk
      rw [h.2.2.2] at this
      exact ⟨this.1, this.2.resolve_left (by decide)⟩
    · cases hs
theorem rise_at {a b : PD} (ha : okP a) (h : stepP a b) : cmp (atP a) (atP b) < 0 := lt_tr (at_end ha) h.1
theorem eq_of_rise {α : Type} {lt : α → α → Prop} (has : ∀ a b, lt a b → ¬ lt b a) : ∀ {l m : List α}, l.Pairwise lt → m.Pairwise lt → (∀ x, x ∈ l ↔ x ∈ m) → l = m
  | [], [], _, _, _ => rfl
  | [], b :: m, _, _, h => by have := (h b).2 (by simp); simp at this
  | a :: l, [], _, _, h => by have := (h a).1 (by simp); simp at this
  | a :: l, b :: m, hl, hm, h => by
    obtain ⟨ha, hl'⟩ := List.pairwise_cons.1 hl
    obtain ⟨hb, hm'⟩ := List.pairwise_cons.1 hm
    have e : a = b := by
      rcases List.mem_cons.1 ((h a).1 (by simp)) with e | h1
      · exact e
      rcases List.mem_cons.1 ((h b).2 (by simp)) with e | h2
      · exact e.symm
      · exact absurd (hb a h1) (has _ _ (ha b h2))
    subst e
    rw [eq_of_rise has hl' hm' fun x => ?_]
    constructor
    · intro hx
      rcases List.mem_cons.1 ((h x).1 (by simp [hx])) with e | h1
      · subst e; exact absurd (ha x hx) (fun g => has _ _ g g)
      · exact h1
    · intro hx
      rcases List.mem_cons.1 ((h x).2 (by simp [hx])) with e | h1
      · subst e; exact absurd (hb x hx) (fun g => has _ _ g g)
      · exact h1
/-- The ranges that are gone. -/
def goneP (ps : List PD) : List T3 := (ps.filter fun p => !p.put).map PD.gn
theorem gone_sep {ps : List PD} (h : WfP ps) : SepR (goneP ps) := by
  refine sepR_iff.2 ⟨fun a ha => ?_, ?_⟩
  · obtain ⟨p, hp, e⟩ := List.mem_map.1 ha
    obtain ⟨h1, h2⟩ := List.mem_filter.1 hp
    have := h.1 p h1
    unfold okP at this
    rw [if_neg (by simpa using h2)] at this
    rw [← e]; exact this.2.2.1
  · refine List.pairwise_map.2 ?_
    refine List.Pairwise.imp_of_mem ?_ (h.2.filter _)
    intro a b ha hb hs
    obtain ⟨a1, a2⟩ := List.mem_filter.1 ha
    obtain ⟨b1, b2⟩ := List.mem_filter.1 hb
    have ha2 : a.put = false := by simpa using a2
    have hb2 : b.put = false := by simpa using b2
    have oa := h.1 a a1
    unfold okP at oa
    rw [if_neg (by simp [ha2])] at oa
    have := hs.2 ha2 hb2
    unfold endP atP at this
    rw [if_neg (by simp [ha2]), if_neg (by simp [hb2])] at this
    exact ⟨oa.2.2.2, this⟩
theorem gone_in {ps : List PD} {key : Bs} : inU (goneP ps) key ↔ PIn ps key none := by
  constructor
  · rintro ⟨r, hr, hk⟩
    obtain ⟨p, hp, e⟩ := List.mem_map.1 hr
    obtain ⟨h1, h2⟩ := List.mem_filter.1 hp
    refine ⟨p, h1, ?_⟩
    unfold spP
    rw [if_neg (by simpa using h2), if_pos (by rw [e]; exact hk)]
  · rintro ⟨p, hp, hs⟩
    unfold spP at hs
    split at hs
    · split at hs <;> cases hs
    · rename_i h2
      split at hs
      · rename_i hk
        exact ⟨p.gn, List.mem_map.2 ⟨p, List.mem_filter.2 ⟨hp, by simpa using h2⟩, rfl⟩, hk⟩
      · cases hs
theorem wf_mem {ps qs : List PD} (h1 : WfP ps) (h2 : WfP qs) (h : ∀ key o, PIn ps key o ↔ PIn qs key o) {p : PD} (hp : p ∈ ps) : p ∈ qs := by
  have op := h1.1 p hp
  cases hput : p.put
  · have e := sep_uniq (gone_sep h1) (gone_sep h2) fun key => by rw [gone_in, gone_in]; exact h key none
    have m : p.gn ∈ goneP ps := List.mem_map.2 ⟨p, List.mem_filter.2 ⟨hp, by simp [hput]⟩, rfl⟩
    rw [e] at m
    obtain ⟨q, hq, eq⟩ := List.mem_map.1 m
    obtain ⟨q1, q2⟩ := List.mem_filter.1 hq
    have oq := h2.1 q q1
    unfold okP at op oq
    have q3 : q.put = false := by simpa using q2
    rw [if_neg (by simp [hput])] at op
    rw [if_neg (by simp [q3])] at oq
    have : q = p := by
      obtain ⟨a, b, c, d⟩ := q
      obtain ⟨a', b', c', d'⟩ := p
      simp only at hput q3 op oq eq
      rw [hput, q3, op.1, op.2.1, oq.1, oq.2.1, eq]
    rw [← this]; exact q1
  · have hs : spP p p.key = some (some p.v) := by unfold spP; rw [if_pos hput, if_pos rfl]
    obtain ⟨q, hq, hqs⟩ := (h _ _).1 ⟨p, hp, hs⟩
    have oq := h2.1 q hq
    unfold okP at op oq
    unfold spP at hqs
    split at hqs
    · rename_i q3
      split at hqs
      · rename_i hk
        rw [if_pos hput] at op
        rw [if_pos q3] at oq
        have : q = p := by
          obtain ⟨a, b, c, d⟩ := q
          obtain ⟨a', b', c', d'⟩ := p
          simp only at hput q3 op oq hk hqs
          simp only [Option.some.injEq] at hqs
          rw [hput, q3, op, oq, hk, hqs]
        rw [← this]; exact hq
      · cases hqs
    · split at hqs <;> cases hqs
theorem WfP.uniq {ps qs : List PD} (h1 : WfP ps) (h2 : WfP qs) (h : ∀ key o, PIn ps key o ↔ PIn qs key o) : ps = qs := by
  have rise : ∀ {l : List PD}, WfP l → l.Pairwise fun a b => cmp (atP a) (atP b) < 0 := fun hl => List.Pairwise.imp_of_mem (fun ha _ hs => rise_at (hl.1 _ ha) hs) hl.2
  refine eq_of_rise (fun a b g1 g2 => ?_) (rise h1) (rise h2) fun x => ⟨wf_mem h1 h2 h, wf_mem h2 h1 fun k o => (h k o).symm⟩
  have := cmp_anti (atP a) (atP b)
  omega
/-- There is one meaning. -/
theorem IsMean.uniq {l m : List MD} {ps qs : List PD} (h1 : IsMean l ps) (h2 : IsMean m qs) (h : ∀ key, getM l key = getM m key) : ps = qs :=
  WfP.uniq h1.1 h2.1 fun key o => by rw [h1.2, h2.2, h]
theorem getM_app (a b : List MD) (key : Bs) : getM (a ++ b) key = match getM b key with
    | some o => some o
    | none => getM a key := by
  induction a with
  | nil => simp only [List.nil_append, getM]; cases getM b key <;> rfl
  | cons m r ih =>
    simp only [List.cons_append, getM, ih]
    cases getM b key <;> rfl
end Go.Sx
