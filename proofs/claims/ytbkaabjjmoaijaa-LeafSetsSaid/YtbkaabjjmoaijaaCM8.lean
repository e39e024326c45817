/- Part of a proof: what rises, what a key has; the law LeafMap, walked. -/
import Derived.Test.YtbkaabjjmoaijaaCM7
namespace Go.Sx
open Go Go.Proofs
set_option maxRecDepth 10000
variable {w0 : World} {H : List Ck}

/-! ### Plain -/
def valL : Ps → Bs → Option Bs
  | [], _ => none
  | e :: r, k => if e.1 = k then some e.2 else valL r k
theorem valL_none {ps : Ps} {k : Bs} : valL ps k = none ↔ ∀ e, e ∈ ps → e.1 ≠ k := by
  induction ps with
  | nil => simp [valL]
  | cons x r ih =>
    unfold valL
    by_cases h : x.1 = k
    · simp [h]
    · simp [h, ih]
theorem valL_app (a b : Ps) (k : Bs) : valL (a ++ b) k = (valL a k).or (valL b k) := by
  induction a with
  | nil => simp [valL]
  | cons x r ih =>
    simp only [List.cons_append, valL]
    split
    · rfl
    · exact ih
theorem valL_at {ps : Ps} {k : Bs} {i : Nat} {e : Bs × Bs} (h : ps[i]? = some e) (hn : valL (ps.take i) k = none) (hk : e.1 = k) : valL ps k = some e.2 := by
  rw [← List.take_append_drop i ps, valL_app, hn, List.drop_eq_getElem_cons (List.getElem?_eq_some_iff.1 h).1, (List.getElem?_eq_some_iff.1 h).2]
  simp [valL, hk]
theorem valL_take {ps : Ps} {k : Bs} {i : Nat} {e : Bs × Bs} (h : ps[i]? = some e) : valL (ps.take (i + 1)) k = (valL (ps.take i) k).or (if e.1 = k then some e.2 else none) := by
  rw [take_snoc' h, valL_app]; rfl
theorem fndB_val (ps : Ps) (k : Bs) : fndB ps k = (valL ps k).isSome := by
  cases h : valL ps k with
  | none =>
    rw [Option.isSome_none, ← Bool.not_eq_true, fndB_iff]
    rintro ⟨e, he, hk⟩
    exact valL_none.1 h e he hk
  | some v =>
    rw [Option.isSome_some, fndB_iff]
    refine Classical.byContradiction fun hc => ?_
    rw [valL_none.2 fun e he hk => hc ⟨e, he, hk⟩] at h
    cases h
theorem lt_ne {x k : Bs} (h : cmp x k < 0) : x ≠ k := fun g => by rw [g, (cmp_eq _ _).2 rfl] at h; omega
theorem setL_split {ps : Ps} (h : Rise ps) (e : Bs × Bs) : (∀ x, x ∈ ps.take (fndN ps e.1) → cmp x.1 e.1 < 0) ∧ (∀ x, x ∈ ps.drop (setA ps e) → cmp e.1 x.1 < 0) ∧
    ∃ m, ps = ps.take (fndN ps e.1) ++ m ++ ps.drop (setA ps e) ∧ ∀ x, x ∈ m → x.1 = e.1 := by
  have hle := fndN_le ps e.1
  refine ⟨fun x hx => ?_, fun x hx => ?_, ?_⟩
  · obtain ⟨j, hj⟩ := List.getElem?_of_mem hx
    have hlt : j < fndN ps e.1 := by have := (List.getElem?_eq_some_iff.1 hj).1; simp at this; omega
    rw [List.getElem?_take_of_lt hlt] at hj
    exact (fndN_lt h hj).1 hlt
  · obtain ⟨j, hj⟩ := List.getElem?_of_mem hx
    rw [List.getElem?_drop] at hj
    have hA : fndN ps e.1 ≤ setA ps e := by unfold setA; split <;> omega
    have h1 := mt (fndN_lt h (k := e.1) hj).2 (by omega)
    have h2 := cmp_anti x.1 e.1
    have h3 : cmp x.1 e.1 ≠ 0 := by
      intro h0
      obtain ⟨y, hy⟩ := get_lt ps (fndN ps e.1) (by have := (List.getElem?_eq_some_iff.1 hj).1; omega)
      have hb := fndB_at h hy
      have hbt : fndB ps e.1 = true := fndB_iff.2 ⟨x, List.mem_of_getElem? hj, (cmp_eq _ _).1 h0⟩
      have hA' : setA ps e = fndN ps e.1 + 1 := if_pos hbt
      have hyx := rise_get h hy hj (by omega)
      have hcy := mt (fndN_lt h (k := e.1) hy).2 (by omega)
      rw [(cmp_eq _ _).1 h0] at hyx
      exact hcy hyx
    omega
  · by_cases hb : fndB ps e.1 = true
    · have hA : setA ps e = fndN ps e.1 + 1 := if_pos hb
      have hlt : fndN ps e.1 < ps.length := by
        rcases Nat.lt_or_eq_of_le hle with h2 | h2
        · exact h2
        · rw [fndB_end h h2] at hb; cases hb
      obtain ⟨y, hy⟩ := get_lt ps _ hlt
      have hb' := fndB_at h hy
      rw [hb] at hb'
      refine ⟨[y], ?_, fun x hx => ?_⟩
      · rw [hA, ← take_snoc' hy, List.take_append_drop]
      · simp only [List.mem_singleton] at hx
        rw [hx]
        exact (cmp_eq _ _).1 (of_decide_eq_true hb'.symm)
    · have hA : setA ps e = fndN ps e.1 := if_neg hb
      exact ⟨[], by rw [hA, List.append_nil, List.take_append_drop], by simp⟩
theorem valL_setL {ps : Ps} (h : Rise ps) (e : Bs × Bs) (k : Bs) : valL (setL ps e) k = if k = e.1 then some e.2 else valL ps k := by
  obtain ⟨h1, h2, m, h3, h4⟩ := setL_split h e
  rw [setL, valL_app, valL_app]
  split
  · rename_i hk
    have : valL (ps.take (fndN ps e.1)) k = none := valL_none.2 fun x hx => by rw [hk]; exact lt_ne (h1 x hx)
    rw [this, hk]
    simp [valL]
  · rename_i hk
    have hne : e.1 ≠ k := fun g => hk g.symm
    have hm : valL m k = none := valL_none.2 fun x hx => by rw [h4 x hx]; exact hne
    conv => rhs; rw [h3, valL_app, valL_app, hm]
    simp [valL, hne]
theorem rise_setL {ps : Ps} (h : Rise ps) (e : Bs × Bs) : Rise (setL ps e) := by
  obtain ⟨h1, h2, _⟩ := setL_split h e
  unfold Rise setL
  rw [List.pairwise_append, List.pairwise_append]
  refine ⟨⟨List.Pairwise.sublist (List.take_sublist _ _) h, List.pairwise_singleton _ _, fun x hx y hy => ?_⟩, List.Pairwise.sublist (List.drop_sublist _ _) h, fun x hx y hy => ?_⟩
  · simp only [List.mem_singleton] at hy; rw [hy]; exact h1 x hx
  · rcases List.mem_append.1 hx with hx | hx
    · exact cmp_lt_of (h1 x hx) (Int.le_of_lt (h2 y hy))
    · simp only [List.mem_singleton] at hx; rw [hx]; exact h2 y hy
theorem valL_cutL (lo hi : Bs) (all : Bool) (ps : Ps) (k : Bs) : valL (cutL lo hi all ps) k = if hasR lo hi all k = true then none else valL ps k := by
  induction ps with
  | nil => simp [cutL, valL]
  | cons x r ih =>
    simp only [cutL, List.filter_cons] at ih ⊢
    by_cases hx : hasR lo hi all x.1 = true
    · simp only [hx, Bool.not_true, Bool.false_eq_true, if_false, ih, valL]
      by_cases hk : x.1 = k
      · rw [← hk, if_pos hx, if_pos hx]
      · simp [hk]
    · simp only [hx, Bool.not_false, if_true, valL, ih]
      by_cases hk : x.1 = k
      · rw [if_pos hk, if_pos hk, ← hk, if_neg (by simpa using hx)]
      · rw [if_neg hk, if_neg hk]
theorem rise_cutL {ps : Ps} (h : Rise ps) (lo hi : Bs) (all : Bool) : Rise (cutL lo hi all ps) := List.Pairwise.sublist List.filter_sublist h
/-- Of things with keys those that rise. -/
def risS {α : Type} (key : α → Bs) (out : List α) (e : α) : List α := match out.getLast? with
  | none => out ++ [e]
  | some f => if 0 < cmp (key e) (key f) then out ++ [e] else out
def risG {α : Type} (key : α → Bs) (l : List α) : List α := l.foldl (risS key) []
theorem risG_snoc {α : Type} (key : α → Bs) {l : List α} {i : Nat} {e : α} (h : l[i]? = some e) : risG key (l.take (i + 1)) = risS key (risG key (l.take i)) e := by
  rw [take_snoc' h, risG, List.foldl_append]; rfl
theorem risS_len {α : Type} (key : α → Bs) (out : List α) (e : α) : (risS key out e).length ≤ out.length + 1 := by
  unfold risS; split
  · simp
  · split <;> simp
theorem risG_len {α : Type} (key : α → Bs) (l : List α) (i : Nat) : (risG key (l.take i)).length ≤ i := by
  induction i with
  | zero => simp [risG]
  | succ i ih =>
    by_cases h : i < l.length
    · obtain ⟨e, he⟩ := get_lt l i h
      rw [risG_snoc key he]
      have := risS_len key (risG key (l.take i)) e
      omega
    · rw [List.take_of_length_le (by omega)]
      rw [List.take_of_length_le (by omega)] at ih
      omega
theorem risS_mem {α : Type} (key : α → Bs) {out : List α} {e x : α} (h : x ∈ risS key out e) : x ∈ out ∨ x = e := by
  unfold risS at h
  split at h
  · simpa using h
  · split at h
    · simpa using h
    · exact .inl h
theorem risG_mem {α : Type} (key : α → Bs) : ∀ (l : List α) (out : List α) {x : α}, x ∈ l.foldl (risS key) out → x ∈ out ∨ x ∈ l
  | [], out, x, h => .inl h
  | e :: l, out, x, h => by
    rcases risG_mem key l _ h with h | h
    · exact (risS_mem key h).imp id (by rintro rfl; simp)
    · exact .inr (by simp [h])
theorem risS_map {α β : Type} (f : α → β) (key : β → Bs) (out : List α) (e : α) : (risS (fun x => key (f x)) out e).map f = risS key (out.map f) (f e) := by
  unfold risS
  rw [List.getLast?_map]
  cases out.getLast? with
  | none => simp
  | some y => simp only [Option.map_some]; split <;> simp
theorem risG_map {α β : Type} (f : α → β) (key : β → Bs) (l : List α) : (risG (fun x => key (f x)) l).map f = risG key (l.map f) := by
  have : ∀ (l out : List α), (l.foldl (risS fun x => key (f x)) out).map f = (l.map f).foldl (risS key) (out.map f) := by
    intro l
    induction l with
    | nil => intro out; rfl
    | cons e l ih => intro out; simp only [List.foldl_cons, List.map_cons, ih, risS_map]
  exact this l []
abbrev risP (ps : Ps) : Ps := risG (fun e => e.1) ps
theorem risK_map (es : List KV) : (risG KV.k es).map KV.p = risP (es.map KV.p) := risG_map KV.p (fun e => e.1) es
theorem rise_risS {out : Ps} (h : Rise out) (e : Bs × Bs) : Rise (risS (fun e => e.1) out e) := by
  unfold risS
  split
  · rename_i hl
    rw [List.getLast?_eq_none_iff] at hl
    subst hl
    exact List.pairwise_singleton _ _
  · rename_i f hf
    split
    · rename_i hc
      unfold Rise
      rw [List.pairwise_append]
      refine ⟨h, List.pairwise_singleton _ _, fun x hx y hy => ?_⟩
      simp only [List.mem_singleton] at hy
      subst hy
      have ha := cmp_anti y.1 f.1
      simp only at hc
      obtain ⟨init, rfl⟩ := List.getLast?_eq_some_iff.1 hf
      rcases List.mem_append.1 hx with hx | hx
      · have := (List.pairwise_append.1 h).2.2 x hx f (by simp)
        exact cmp_lt_of this (by omega)
      · simp only [List.mem_singleton] at hx
        subst hx; omega
    · exact h
theorem rise_ris (ps : Ps) : Rise (risP ps) := by
  have : ∀ (l out : Ps), Rise out → Rise (l.foldl (risS fun e => e.1) out) := by
    intro l
    induction l with
    | nil => exact fun _ h => h
    | cons e l ih => exact fun out h => ih _ (rise_risS h e)
  exact this ps [] List.Pairwise.nil
theorem ris_rise {ps : Ps} (h : Rise ps) : risP ps = ps := by
  have key : ∀ i, i ≤ ps.length → risP (ps.take i) = ps.take i := by
    intro i
    induction i with
    | zero => intro _; simp [risG]
    | succ i ih =>
      intro hi
      obtain ⟨e, he⟩ := get_lt ps i (by omega)
      have ih' := ih (by omega)
      simp only [risP] at ih' ⊢
      rw [risG_snoc _ he, ih', take_snoc' he]
      unfold risS
      split
      · rfl
      · rename_i f hf
        have hf' : ps[i - 1]? = some f ∧ 0 < i := by
          rw [List.getLast?_eq_getElem?, List.length_take, Nat.min_eq_left (by omega)] at hf
          have h0 : 0 < i := by
            rcases Nat.eq_zero_or_pos i with h0 | h0
            · subst h0; simp at hf
            · exact h0
          rw [List.getElem?_take_of_lt (by omega)] at hf
          exact ⟨hf, h0⟩
        have := rise_get h hf'.1 he (by omega)
        have ha := cmp_anti f.1 e.1
        rw [if_pos (by simp only; omega)]
  have := key ps.length (Nat.le_refl _)
  rwa [List.take_length] at this
theorem wt_app (a b : Ps) : wt (a ++ b) = wt a + wt b := by
  induction a with
  | nil => simp [wt]
  | cons x r ih => simp only [List.cons_append, wt, ih]; omega
theorem wt_sub {a b : Ps} (h : a.Sublist b) : wt a ≤ wt b := by
  induction h with
  | slnil => exact Nat.le_refl _
  | cons x _ ih => simp only [wt]; omega
  | cons_cons x _ ih => simp only [wt]; omega
theorem wt_setL (ps : Ps) (e : Bs × Bs) : wt (setL ps e) ≤ wt ps + 1 + e.1.length + e.2.length := by
  have hA : fndN ps e.1 ≤ setA ps e := by unfold setA; split <;> omega
  have h1 : wt (ps.take (fndN ps e.1)) + wt (ps.drop (setA ps e)) ≤ wt ps := by
    conv => rhs; rw [← List.take_append_drop (fndN ps e.1) ps, wt_app]
    have : (ps.drop (setA ps e)).Sublist (ps.drop (fndN ps e.1)) := by
      rw [show setA ps e = fndN ps e.1 + (setA ps e - fndN ps e.1) by omega, ← List.drop_drop]
      exact List.drop_sublist _ _
    have := wt_sub this
    omega
  rw [setL, wt_app, wt_app]
  simp only [wt]
  omega
theorem ris_sub {α : Type} (key : α → Bs) (l : List α) : ∀ out : List α, ∃ m, l.foldl (risS key) out = out ++ m ∧ m.Sublist l := by
  induction l with
  | nil => exact fun out => ⟨[], by simp, List.Sublist.slnil⟩
  | cons e l ih =>
    intro out
    have h1 : risS key out e = out ++ [e] ∨ risS key out e = out := by
      unfold risS; split
      · exact .inl rfl
      · split
        · exact .inl rfl
        · exact .inr rfl
    rcases h1 with h1 | h1
    · obtain ⟨m, h2, h3⟩ := ih (out ++ [e])
      exact ⟨e :: m, by rw [List.foldl_cons, h1, h2]; simp, h3.cons_cons e⟩
    · obtain ⟨m, h2, h3⟩ := ih out
      exact ⟨m, by rw [List.foldl_cons, h1, h2], h3.cons e⟩
theorem wt_ris (ps : Ps) : wt (risP ps) ≤ wt ps := by
  obtain ⟨m, h1, h2⟩ := ris_sub (fun e : Bs × Bs => e.1) ps []
  rw [risP, risG, h1, List.nil_append]
  exact wt_sub h2
theorem wB_up {B : Nat} (hB : 281474976710656 + 2147483650 ≤ B) : ∀ (ps : Ps) (s : Nat), (∀ e, e ∈ ps → e.1.length ≤ 140737488351232 ∧ e.2.length ≤ 140737488351232) → s ≤ B → wB s ps ≤ B
  | [], _, _, h => h
  | e :: r, s, hz, h => by
    have := hz e (by simp)
    unfold wB
    split
    · exact wB_up hB r _ (fun x hx => hz x (by simp [hx])) (by omega)
    · exact h
end Go.Sx
