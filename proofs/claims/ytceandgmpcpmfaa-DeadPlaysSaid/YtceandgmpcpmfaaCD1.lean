/- Part of a proof: lists of lives hang on their lives alone, in plain words. -/
import Derived.Test.YtceandgmpcpmfaaCD0
namespace Go.Sx
open Go
theorem ins_perm {xs : List Lf} {x : Lf} : (ins xs x).Perm (x :: xs) := by
  unfold ins
  refine List.perm_middle.trans ?_
  rw [List.takeWhile_append_dropWhile]
/-- Lives that are put in, as far as they may be; those that were. -/
def fillS (s : List Lf × List Lf) (x : Lf) : List Lf × List Lf := if putE s.1 x = 0 then (ins s.1 x, s.2 ++ [x]) else s
def fillL (l : List Lf) : List Lf × List Lf := l.foldl fillS ([], [])
abbrev FillOk (s : List Lf × List Lf) : Prop := Srt s.1 ∧ s.1.Perm s.2
theorem fillS_ok {s : List Lf × List Lf} {x : Lf} (h : FillOk s) : FillOk (fillS s x) := by
  unfold fillS
  split
  · rename_i h0
    have := putE_0 h0
    refine ⟨ins_srt h.1 this.1 this.2, ?_⟩
    exact (ins_perm.trans (h.2.cons x)).trans (List.perm_append_singleton x s.2).symm
  · exact h
theorem foldl_ok {s : List Lf × List Lf} : ∀ (l : List Lf), FillOk s → FillOk (l.foldl fillS s)
  | [], h => h
  | x :: l, h => foldl_ok l (fillS_ok h)
theorem fillL_ok (l : List Lf) : FillOk (fillL l) := foldl_ok l ⟨Srt.nil, .refl _⟩
theorem fill_snoc (l : List Lf) (x : Lf) : fillL (l ++ [x]) = fillS (fillL l) x := by simp [fillL]
theorem foldl_len : ∀ (l : List Lf) (s : List Lf × List Lf), (l.foldl fillS s).2.length ≤ s.2.length + l.length
  | [], _ => Nat.le_refl _
  | x :: l, s => by
    have := foldl_len l (fillS s x)
    have h : (fillS s x).2.length ≤ s.2.length + 1 := by
      unfold fillS
      split
      · simp
      · omega
    simp only [List.foldl_cons, List.length_cons]
    omega
theorem fill_len (l : List Lf) : (fillL l).2.length ≤ l.length := by
  have := foldl_len l ([], [])
  simpa [fillL] using this
theorem fill_len1 (l : List Lf) : (fillL l).1.length = (fillL l).2.length := (fillL_ok l).2.length_eq
theorem ov_symm {x y : Lf} (h : ¬ x.ov y) : ¬ y.ov x := fun ⟨h1, h2, h3⟩ => h ⟨h1.symm, h3, h2⟩
theorem ahead_ov {x y : Lf} (h : Ahead x y) : ¬ x.ov y := by
  unfold Ahead at h
  simp only [Lf.ov]
  omega
/-- All of lives that do not meet may be put in, in whatever order. -/
theorem fold_all : ∀ (m : List Lf) (s : List Lf × List Lf), FillOk s → (∀ x ∈ m, ¬ x.bad) → m.Pairwise (fun a b => ¬ a.ov b) → (∀ x ∈ m, ∀ y ∈ s.1, ¬ y.ov x) → (m.foldl fillS s).2 = s.2 ++ m
  | [], s, _, _, _, _ => by simp
  | x :: m, s, hs, hb, hp, ho => by
    have hp' := List.pairwise_cons.1 hp
    have h0 : putE s.1 x = 0 := putE_ok (hb x (by simp)) (ho x (by simp))
    have e : fillS s x = (ins s.1 x, s.2 ++ [x]) := by rw [fillS, if_pos h0]
    rw [List.foldl_cons, fold_all m (fillS s x) (fillS_ok hs) (fun y hy => hb y (by simp [hy])) hp'.2 ?_, e]
    · simp
    · intro y hy z hz
      rw [e] at hz
      rcases List.mem_cons.1 (ins_perm.mem_iff.1 hz) with rfl | hz
      · exact hp'.1 y hy
      · exact ho y (by simp [hy]) z hz
theorem srt_uniq : ∀ {xs ys : List Lf}, Srt xs → Srt ys → xs.Perm ys → xs = ys
  | [], ys, _, _, h => (List.Perm.nil_eq h)
  | x :: xs, [], _, _, h => by have := h.length_eq; simp at this
  | x :: xs, y :: ys, hx, hy, h => by
    have e : x = y := by
      have h1 := List.mem_cons.1 (h.mem_iff.1 (List.mem_cons_self ..) : x ∈ y :: ys)
      have h2 := List.mem_cons.1 (h.mem_iff.2 (List.mem_cons_self ..) : y ∈ x :: xs)
      rcases h1 with rfl | h1
      · rfl
      rcases h2 with rfl | h2
      · rfl
      exfalso
      have a1 := (List.pairwise_cons.1 hx.1).1 y h2
      have a2 := (List.pairwise_cons.1 hy.1).1 x h1
      have b1 := hx.2 x (by simp)
      have b2 := hy.2 y (by simp)
      unfold Ahead at a1 a2
      simp only [Lf.bad] at b1 b2
      omega
    subst e
    rw [srt_uniq hx.tail hy.tail ((List.perm_cons x).1 h)]
/-- Put in the other way round. -/
theorem fill_rev (l : List Lf) : fillL (fillL l).2.reverse = ((fillL l).1, (fillL l).2.reverse) := by
  have hk := fillL_ok l
  have hmem : ∀ x ∈ (fillL l).2.reverse, ¬ x.bad := fun x hx => hk.1.2 x (hk.2.mem_iff.2 (List.mem_reverse.1 hx))
  have hpw : (fillL l).2.reverse.Pairwise (fun a b => ¬ a.ov b) := by
    have h1 : (fillL l).1.Pairwise (fun a b => ¬ a.ov b) := hk.1.1.imp ahead_ov
    have h2 : (fillL l).1.Perm (fillL l).2.reverse := hk.2.trans (List.reverse_perm _).symm
    exact (h2.pairwise_iff (fun h => ov_symm h)).1 h1
  have h2 := fold_all (fillL l).2.reverse ([], []) ⟨Srt.nil, .refl _⟩ hmem hpw (fun x _ y hy => by simp at hy)
  have h3 := fillL_ok (fillL l).2.reverse
  have e2 : (fillL (fillL l).2.reverse).2 = (fillL l).2.reverse := by simpa [fillL] using h2
  have e1 : (fillL (fillL l).2.reverse).1 = (fillL l).1 := by
    refine srt_uniq h3.1 hk.1 ?_
    have h4 := h3.2
    rw [e2] at h4
    exact h4.trans ((List.reverse_perm _).trans hk.2.symm)
  exact Prod.ext e1 e2
theorem srt_nodup {xs : List Lf} (h : Srt xs) : xs.Nodup := by
  have h2 : xs.Pairwise (fun a b => a ≠ b) := by
    have := h.1
    have hb := h.2
    clear h
    induction xs with
    | nil => exact .nil
    | cons x xs ih =>
      have hc := List.pairwise_cons.1 this
      refine List.pairwise_cons.2 ⟨fun y hy e => ?_, ih hc.2 (fun z hz => hb z (by simp [hz]))⟩
      subst e
      have a := hc.1 x hy
      have b := hb x (by simp)
      unfold Ahead at a
      simp only [Lf.bad] at b
      omega
  exact h2
theorem fill_count {l : List Lf} {x : Lf} (h : x ∈ (fillL l).2) : (fillL l).1.countP (fun y => decide (y = x)) = 1 := by
  have hk := fillL_ok l
  have hm := hk.2.mem_iff.2 h
  have hn := srt_nodup hk.1
  have key : ∀ (xs : List Lf), x ∈ xs → xs.Nodup → xs.countP (fun y => decide (y = x)) = 1 := by
    intro xs
    induction xs with
    | nil => intro h; simp at h
    | cons y ys ih =>
      intro h1 h2
      have h3 := List.nodup_cons.1 h2
      by_cases e : y = x
      · subst e
        have : ys.countP (fun z => decide (z = y)) = 0 := List.countP_eq_zero.2 fun z hz g => h3.1 (by have := of_decide_eq_true g; subst this; exact hz)
        simp [this]
      · have := ih ((List.mem_cons.1 h1).resolve_left (fun g => e g.symm)) h3.2
        simp [this, e]
  exact key _ hm hn
/-- How many of those that were put in are such. -/
theorem fill_filter (l : List Lf) (f : Lf → Bool) : ((fillL l).1.filter f).length = (fillL l).2.countP f := by
  rw [← List.countP_eq_length_filter]
  exact (fillL_ok l).2.countP_eq f
theorem dd_mem : ∀ {l : List Int} {x : Int}, x ∈ dd l ↔ x ∈ l
  | [], x => by simp [dd]
  | [a], x => by simp [dd]
  | a :: b :: r, x => by
    have ih := dd_mem (l := b :: r) (x := x)
    rw [dd]
    split
    · rename_i e
      subst e
      rw [ih]
      simp
    · rw [List.mem_cons, ih, List.mem_cons (a := x) (b := a)]
/-- Pages that do not fall rise where each is told once. -/
theorem dd_rise : ∀ {l : List Int}, l.Pairwise (· ≤ ·) → (dd l).Pairwise (· < ·)
  | [], _ => by simp [dd]
  | [a], _ => by simp [dd]
  | a :: b :: r, h => by
    have hc := List.pairwise_cons.1 h
    have ih := dd_rise hc.2
    rw [dd]
    split
    · exact ih
    · rename_i e
      refine List.pairwise_cons.2 ⟨fun x hx => ?_, ih⟩
      have hx := dd_mem.1 hx
      have h1 := hc.1 b (by simp)
      have h2 := (List.pairwise_cons.1 hc.2).1
      rcases List.mem_cons.1 hx with rfl | hx
      · omega
      · have := h2 x hx; omega
theorem srt_pages {xs : List Lf} (h : xs.Pairwise Ahead) : (xs.map Lf.p).Pairwise (· ≤ ·) := by
  rw [List.pairwise_map]
  exact h.imp fun {a b} g => by unfold Ahead at g; omega
theorem free_rise {xs : List Lf} (h : Srt xs) (ss : List Int) : (freeV xs ss).Pairwise (· < ·) := dd_rise (srt_pages (h.1.filter _))
theorem held_kept {xs : List Lf} {ss : List Int} {s : Int} (hs : s ∈ ss) : heldV (keptV xs ss) s = heldV xs s := by
  unfold heldV keptV
  rw [List.filter_filter]
  congr 1
  refine List.filter_congr fun x _ => ?_
  by_cases h : x.need s
  · have : anyN ss x := ⟨s, hs, h⟩
    rw [decide_eq_true h, decide_eq_true this]; rfl
  · rw [decide_eq_false h]; rfl
theorem kept_kept (xs : List Lf) (ss : List Int) : keptV (keptV xs ss) ss = keptV xs ss := by
  unfold keptV
  rw [List.filter_filter]
  refine List.filter_congr fun x _ => ?_
  simp
theorem free_kept (xs : List Lf) (ss : List Int) : freeV (keptV xs ss) ss = [] := by
  unfold freeV outV keptV
  rw [List.filter_filter]
  have : xs.filter (fun x => !decide (anyN ss x) && decide (anyN ss x)) = [] := List.filter_eq_nil_iff.2 fun x _ => by
    cases decide (anyN ss x) <;> simp
  rw [this]
  rfl
theorem kept_none (xs : List Lf) : keptV xs [] = [] := by
  unfold keptV
  exact List.filter_eq_nil_iff.2 fun x _ => by simp [anyN]
end Go.Sx
