/- Part of a proof: maps of bytes and of byte lists, as the law DevFates keeps them. -/
import Derived.Test.YtjbjblhfccddkaaCTV
namespace Go.Sx
open Go Go.Proofs
set_option maxRecDepth 10000
variable {w0 : World} {H : List Ck}
theorem find_app {kvs : List (Int × Value)} {a m : Int} {v : Value} (h : kvs.any (fun p => p.1 == a) = false) : aget (kvs ++ [(a, v)]) m = if m = a then some v else aget kvs m := by
  simp only [aget, List.find?_append]
  by_cases e : m = a
  · subst e
    rw [if_pos rfl]
    have : kvs.find? (fun p => p.1 == m) = none := by
      rw [List.find?_eq_none]
      intro p hp
      simpa using List.any_eq_false.1 h p hp
    rw [this]
    simp
  · rw [if_neg e]
    cases h2 : kvs.find? (fun p => p.1 == m) with
    | some p => rfl
    | none =>
      have : (a == m) = false := by simp; exact fun e1 => e e1.symm
      simp [this]
theorem find_put {a m : Int} {v : Value} : ∀ {kvs : List (Int × Value)}, kvs.any (fun p => p.1 == a) = true → aget (kvs.map fun p => if p.1 == a then (a, v) else p) m = if m = a then some v else aget kvs m
  | [], h => by simp at h
  | p :: kvs, h => by
    simp only [aget, List.map_cons, List.find?_cons]
    by_cases hp : p.1 = a
    · have e1 : (p.1 == a) = true := by simp [hp]
      simp only [e1, if_true]
      by_cases e : m = a
      · subst e; simp
      · have e2 : (a == m) = false := by simp; exact fun e1 => e e1.symm
        have e3 : (p.1 == m) = false := by simp [hp]; exact fun e1 => e e1.symm
        rw [if_neg e, e2, e3]
        by_cases h2 : kvs.any (fun p => p.1 == a) = true
        · have := find_put (m := m) (v := v) h2
          rw [if_neg e] at this
          exact this
        · have h3 : kvs.map (fun p => if p.1 == a then (a, v) else p) = kvs := by
            conv => rhs; rw [← List.map_id kvs]
            apply List.map_congr_left
            intro q hq
            have h4 : (q.1 == a) = false := by
              rw [Bool.eq_false_iff]
              intro h5
              exact h2 (List.any_eq_true.2 ⟨q, hq, h5⟩)
            simp [h4]
          rw [h3]
    · have e1 : (p.1 == a) = false := by simp [hp]
      have h2 : kvs.any (fun p => p.1 == a) = true := by simpa [e1] using h
      have ih := find_put (m := m) (v := v) h2
      simp only [e1, Bool.false_eq_true, if_false]
      by_cases e3 : (p.1 == m) = true
      · have : ¬ m = a := fun e => hp ((by simpa using e3 : p.1 = m).trans e)
        rw [e3, if_neg this]
      · have e3 : (p.1 == m) = false := by simpa using e3
        rw [e3]
        exact ih
theorem aget_aput {kvs : List (Int × Value)} {a m : Int} {v : Value} : aget (aput kvs a v) m = if m = a then some v else aget kvs m := by
  unfold aput
  split
  · rename_i h
    exact find_put h
  · rename_i h
    exact find_app (Bool.eq_false_iff.2 h)
theorem aput_at {kvs : List (Int × Value)} {j : Nat} {p : Int × Value} {v : Value} (hnd : (kvs.map Prod.fst).Nodup) (hp : kvs[j]? = some p) : aput kvs p.1 v = kvs.set j (p.1, v) := by
  have hyes : kvs.any (fun q => q.1 == p.1) = true := List.any_eq_true.2 ⟨p, List.mem_of_getElem? hp, by simp⟩
  unfold aput
  rw [if_pos hyes]
  apply List.ext_getElem?
  intro i
  rw [List.getElem?_map, List.getElem?_set]
  by_cases hij : j = i
  · subst hij
    have hjl : j < kvs.length := (List.getElem?_eq_some_iff.1 hp).1
    rw [if_pos rfl, if_pos hjl, hp]
    simp
  · rw [if_neg hij]
    cases hq : kvs[i]? with
    | none => rfl
    | some q =>
      have hne : ¬ q.1 = p.1 := by
        intro e1
        obtain ⟨l1a, l1b⟩ := List.getElem?_eq_some_iff.1 hp
        obtain ⟨l2a, l2b⟩ := List.getElem?_eq_some_iff.1 hq
        have hw' := List.pairwise_iff_getElem.1 hnd
        rcases Nat.lt_or_gt_of_ne hij with hl | hl
        · exact hw' j i (by simpa using l1a) (by simpa using l2a) hl (by simp [l1b, l2b, e1])
        · exact hw' i j (by simpa using l2a) (by simpa using l1a) hl (by simp [l1b, l2b, e1])
      simp [hne]
/-- What was written last into each block. -/
def LastI (kvs : List (Int × Value)) (last : Int → UInt8) : Prop := ∀ m, (aget kvs m).getD (bv 0) = bv (last m)
theorem LastI.nil : LastI [] (fun _ => 0) := fun _ => rfl
theorem LastI.put {kvs : List (Int × Value)} {last : Int → UInt8} (h : LastI kvs last) (k : Int) (v : UInt8) : LastI (aput kvs k (bv v)) (upd last k v) := fun m => by
  rw [aget_aput]
  simp only [upd]
  split
  · rfl
  · exact h m
/-- A block's number and what was written into it. -/
structure Wn where
  n : Int
  s : SB
def Wn.kv (e : Wn) : Int × Value := (e.n, e.s.val)
def oWn (e : Wn) : List Ck := [ob e.s.a e.s.c e.s.xs]
structure WrI (ws : List Wn) (wr : Int → List UInt8) : Prop where
  nodup : (ws.map Wn.n).Nodup
  mem : ∀ e ∈ ws, wr e.n = e.s.xs ∧ e.s.xs ≠ []
  no : ∀ m, m ∉ ws.map Wn.n → wr m = []
theorem WrI.nil : WrI [] (fun _ => []) := ⟨List.nodup_nil, fun _ h => by simp at h, fun _ _ => rfl⟩
theorem kv_fst (ws : List Wn) : (ws.map Wn.kv).map Prod.fst = ws.map Wn.n := by simp [Wn.kv, List.map_map, Function.comp_def]
theorem WrI.get {ws : List Wn} {wr : Int → List UInt8} (h : WrI ws wr) (m : Int) : (m ∉ ws.map Wn.n ∧ wr m = [] ∧ aget (ws.map Wn.kv) m = none) ∨
    ∃ (i : Nat) (e : Wn), ws[i]? = some e ∧ e.n = m ∧ wr m = e.s.xs ∧ wr m ≠ [] ∧ aget (ws.map Wn.kv) m = some e.s.val := by
  by_cases hm : m ∈ ws.map Wn.n
  · obtain ⟨e, he, rfl⟩ := List.mem_map.1 hm
    obtain ⟨i, hi⟩ := List.getElem?_of_mem he
    obtain ⟨h1, h2⟩ := h.mem e he
    refine .inr ⟨i, e, hi, rfl, h1, by rw [h1]; exact h2, ?_⟩
    have hf := find_at (kvs := ws.map Wn.kv) (j := i) (p := e.kv) (by rw [kv_fst]; exact h.nodup) (by simp [hi])
    simp only [aget]
    rw [show e.n = e.kv.1 from rfl, hf]
    rfl
  · refine .inl ⟨hm, h.no m hm, ?_⟩
    simp only [aget, Option.map_eq_none_iff, List.find?_eq_none]
    intro p hp h1
    obtain ⟨e, he, rfl⟩ := List.mem_map.1 hp
    exact hm (List.mem_map.2 ⟨e, he, by simpa [Wn.kv] using h1⟩)
theorem WrI.add {ws : List Wn} {wr : Int → List UInt8} (h : WrI ws wr) {m : Int} (hm : m ∉ ws.map Wn.n) {s : SB} (hs : s.xs ≠ []) : WrI (ws ++ [⟨m, s⟩]) (upd wr m s.xs) ∧ aput (ws.map Wn.kv) m s.val = (ws ++ [(⟨m, s⟩ : Wn)]).map Wn.kv := by
  refine ⟨⟨?_, fun e he => ?_, fun k hk => ?_⟩, ?_⟩
  · simp only [List.map_append, List.map_cons, List.map_nil]
    rw [List.nodup_append]
    refine ⟨h.nodup, by simp, fun a ha b hb => ?_⟩
    simp at hb
    subst hb
    rintro rfl
    exact hm ha
  · rcases List.mem_append.1 he with h1 | h1
    · obtain ⟨h2, h3⟩ := h.mem e h1
      have : ¬ e.n = m := fun h4 => hm (h4 ▸ List.mem_map_of_mem h1)
      simp only [upd, if_neg this]
      exact ⟨h2, h3⟩
    · simp at h1
      subst h1
      simp only [upd, if_true]
      exact ⟨trivial, hs⟩
  · simp only [List.map_append, List.map_cons, List.map_nil, List.mem_append, List.mem_singleton, not_or] at hk
    simp only [upd, if_neg hk.2]
    exact h.no k hk.1
  · have : (ws.map Wn.kv).any (fun p => p.1 == m) = false := by
      rw [List.any_map, List.any_eq_false]
      intro e he h1
      exact hm (List.mem_map.2 ⟨e, he, by simpa [Wn.kv] using h1⟩)
    simp [aput, this, Wn.kv]
theorem WrI.set {ws : List Wn} {wr : Int → List UInt8} (h : WrI ws wr) {i : Nat} {e : Wn} (hi : ws[i]? = some e) {s : SB} (hs : s.xs ≠ []) : WrI (ws.set i ⟨e.n, s⟩) (upd wr e.n s.xs) ∧ aput (ws.map Wn.kv) e.n s.val = (ws.set i (⟨e.n, s⟩ : Wn)).map Wn.kv := by
  have hl := (List.getElem?_eq_some_iff.1 hi).1
  have hk : (ws.set i (⟨e.n, s⟩ : Wn)).map Wn.n = ws.map Wn.n := by
    rw [List.map_set]
    exact set_same (by simp [hi])
  refine ⟨⟨by rw [hk]; exact h.nodup, fun q hq => ?_, fun k hk' => ?_⟩, ?_⟩
  · obtain ⟨j, hj⟩ := List.getElem?_of_mem hq
    rw [List.getElem?_set] at hj
    split at hj
    · rename_i e1
      cases hj
      simp only [upd, if_true]
      exact ⟨trivial, hs⟩
    · rename_i hij
      have hne : ¬ q.n = e.n := by
        intro e1
        obtain ⟨l1a, l1b⟩ := List.getElem?_eq_some_iff.1 hi
        obtain ⟨l2a, l2b⟩ := List.getElem?_eq_some_iff.1 hj
        have hw' := List.pairwise_iff_getElem.1 h.nodup
        rcases Nat.lt_or_gt_of_ne hij with hl | hl
        · exact hw' i j (by simpa using l1a) (by simpa using l2a) hl (by simp [l1b, l2b, e1])
        · exact hw' j i (by simpa using l2a) (by simpa using l1a) hl (by simp [l1b, l2b, e1])
      simp only [upd, if_neg hne]
      exact h.mem q (List.mem_of_getElem? hj)
  · rw [hk] at hk'
    have : ¬ k = e.n := fun e1 => hk' (e1 ▸ List.mem_map_of_mem (List.mem_of_getElem? hi))
    simp only [upd, if_neg this]
    exact h.no k hk'
  · rw [show e.n = e.kv.1 from rfl, aput_at (j := i) (by rw [kv_fst]; exact h.nodup) (by simp [hi]), List.map_set]
    rfl
/-- How many values there are up to a place. -/
def totP (l : List Pl) (i : Nat) : Nat := ((l.take i).map fun p => p.vs.length).sum
theorem totP_snoc {l : List Pl} {i : Nat} {p : Pl} (h : l[i]? = some p) : totP l (i + 1) = totP l i + p.vs.length := by
  unfold totP
  rw [snocT h]
  simp
theorem totP_le {l : List Pl} : ∀ {i j : Nat}, i ≤ j → totP l i ≤ totP l j := fun {i j} h => by
  induction h with
  | refl => exact Nat.le_refl _
  | step _ ih =>
    rename_i k _
    refine Nat.le_trans ih ?_
    cases hk : l[k]? with
    | none =>
      have : l.length ≤ k := List.getElem?_eq_none_iff.1 hk
      unfold totP
      rw [List.take_of_length_le this, List.take_of_length_le (by omega)]
      exact Nat.le_refl _
    | some p => rw [totP_snoc hk]; omega
end Go.Sx
