/- Halves of a node, in plain words: which number of children stays; both halves may be. -/
import Derived.Test.YtkcabddbeclokaaGreatCVC
namespace Go.Sx
open Go
def atN (ks : List Bs) (ms : List MD) (k : Nat) : Nat := (ms.takeWhile fun m => decide (chl ks m.lo < k)).length
theorem atN_le (ks : List Bs) (ms : List MD) (k : Nat) : atN ks ms k ≤ ms.length := (List.takeWhile_prefix _).length_le
abbrev ND : Type := (List Int × List Bs) × List MD
def hfA (x : ND) (k : Nat) : ND := ((x.1.1.take k, x.1.2.take (k - 1)), x.2.take (atN x.1.2 x.2 k))
def hfB (x : ND) (k : Nat) : ND := ((x.1.1.drop k, x.1.2.drop k), x.2.drop (atN x.1.2 x.2 k))
def bytesN (x : ND) : Nat := bytesK x.1 + bytesM x.2
def longN (x : ND) (k : Nat) : Nat := max (bytesN (hfA x k)) (bytesN (hfB x k))
/-- The first of the numbers from 2 up to one for which the longer half is shortest. -/
def bestF (x : ND) : Nat → Nat
  | 0 => 0
  | k + 1 => if k < 2 then 0 else if bestF x k = 0 ∨ longN x k < longN x (bestF x k) then k else bestF x k
theorem bestF_bd (x : ND) : ∀ k, bestF x k = 0 ∧ k ≤ 2 ∨ 2 ≤ bestF x k ∧ bestF x k < k
  | 0 => .inl ⟨rfl, by omega⟩
  | k + 1 => by
    have ih := bestF_bd x k
    rw [bestF]
    split
    · exact .inl ⟨rfl, by omega⟩
    · split
      · exact .inr (by omega)
      · exact .inr (by omega)
theorem bestF_2 (x : ND) : bestF x 2 = 0 := by rw [bestF, if_pos (by omega)]
def chkX (size : Int) (x : ND) : Int := chkN size x.1 x.2
/-- How a node is split. -/
def splN (size : Int) (x : ND) : Int × Int :=
  if chkK size x.1 ≠ 0 ∧ chkK size x.1 ≠ 64 then (0, chkK size x.1)
  else if x.1.1.length < 4 then (0, 61)
  else if mayN size x.1.2 x.2 ≠ 0 then (0, mayN size x.1.2 x.2)
  else if chkX size (hfA x (bestF x (x.1.1.length - 1))) ≠ 0 ∨ chkX size (hfB x (bestF x (x.1.1.length - 1))) ≠ 0 then (0, 82)
  else ((bestF x (x.1.1.length - 1) : Nat), 0)
/-! ### Parts of what may be -/
theorem findIdx_drop {α : Type} {p : α → Bool} : ∀ {xs : List α} {k : Nat}, k ≤ xs.findIdx p → (xs.drop k).findIdx p = xs.findIdx p - k
  | _, 0, _ => by simp
  | [], k + 1, _ => by simp
  | x :: xs, k + 1, h => by
    rw [List.findIdx_cons] at h ⊢
    cases hp : p x
    · simp only [hp, cond_false] at h ⊢
      rw [List.drop_succ_cons, findIdx_drop (by omega)]
      omega
    · simp only [hp, cond_true] at h
      omega
theorem chl_drop {ks : List Bs} {lo : Bs} {k : Nat} (h : k ≤ chl ks lo) : chl (ks.drop k) lo = chl ks lo - k := findIdx_drop h
theorem chl_take {ks : List Bs} {lo : Bs} {k : Nat} : chl (ks.take k) lo = min k (chl ks lo) := List.findIdx_take
theorem oneN_0 {size : Int} {ks : List Bs} {p : Option MD} {m : MD} : oneN size ks p m = 0 ↔ chkM size [m] = 0 ∧ withN ks m = true ∧ ∀ a, p = some a → behN size ks a m = true := by
  unfold oneN
  by_cases h1 : chkM size [m] = 0
  · rw [if_neg (by simp [h1])]
    cases h2 : withN ks m
    · simp
    · simp only [Bool.true_eq_false, if_false, h1, true_and]
      cases p with
      | none => simp
      | some a =>
        cases h3 : behN size ks a m
        · simp [h3]
        · show (if behN size ks a m = false then 72 else 0) = (0 : Int) ↔ _
          rw [if_neg (by simp [h3])]
          exact ⟨fun _ b hb => by cases hb; exact h3, fun _ => rfl⟩
  · rw [if_pos h1]
    exact ⟨fun h => absurd h h1, fun h => absurd h.1 h1⟩
theorem mayG_0 {size : Int} {ks : List Bs} {p : Option MD} {m : MD} {r : List MD} : mayG size ks p (m :: r) = 0 ↔ oneN size ks p m = 0 ∧ mayG size ks (some m) r = 0 := by
  rw [mayG]
  by_cases h : oneN size ks p m = 0
  · rw [if_neg (by simp [h])]
    exact ⟨fun g => ⟨h, g⟩, fun g => g.2⟩
  · rw [if_pos h]
    exact ⟨fun g => absurd g h, fun g => absurd g.1 h⟩
/-- What is said of each one, and of each two that stand side by side. -/
theorem mayG_map {size : Int} {ks ks' : List Bs} : ∀ {l : List MD} {p : Option MD}, mayG size ks p l = 0 → (∀ m ∈ l, withN ks m = true → withN ks' m = true) → (∀ a ∈ p.toList ++ l, ∀ b ∈ l, behN size ks a b = true → behN size ks' a b = true) → mayG size ks' p l = 0
  | [], p, _, _, _ => rfl
  | m :: r, p, h, hw, hb => by
    obtain ⟨h1, h2⟩ := mayG_0.1 h
    obtain ⟨g1, g2, g3⟩ := oneN_0.1 h1
    refine mayG_0.2 ⟨oneN_0.2 ⟨g1, hw m (by simp) g2, fun a ha => hb a (by simp [ha]) m (by simp) (g3 a ha)⟩, mayG_map h2 (fun x hx => hw x (by simp [hx])) fun a ha b hb' => hb a (by simp at ha ⊢; rcases ha with rfl | ha <;> simp [*]) b (by simp [hb'])⟩
theorem mayG_none {size : Int} {ks : List Bs} : ∀ {l : List MD} {p : Option MD}, mayG size ks p l = 0 → mayG size ks none l = 0
  | [], _, _ => rfl
  | m :: r, p, h => by
    obtain ⟨h1, h2⟩ := mayG_0.1 h
    obtain ⟨g1, g2, g3⟩ := oneN_0.1 h1
    exact mayG_0.2 ⟨oneN_0.2 ⟨g1, g2, fun a ha => by cases ha⟩, h2⟩
theorem mayG_take {size : Int} {ks : List Bs} : ∀ {l : List MD} {p : Option MD} {k : Nat}, mayG size ks p l = 0 → mayG size ks p (l.take k) = 0
  | [], _, _, _ => by simp [mayG]
  | m :: r, p, 0, _ => by simp [mayG]
  | m :: r, p, k + 1, h => by
    obtain ⟨h1, h2⟩ := mayG_0.1 h
    exact mayG_0.2 ⟨h1, mayG_take h2⟩
theorem mayG_drop {size : Int} {ks : List Bs} : ∀ {l : List MD} {p : Option MD} {k : Nat}, mayG size ks p l = 0 → mayG size ks none (l.drop k) = 0
  | [], _, _, _ => by simp [mayG]
  | m :: r, p, 0, h => mayG_none h
  | m :: r, p, k + 1, h => by
    have h2 := mayG_drop (k := k) (mayG_0.1 h).2
    rwa [List.drop_succ_cons]
/-- Messages stand in the order of the children that they are for. -/
theorem mayG_asc {size : Int} {ks : List Bs} : ∀ {l : List MD} {p : Option MD}, mayG size ks p l = 0 → (∀ a, p = some a → ∀ m ∈ l, chl ks a.lo ≤ chl ks m.lo) ∧ l.Pairwise (fun a b => chl ks a.lo ≤ chl ks b.lo)
  | [], _, _ => ⟨fun _ _ _ h => (by cases h), .nil⟩
  | m :: r, p, h => by
    obtain ⟨h1, h2⟩ := mayG_0.1 h
    obtain ⟨g1, g2, g3⟩ := oneN_0.1 h1
    obtain ⟨i1, i2⟩ := mayG_asc h2
    refine ⟨fun a ha x hx => ?_, .cons (fun x hx => i1 m rfl x hx) i2⟩
    have h3 := g3 a ha
    have h4 : chl ks a.lo ≤ chl ks m.lo := by
      unfold behN at h3
      simp only [Bool.or_eq_true, Bool.and_eq_true, decide_eq_true_eq] at h3
      omega
    rcases List.mem_cons.1 hx with rfl | hx
    · exact h4
    · have := i1 m rfl x hx
      omega
theorem at_filter : ∀ {ks : List Bs} {l : List MD} {k : Nat}, l.Pairwise (fun a b => chl ks a.lo ≤ chl ks b.lo) → l.take (atN ks l k) = l.filter (fun m => decide (chl ks m.lo < k)) ∧ l.drop (atN ks l k) = l.filter (fun m => !decide (chl ks m.lo < k))
  | ks, [], k, _ => by simp [atN]
  | ks, m :: r, k, h => by
    rw [List.pairwise_cons] at h
    by_cases hm : chl ks m.lo < k
    · have e : atN ks (m :: r) k = atN ks r k + 1 := by rw [atN, List.takeWhile_cons_of_pos (by simpa using hm), List.length_cons]; rfl
      obtain ⟨i1, i2⟩ := at_filter (k := k) h.2
      rw [e, List.take_succ_cons, List.drop_succ_cons, i1, i2]
      simp [hm]
    · have e : atN ks (m :: r) k = 0 := by rw [atN, List.takeWhile_cons_of_neg (by simpa using hm)]; rfl
      have h1 : ∀ x ∈ m :: r, ¬ chl ks x.lo < k := fun x hx => by
        rcases List.mem_cons.1 hx with rfl | hx
        · exact hm
        · have := h.1 x hx; omega
      rw [e, List.take_zero, List.drop_zero]
      refine ⟨(List.filter_eq_nil_iff.2 fun x hx => by simpa using h1 x hx).symm, (List.filter_eq_self.2 fun x hx => by simpa using h1 x hx).symm⟩
theorem risK_drop {ks : List Bs} {k : Nat} (h : risK ks = true) : risK (ks.drop k) = true := risK_iff.2 fun i x y h1 h2 => risK_iff.1 h (k + i) x y (by simpa using h1) (by rw [List.getElem?_drop] at h2; rw [← h2]; rfl)
theorem risK_take {ks : List Bs} {k : Nat} (h : risK ks = true) : risK (ks.take k) = true := risK_iff.2 fun i x y h1 h2 => risK_iff.1 h i x y (by
  rw [List.getElem?_take] at h1; split at h1
  · exact h1
  · cases h1) (by
  rw [List.getElem?_take] at h2; split at h2
  · exact h2
  · cases h2)
theorem keysB_drop (ks : List Bs) (i : Nat) : keysB (ks.drop i) ≤ keysB ks := by
  conv => rhs; rw [← List.take_append_drop i ks, keysB_app]
  omega
theorem sumM_drop (l : List MD) (i : Nat) : sumM (l.drop i) ≤ sumM l := by
  have h := sumM_app (l.take i) (l.drop i)
  rw [List.take_append_drop] at h
  omega
theorem mayA {size : Int} {ks : List Bs} {ms : List MD} {k : Nat} (h : mayN size ks ms = 0) (hk : 1 ≤ k) (hkl : k ≤ ks.length) : mayN size (ks.take (k - 1)) (ms.take (atN ks ms k)) = 0 := by
  have ha := (mayG_asc h).2
  have hlt : ∀ m ∈ ms.take (atN ks ms k), chl ks m.lo < k := fun m hm => by
    rw [(at_filter ha).1] at hm
    simpa using (List.mem_filter.1 hm).2
  have hc : ∀ m ∈ ms.take (atN ks ms k), chl (ks.take (k - 1)) m.lo = chl ks m.lo := fun m hm => by
    have := hlt m hm
    rw [chl_take]
    omega
  refine mayG_map (mayG_take h) (fun m hm hw => ?_) fun a ha b hb hw => ?_
  · have h1 := hlt m hm
    unfold withN at hw ⊢
    rw [hc m hm]
    simp only [Bool.or_eq_true, decide_eq_true_eq, List.length_take] at hw ⊢
    by_cases h2 : chl ks m.lo = k - 1
    · exact .inl (.inr (by omega))
    · have h3 : (ks.take (k - 1)).getD (chl ks m.lo) [] = ks.getD (chl ks m.lo) [] := by
        rw [List.getD_eq_getElem?_getD, List.getD_eq_getElem?_getD, List.getElem?_take, if_pos (by omega)]
      rw [h3]
      rcases hw with (hw | hw) | hw
      · exact .inl (.inl hw)
      · omega
      · exact .inr hw
  · simp only [Option.toList_none, List.nil_append] at ha
    unfold behN at hw ⊢
    rw [hc a ha, hc b hb]
    exact hw
theorem mayB {size : Int} {ks : List Bs} {ms : List MD} {k : Nat} (h : mayN size ks ms = 0) : mayN size (ks.drop k) (ms.drop (atN ks ms k)) = 0 := by
  have ha := (mayG_asc h).2
  have hge : ∀ m ∈ ms.drop (atN ks ms k), k ≤ chl ks m.lo := fun m hm => by
    rw [(at_filter ha).2] at hm
    simpa using (List.mem_filter.1 hm).2
  have hc : ∀ m ∈ ms.drop (atN ks ms k), chl (ks.drop k) m.lo = chl ks m.lo - k := fun m hm => chl_drop (hge m hm)
  refine mayG_map (mayG_drop h) (fun m hm hw => ?_) fun a ha b hb hw => ?_
  · have h1 := hge m hm
    have h4 := chl_le ks m.lo
    unfold withN at hw ⊢
    rw [hc m hm]
    have h3 : (ks.drop k).getD (chl ks m.lo - k) [] = ks.getD (chl ks m.lo) [] := by
      rw [List.getD_eq_getElem?_getD, List.getD_eq_getElem?_getD, List.getElem?_drop, show k + (chl ks m.lo - k) = chl ks m.lo by omega]
    rw [h3]
    simp only [Bool.or_eq_true, decide_eq_true_eq, List.length_drop] at hw ⊢
    rcases hw with (hw | hw) | hw
    · exact .inl (.inl hw)
    · exact .inl (.inr (by omega))
    · exact .inr hw
  · simp only [Option.toList_none, List.nil_append] at ha
    unfold behN at hw ⊢
    rw [hc a ha, hc b hb]
    have h1 := hge a ha
    have h2 := hge b hb
    simp only [Bool.or_eq_true, Bool.and_eq_true, decide_eq_true_eq] at hw ⊢
    omega
theorem chkN_mk {size : Int} {d : List Int × List Bs} {ms : List MD} (h1 : chkK size d = 0) (h2 : (bytesK d : Int) ≤ (size - 32) / 2) (h3 : mayN size d.2 ms = 0) (h4 : ((bytesK d + bytesM ms : Nat) : Int) ≤ size - 32) : chkN size d ms = 0 := by
  rw [chkN, if_neg (by simp [h1]), if_neg (by omega), if_neg (by simp [h3]), if_neg (by omega)]
theorem chkK_mk {size : Int} {d : List Int × List Bs} (h : sizedB size = true) (h1 : d.2.length + 1 = d.1.length ∧ 2 ≤ d.1.length ∧ PgOk d.1) (h2 : KyOk size d.2) (h3 : risK d.2 = true) (h4 : (bytesK d : Int) ≤ size - 32) : chkK size d = 0 := by rw [chkK_e h h1 h2 h3, if_neg (by omega)]
/-- Both halves of a node that may be may be. -/
theorem half_may {size : Int} {x : ND} {k : Nat} (h : chkX size x = 0) (h2 : 2 ≤ k) (h3 : k + 2 ≤ x.1.1.length) : chkX size (hfA x k) = 0 ∧ chkX size (hfB x k) = 0 := by
  obtain ⟨⟨ps, ks⟩, ms⟩ := x
  simp only [chkX, hfA, hfB] at *
  obtain ⟨g1, g2, g3, g4⟩ := chkN_0 h
  obtain ⟨hs, ⟨hf, _, hn, hp⟩, hy, hR, hB⟩ := chkK_0 g1
  simp only at hf hn hp hy hR g3
  have a1 : bytesK (ps, ks) = 2 + 4 * ps.length + keysB ks := rfl
  have a2 : bytesM ms = 4 + sumM ms := rfl
  have a3 : bytesK (ps.take k, ks.take (k - 1)) = 2 + 4 * (ps.take k).length + keysB (ks.take (k - 1)) := rfl
  have a4 : bytesK (ps.drop k, ks.drop k) = 2 + 4 * (ps.drop k).length + keysB (ks.drop k) := rfl
  have a5 : bytesM (ms.take (atN ks ms k)) = 4 + sumM (ms.take (atN ks ms k)) := rfl
  have a6 : bytesM (ms.drop (atN ks ms k)) = 4 + sumM (ms.drop (atN ks ms k)) := rfl
  have b1 := keysB_take ks (k - 1)
  have b2 := keysB_drop ks k
  have b3 := sumM_take ms (atN ks ms k)
  have b4 := sumM_drop ms (atN ks ms k)
  rw [List.length_take] at a3
  rw [List.length_drop] at a4
  constructor
  · refine chkN_mk (chkK_mk hs ⟨by simp only [List.length_take]; omega, by simp only [List.length_take]; omega, hn.sublist (List.take_sublist _ _), fun n hn => hp n (List.mem_of_mem_take hn)⟩ (fun y h => hy y (List.mem_of_mem_take h)) (risK_take hR) (by omega)) (by omega) (mayA g3 (by omega) (by omega)) (by omega)
  · refine chkN_mk (chkK_mk hs ⟨by simp only [List.length_drop]; omega, by simp only [List.length_drop]; omega, hn.sublist (List.drop_sublist _ _), fun n hn => hp n (List.mem_of_mem_drop hn)⟩ (fun y h => hy y (List.mem_of_mem_drop h)) (risK_drop hR) (by omega)) (by omega) (mayB g3) (by omega)
end Go.Sx
