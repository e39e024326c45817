/- What messages make of entries, in plain words. -/
import Derived.Test.YtimakbpghggdfaaGreatCZGj
import Derived.Test.YtimakbpghggdfaaGreatCGB
namespace Go.Sx
open Go
def getE (l : List KV) (key : Bs) : Option Bs := ((l.filter (kf key)).getLast?).map KV.v
def hasE (l : List KV) (key v : Bs) : Prop := ∃ e ∈ l, e.k = key ∧ e.v = v
def appO (e : Option Bs) (g : Option (Option Bs)) : Option Bs := match g with
  | some o => o
  | none => e
/-- These are the entries that messages make of others. -/
structure IsApp (l : List KV) (ms : List MD) (out : List KV) : Prop where
  up : RiE out
  eq : ∀ key v, hasE out key v ↔ appO (getE l key) (getM ms key) = some v
theorem getE_cons (e : KV) (t : List KV) (key : Bs) : getE (e :: t) key = match getE t key with
    | some v => some v
    | none => if e.k = key then some e.v else none := by
  unfold getE
  rw [List.filter_cons]
  by_cases h : e.k = key
  · rw [if_pos (by simp [kf, h]), List.getLast?_cons]
    rcases g : (t.filter (kf key)).getLast? with _ | x
    · simp [h]
    · simp
  · rw [if_neg (by simp [kf, h])]
    rcases g : (t.filter (kf key)).getLast? with _ | x
    · simp [h]
    · simp
theorem getE_p : ∀ {l m : List KV}, l.map KV.p = m.map KV.p → ∀ key, getE l key = getE m key
  | [], [], _, _ => rfl
  | [], _ :: _, h, _ => by simp at h
  | _ :: _, [], h, _ => by simp at h
  | a :: l, b :: m, h, key => by
    rw [List.map_cons, List.map_cons] at h
    obtain ⟨h1, h2⟩ := List.cons.inj h
    have e1 : a.k = b.k := congrArg Prod.fst h1
    have e2 : a.v = b.v := congrArg Prod.snd h1
    rw [getE_cons, getE_cons, getE_p h2, e1, e2]
theorem getE_some {l : List KV} {key v : Bs} (h : getE l key = some v) : hasE l key v := by
  induction l with
  | nil => simp [getE] at h
  | cons e t ih =>
    rw [getE_cons] at h
    rcases g : getE t key with _ | x
    · rw [g] at h
      simp only at h
      split at h
      · rename_i k
        exact ⟨e, by simp, k, by simpa using h⟩
      · cases h
    · rw [g] at h
      simp only [Option.some.injEq] at h
      subst h
      obtain ⟨y, hy, k⟩ := ih g
      exact ⟨y, by simp [hy], k⟩
theorem getE_none {l : List KV} {key : Bs} : getE l key = none ↔ ∀ e ∈ l, e.k ≠ key := by
  induction l with
  | nil => simp [getE]
  | cons e t ih =>
    rw [getE_cons]
    rcases g : getE t key with _ | x
    · have := ih.1 g
      by_cases k : e.k = key
      · simp [k]
      · simp only [k, if_false, true_iff]
        intro y hy
        rcases List.mem_cons.1 hy with rfl | hy
        · exact k
        · exact this y hy
    · simp only [reduceCtorEq, false_iff]
      intro h
      have := ih.2 fun y hy => h y (by simp [hy])
      rw [g] at this; cases this
/-- Of each key the last one. -/
def lastsE : List KV → List KV
  | [] => []
  | [e] => [e]
  | e :: e' :: r => if e.k = e'.k then lastsE (e' :: r) else e :: lastsE (e' :: r)
theorem lasts_sub : ∀ (l : List KV), (lastsE l).Sublist l
  | [] => List.Sublist.refl _
  | [e] => List.Sublist.refl _
  | e :: e' :: r => by
    rw [lastsE]
    split
    · exact (lasts_sub (e' :: r)).cons e
    · exact List.Sublist.cons_cons e (lasts_sub (e' :: r))
theorem lasts_is : ∀ {l : List KV}, Asc l → RiE (lastsE l) ∧ ∀ key v, hasE (lastsE l) key v ↔ getE l key = some v
  | [], _ => ⟨List.Pairwise.nil, fun key v => by simp [lastsE, hasE, getE]⟩
  | [e], _ => ⟨List.pairwise_singleton _ _, fun key v => by
    rw [getE_cons]
    show hasE [e] key v ↔ (if e.k = key then some e.v else none) = some v
    by_cases k : e.k = key
    · simp [hasE, k]
    · simp [hasE, k]⟩
  | e :: e' :: r, h => by
    obtain ⟨h1, h2⟩ := List.pairwise_cons.1 h
    obtain ⟨g1, g2⟩ := lasts_is h2
    rw [lastsE]
    by_cases k : e.k = e'.k
    · rw [if_pos k]
      refine ⟨g1, fun key v => ?_⟩
      rw [g2, getE_cons e]
      rcases g : getE (e' :: r) key with _ | x
      · have := getE_none.1 g e' (by simp)
        simp only
        rw [if_neg (by rw [k]; exact this)]
      · simp
    · rw [if_neg k]
      have hlt : ∀ x ∈ e' :: r, cmp e.k x.k < 0 := fun x hx => by
        have a1 := h1 e' (by simp)
        have a2 : cmp e.k e'.k < 0 := by
          have : ¬ cmp e.k e'.k = 0 := fun g => k ((cmp_eq _ _).1 g)
          omega
        rcases List.mem_cons.1 hx with rfl | hx
        · exact a2
        · exact lt_tr a2 ((List.pairwise_cons.1 h2).1 x hx)
      refine ⟨List.pairwise_cons.2 ⟨fun x hx => hlt x ((lasts_sub _).subset hx), g1⟩, fun key v => ?_⟩
      have hc : hasE (e :: lastsE (e' :: r)) key v ↔ (e.k = key ∧ e.v = v) ∨ hasE (lastsE (e' :: r)) key v := by simp [hasE]
      rw [hc, g2, getE_cons e]
      rcases g : getE (e' :: r) key with _ | x
      · by_cases k2 : e.k = key
        · simp [k2]
        · simp [k2]
      · have : ¬ e.k = key := fun k2 => by
          obtain ⟨y, hy, e1, _⟩ := getE_some g
          have := hlt y hy
          rw [e1, k2, cmp_self] at this
          omega
        simp [this]
theorem lasts_step {s : List KV} {i : Nat} {e : KV} (h : s[i]? = some e) : lastsE (s.drop i) = if i + 1 = s.length ∨ ¬ (∀ e', s[i + 1]? = some e' → e.k = e'.k) then e :: lastsE (s.drop (i + 1)) else lastsE (s.drop (i + 1)) := by
  rw [dropG h]
  rcases g : s[i + 1]? with _ | e'
  · have h1 := (List.getElem?_eq_some_iff.1 h).1
    have h2 := List.getElem?_eq_none_iff.1 g
    rw [if_pos (.inl (by omega)), List.drop_of_length_le (by omega)]
    rfl
  · have h1 := (List.getElem?_eq_some_iff.1 g).1
    rw [dropG g, lastsE]
    by_cases k : e.k = e'.k
    · rw [if_pos k, if_neg]
      rintro (q | q)
      · omega
      · exact q fun x hx => by cases hx; exact k
    · rw [if_neg k, if_pos]
      exact .inr fun q => k (q e' rfl)
theorem mem_take {l : List KV} {i : Nat} {x : KV} : x ∈ l.take i ↔ ∃ t, t < i ∧ l[t]? = some x := by
  rw [List.mem_iff_getElem?]
  constructor
  · rintro ⟨t, ht⟩
    rw [List.getElem?_take] at ht
    split at ht
    · rename_i g; exact ⟨t, g, ht⟩
    · cases ht
  · rintro ⟨t, g, ht⟩
    exact ⟨t, by rw [List.getElem?_take, if_pos g]; exact ht⟩
theorem mem_drop {l : List KV} {i : Nat} {x : KV} : x ∈ l.drop i ↔ ∃ t, i ≤ t ∧ l[t]? = some x := by
  rw [List.mem_iff_getElem?]
  constructor
  · rintro ⟨t, ht⟩
    rw [List.getElem?_drop] at ht
    exact ⟨i + t, by omega, ht⟩
  · rintro ⟨t, g, ht⟩
    exact ⟨t - i, by rw [List.getElem?_drop, show i + (t - i) = t by omega]; exact ht⟩
theorem mem_at {l : List KV} {x : KV} : x ∈ l ↔ ∃ t : Nat, l[t]? = some x := List.mem_iff_getElem?
theorem RiE.split {l : List KV} (h : RiE l) {i j : Nat} (hij : i ≤ j) : RiE (l.take i ++ l.drop j) := by
  refine List.Pairwise.sublist ?_ h
  have : l.drop j = (l.drop i).drop (j - i) := by rw [List.drop_drop, show i + (j - i) = j by omega]
  rw [this]
  conv => rhs; rw [← List.take_append_drop i l]
  exact (List.Sublist.refl _).append (List.drop_sublist _ _)
theorem spl_put {out : List KV} {i j : Nat} {e : KV} (hr : RiE out) (hij : i ≤ j) (lo : ∀ x ∈ out.take i, cmp x.k e.k < 0) (hi : ∀ x ∈ out.drop j, cmp e.k x.k < 0) (mid : ∀ t y, i ≤ t → t < j → out[t]? = some y → y.k = e.k) :
    RiE (out.take i ++ e :: out.drop j) ∧ ∀ key v, hasE (out.take i ++ e :: out.drop j) key v ↔ if key = e.k then v = e.v else hasE out key v := by
  have hs := hr.split hij
  obtain ⟨a1, a2, a3⟩ := List.pairwise_append.1 hs
  refine ⟨List.pairwise_append.2 ⟨a1, List.pairwise_cons.2 ⟨hi, a2⟩, fun a ha b hb => ?_⟩, fun key v => ?_⟩
  · rcases List.mem_cons.1 hb with rfl | hb
    · exact lo a ha
    · exact a3 a ha b hb
  · split
    · rename_i hk
      subst hk
      constructor
      · rintro ⟨x, hx, k1, k2⟩
        rcases List.mem_append.1 hx with hx | hx
        · have := lo x hx; rw [k1, cmp_self] at this; omega
        · rcases List.mem_cons.1 hx with rfl | hx
          · exact k2.symm
          · have := hi x hx; rw [k1, cmp_self] at this; omega
      · rintro rfl
        exact ⟨e, by simp, rfl, rfl⟩
    · rename_i hk
      constructor
      · rintro ⟨x, hx, k1, k2⟩
        rcases List.mem_append.1 hx with hx | hx
        · exact ⟨x, List.mem_of_mem_take hx, k1, k2⟩
        · rcases List.mem_cons.1 hx with rfl | hx
          · exact absurd k1.symm hk
          · exact ⟨x, List.mem_of_mem_drop hx, k1, k2⟩
      · rintro ⟨x, hx, k1, k2⟩
        obtain ⟨t, ht⟩ := mem_at.1 hx
        rcases Nat.lt_or_ge t i with g | g
        · exact ⟨x, List.mem_append_left _ (mem_take.2 ⟨t, g, ht⟩), k1, k2⟩
        · rcases Nat.lt_or_ge t j with g2 | g2
          · exact absurd (k1.symm.trans (mid t x g g2 ht)) hk
          · exact ⟨x, List.mem_append_right _ (List.mem_cons_of_mem _ (mem_drop.2 ⟨t, g2, ht⟩)), k1, k2⟩
theorem spl_del {out : List KV} {i j : Nat} {P : Bs → Prop} (hr : RiE out) (hij : i ≤ j) (lo : ∀ x ∈ out.take i, ¬ P x.k) (hi : ∀ x ∈ out.drop j, ¬ P x.k) (mid : ∀ t y, i ≤ t → t < j → out[t]? = some y → P y.k) :
    RiE (out.take i ++ out.drop j) ∧ ∀ key v, hasE (out.take i ++ out.drop j) key v ↔ hasE out key v ∧ ¬ P key := by
  refine ⟨hr.split hij, fun key v => ⟨?_, ?_⟩⟩
  · rintro ⟨x, hx, k1, k2⟩
    rcases List.mem_append.1 hx with hx | hx
    · exact ⟨⟨x, List.mem_of_mem_take hx, k1, k2⟩, by rw [← k1]; exact lo x hx⟩
    · exact ⟨⟨x, List.mem_of_mem_drop hx, k1, k2⟩, by rw [← k1]; exact hi x hx⟩
  · rintro ⟨⟨x, hx, k1, k2⟩, hp⟩
    obtain ⟨t, ht⟩ := mem_at.1 hx
    rcases Nat.lt_or_ge t i with g | g
    · exact ⟨x, List.mem_append_left _ (mem_take.2 ⟨t, g, ht⟩), k1, k2⟩
    · rcases Nat.lt_or_ge t j with g2 | g2
      · exact absurd (by rw [← k1]; exact mid t x g g2 ht) hp
      · exact ⟨x, List.mem_append_right _ (mem_drop.2 ⟨t, g2, ht⟩), k1, k2⟩
theorem app_snoc (a : List MD) (m : MD) (key : Bs) (e : Option Bs) : appO e (getM (a ++ [m]) key) = if hasB (saidR m) key = true then (if m.kd = 1 then some m.v else none) else appO e (getM a key) := by
  rw [getM_app]
  simp only [getM]
  by_cases h : hasB (saidR m) key = true
  · rw [if_pos h, if_pos h]; rfl
  · rw [if_neg h, if_neg h]
theorem At1.lo' {out : List KV} {key : Bs} {i : Nat} {is : Bool} (h : At1 out key i is) : ∀ x ∈ out.take i, cmp x.k key < 0 := fun x hx => by
  obtain ⟨t, g, ht⟩ := mem_take.1 hx
  exact h.lo t x g ht
theorem At1.hi' {out : List KV} {key : Bs} {i : Nat} {is : Bool} (h : At1 out key i is) : ∀ x ∈ out.drop i, 0 ≤ cmp x.k key := fun x hx => by
  obtain ⟨t, g, ht⟩ := mem_drop.1 hx
  exact h.hi t x g ht
/-- Behind it all lies above. -/
theorem At1.up {out : List KV} {key : Bs} {i : Nat} {is : Bool} (hr : RiE out) (h : At1 out key i is) : ∀ x ∈ out.drop (if is = true then i + 1 else i), cmp key x.k < 0 := fun x hx => by
  obtain ⟨t, g, ht⟩ := mem_drop.1 hx
  have hti : i ≤ t := by split at g <;> omega
  have h0 := h.hi t x hti ht
  have hne : ¬ cmp x.k key = 0 := fun e => by
    have e := (cmp_eq _ _).1 e
    rcases Nat.lt_or_eq_of_le hti with q | q
    · have hil := (List.getElem?_eq_some_iff.1 ht).1
      obtain ⟨y, hy⟩ := get_lt out i (by omega)
      have h1 := h.hi i y (Nat.le_refl _) hy
      have h2 := hr.lt q hy ht
      rw [e] at h2
      omega
    · subst q
      have : is = true := h.is.2 ⟨x, ht, e⟩
      rw [if_pos this] at g
      omega
  have := cmp_anti key x.k
  omega
theorem said_one {m : MD} (h : m.kd = 1 ∨ m.kd = 2) : saidR m = (m.lo, m.lo ++ [0], false) := by unfold saidR; rw [if_pos h]
theorem IsApp.put {l : List KV} {a : List MD} {out : List KV} {m : MD} {e : KV} {i : Nat} {is : Bool} (h : IsApp l a out) (hk : m.kd = 1) (h1 : At1 out m.lo i is) (ek : e.k = m.lo) (ev : e.v = m.v) : IsApp l (a ++ [m]) (out.take i ++ e :: out.drop (if is = true then i + 1 else i)) := by
  obtain ⟨g1, g2⟩ := spl_put (e := e) (i := i) (j := if is = true then i + 1 else i) h.up (by split <;> omega) (by rw [ek]; exact h1.lo') (by rw [ek]; exact h1.up h.up) (fun t y q1 q2 hy => by
    split at q2
    · rename_i q
      obtain ⟨z, hz, e1⟩ := h1.is.1 q
      have : t = i := by omega
      rw [this, hz] at hy; cases hy
      rw [e1, ek]
    · omega)
  refine ⟨g1, fun key v => ?_⟩
  rw [g2, app_snoc, said_one (.inl hk), if_pos hk, ek, ev]
  by_cases q : key = m.lo
  · rw [if_pos q, if_pos (has_one.2 q)]
    simp [eq_comm]
  · rw [if_neg q, if_neg (fun k => q (has_one.1 k)), h.eq]
theorem IsApp.takeT {l : List KV} {a : List MD} {out : List KV} {m : MD} {i : Nat} {is : Bool} (h : IsApp l a out) (hk : m.kd = 2) (h1 : At1 out m.lo i is) (hi : is = true) : IsApp l (a ++ [m]) (out.take i ++ out.drop (i + 1)) := by
  have hup := h1.up h.up
  rw [if_pos hi] at hup
  obtain ⟨g1, g2⟩ := spl_del (P := fun k => k = m.lo) (i := i) (j := i + 1) h.up (by omega) (fun x hx e => by have := h1.lo' x hx; rw [e, cmp_self] at this; omega) (fun x hx e => by have := hup x hx; rw [e, cmp_self] at this; omega) (fun t y q1 q2 hy => by
    obtain ⟨z, hz, e1⟩ := h1.is.1 hi
    have : t = i := by omega
    rw [this, hz] at hy; cases hy
    exact e1)
  refine ⟨g1, fun key v => ?_⟩
  rw [g2, app_snoc, said_one (.inr hk), if_neg (show ¬ m.kd = 1 by omega), h.eq]
  by_cases q : key = m.lo
  · rw [if_pos (has_one.2 q)]; simp [q]
  · rw [if_neg (fun k => q (has_one.1 k))]; simp [q]
theorem IsApp.keep {l : List KV} {a : List MD} {out : List KV} {m : MD} (h : IsApp l a out) (hk : m.kd ≠ 1) (hn : ∀ e ∈ out, ¬ hasB (saidR m) e.k = true) : IsApp l (a ++ [m]) out := by
  refine ⟨h.up, fun key v => ?_⟩
  rw [app_snoc, if_neg hk]
  by_cases q : hasB (saidR m) key = true
  · rw [if_pos q]
    refine ⟨fun ⟨e, he, k1, _⟩ => absurd (by rw [k1]; exact q) (hn e he), fun k => by cases k⟩
  · rw [if_neg q, h.eq]
theorem IsApp.takeF {l : List KV} {a : List MD} {out : List KV} {m : MD} {i : Nat} {is : Bool} (h : IsApp l a out) (hk : m.kd = 2) (h1 : At1 out m.lo i is) (hi : is = false) : IsApp l (a ++ [m]) out := by
  have hup := h1.up h.up
  rw [if_neg (by rw [hi]; decide)] at hup
  refine h.keep (by omega) fun e he q => ?_
  rw [said_one (.inr hk), has_one] at q
  obtain ⟨t, ht⟩ := mem_at.1 he
  rcases Nat.lt_or_ge t i with g | g
  · have := h1.lo t e g ht; rw [q, cmp_self] at this; omega
  · have := hup e (mem_drop.2 ⟨t, g, ht⟩); rw [q, cmp_self] at this; omega
theorem said_cut {m : MD} (h : m.kd = 3) : saidR m = (m.lo, m.hi, false) := by unfold saidR; rw [if_neg (by omega), if_pos h]
theorem has_cut {m : MD} (h : m.kd = 3) {key : Bs} : hasB (saidR m) key = true ↔ cmp m.lo key ≤ 0 ∧ cmp key m.hi < 0 := by
  rw [said_cut h, hasB_iff]
  exact ⟨fun g => ⟨g.1, g.2.resolve_left (by simp)⟩, fun g => ⟨g.1, .inr g.2⟩⟩
theorem IsApp.cut {l : List KV} {a : List MD} {out : List KV} {m : MD} {i k : Nat} {is ks : Bool} (h : IsApp l a out) (hk : m.kd = 3) (h1 : At1 out m.lo i is) (h2 : At1 out m.hi k ks) : if i < k then IsApp l (a ++ [m]) (out.take i ++ out.drop k) else IsApp l (a ++ [m]) out := by
  have hlo : ∀ x ∈ out.take i, ¬ hasB (saidR m) x.k = true := fun x hx q => by
    have := h1.lo' x hx
    have := ((has_cut hk).1 q).1
    have := cmp_anti m.lo x.k
    omega
  have hhi : ∀ x ∈ out.drop k, ¬ hasB (saidR m) x.k = true := fun x hx q => by
    have := h2.hi' x hx
    have := ((has_cut hk).1 q).2
    omega
  split
  · rename_i hik
    obtain ⟨g1, g2⟩ := spl_del (P := fun key => hasB (saidR m) key = true) (i := i) (j := k) h.up (by omega) hlo hhi (fun t y q1 q2 hy => by
      rw [has_cut hk]
      have a1 := h1.hi t y q1 hy
      have a2 := h2.lo t y q2 hy
      have := cmp_anti m.lo y.k
      exact ⟨by omega, a2⟩)
    refine ⟨g1, fun key v => ?_⟩
    rw [g2, app_snoc, if_neg (show ¬ m.kd = 1 by omega), h.eq]
    by_cases q : hasB (saidR m) key = true
    · rw [if_pos q]; simp [q]
    · rw [if_neg q]; simp [q]
  · rename_i hik
    refine h.keep (by omega) fun e he => ?_
    obtain ⟨t, ht⟩ := mem_at.1 he
    rcases Nat.lt_or_ge t i with g | g
    · exact hlo e (mem_take.2 ⟨t, g, ht⟩)
    · exact hhi e (mem_drop.2 ⟨t, by omega, ht⟩)
theorem IsApp.none {l : List KV} {a : List MD} {out : List KV} {m : MD} (h : IsApp l a out) (h1 : m.kd ≠ 1) (h2 : m.kd ≠ 2) (h3 : m.kd ≠ 3) : IsApp l (a ++ [m]) out := by
  refine h.keep h1 fun e _ q => ?_
  have : saidR m = t30 := by unfold saidR; rw [if_neg (by omega), if_neg h3]
  rw [this] at q
  exact has_em emR_t30 q
/-- They rise, and so there are no two such lists. -/
theorem IsApp.uniq {l l' : List KV} {a b : List MD} {out out' : List KV} (h : IsApp l a out) (h' : IsApp l' b out') (he : ∀ key, appO (getE l key) (getM a key) = appO (getE l' key) (getM b key)) : out.map KV.p = out'.map KV.p := by
  have hm : ∀ x : Bs × Bs, x ∈ out.map KV.p ↔ x ∈ out'.map KV.p := fun x => by
    have e1 : ∀ {o : List KV}, x ∈ o.map KV.p ↔ hasE o x.1 x.2 := fun {o} => by
      rw [List.mem_map]
      exact ⟨fun ⟨e, he, k⟩ => ⟨e, he, by rw [← k]; rfl, by rw [← k]; rfl⟩, fun ⟨e, he, k1, k2⟩ => ⟨e, he, by rw [KV.p, k1, k2]⟩⟩
    rw [e1, e1, h.eq, h'.eq, he]
  refine eq_of_rise (lt := fun x y : Bs × Bs => cmp x.1 y.1 < 0) (fun x y g1 g2 => ?_) (List.pairwise_map.2 h.up) (List.pairwise_map.2 h'.up) hm
  have := cmp_anti x.1 y.1
  omega
end Go.Sx

