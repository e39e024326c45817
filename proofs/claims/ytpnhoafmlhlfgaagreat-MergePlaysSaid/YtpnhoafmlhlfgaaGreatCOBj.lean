/- Part of a proof: several parts of a walk, one behind the other. -/
import Derived.Test.YtpnhoafmlhlfgaaGreatCZGj
import Derived.Test.YtpnhoafmlhlfgaaGreatCGBj
import Derived.Test.YtpnhoafmlhlfgaaGreatCQBj
import Derived.Test.YtpnhoafmlhlfgaaGreatCMBj
import Derived.Test.YtpnhoafmlhlfgaaGreatCQCj
namespace Go.Sx
open Go
def getE (l : List KV) (key : Bs) : Option Bs := ((l.filter (kf key)).getLast?).map KV.v
def hasE (l : List KV) (key v : Bs) : Prop := ∃ e ∈ l, e.k = key ∧ e.v = v
def appO (e : Option Bs) (g : Option (Option Bs)) : Option Bs := match g with
  | some o => o
  | none => e
/-- These are the entries that messages make of others. -/
structure IsApp (l : List KV) (ms : List MD) (out : List KV) : Prop where
  up : RiE out
  eq : ∀ key v, hasE out key v ↔ appO (getE l key) (getM ms key) = some v
theorem getE_cons (e : KV) (t : List KV) (key : Bs) : getE (e :: t) key = match getE t key with
    | some v => some v
    | none => if e.k = key then some e.v else none := by
  unfold getE
  rw [List.filter_cons]
  by_cases h : e.k = key
  · rw [if_pos (by simp [kf, h]), List.getLast?_cons]
    rcases g : (t.filter (kf key)).getLast? with _ | x
    · simp [h]
    · simp
  · rw [if_neg (by simp [kf, h])]
    rcases g : (t.filter (kf key)).getLast? with _ | x
    · simp [h]
    · simp
theorem getE_some {l : List KV} {key v : Bs} (h : getE l key = some v) : hasE l key v := by
  induction l with
  | nil => simp [getE] at h
  | cons e t ih =>
    rw [getE_cons] at h
    rcases g : getE t key with _ | x
    · rw [g] at h
      simp only at h
      split at h
      · rename_i k
        exact ⟨e, by simp, k, by simpa using h⟩
      · cases h
    · rw [g] at h
      simp only [Option.some.injEq] at h
      subst h
      obtain ⟨y, hy, k⟩ := ih g
      exact ⟨y, by simp [hy], k⟩
theorem getE_none {l : List KV} {key : Bs} : getE l key = none ↔ ∀ e ∈ l, e.k ≠ key := by
  induction l with
  | nil => simp [getE]
  | cons e t ih =>
    rw [getE_cons]
    rcases g : getE t key with _ | x
    · have := ih.1 g
      by_cases k : e.k = key
      · simp [k]
      · simp only [k, if_false, true_iff]
        intro y hy
        rcases List.mem_cons.1 hy with rfl | hy
        · exact k
        · exact this y hy
    · simp only [reduceCtorEq, false_iff]
      intro h
      have := ih.2 fun y hy => h y (by simp [hy])
      rw [g] at this; cases this
/-- Of each key the last one. -/
def lastsE : List KV → List KV
  | [] => []
  | [e] => [e]
  | e :: e' :: r => if e.k = e'.k then lastsE (e' :: r) else e :: lastsE (e' :: r)
theorem lasts_sub : ∀ (l : List KV), (lastsE l).Sublist l
  | [] => List.Sublist.refl _
  | [e] => List.Sublist.refl _
  | e :: e' :: r => by
    rw [lastsE]
    split
    · exact (lasts_sub (e' :: r)).cons e
    · exact List.Sublist.cons_cons e (lasts_sub (e' :: r))
theorem lasts_is : ∀ {l : List KV}, Asc l → RiE (lastsE l) ∧ ∀ key v, hasE (lastsE l) key v ↔ getE l key = some v
  | [], _ => ⟨List.Pairwise.nil, fun key v => by simp [lastsE, hasE, getE]⟩
  | [e], _ => ⟨List.pairwise_singleton _ _, fun key v => by
    rw [getE_cons]
    show hasE [e] key v ↔ (if e.k = key then some e.v else none) = some v
    by_cases k : e.k = key
    · simp [hasE, k]
    · simp [hasE, k]⟩
  | e :: e' :: r, h => by
    obtain ⟨h1, h2⟩ := List.pairwise_cons.1 h
    obtain ⟨g1, g2⟩ := lasts_is h2
    rw [lastsE]
    by_cases k : e.k = e'.k
    · rw [if_pos k]
      refine ⟨g1, fun key v => ?_⟩
      rw [g2, getE_cons e]
      rcases g : getE (e' :: r) key with _ | x
      · have := getE_none.1 g e' (by simp)
        simp only
        rw [if_neg (by rw [k]; exact this)]
      · simp
    · rw [if_neg k]
      have hlt : ∀ x ∈ e' :: r, cmp e.k x.k < 0 := fun x hx => by
        have a1 := h1 e' (by simp)
        have a2 : cmp e.k e'.k < 0 := by
          have : ¬ cmp e.k e'.k = 0 := fun g => k ((cmp_eq _ _).1 g)
          omega
        rcases List.mem_cons.1 hx with rfl | hx
        · exact a2
        · exact lt_tr a2 ((List.pairwise_cons.1 h2).1 x hx)
      refine ⟨List.pairwise_cons.2 ⟨fun x hx => hlt x ((lasts_sub _).subset hx), g1⟩, fun key v => ?_⟩
      have hc : hasE (e :: lastsE (e' :: r)) key v ↔ (e.k = key ∧ e.v = v) ∨ hasE (lastsE (e' :: r)) key v := by simp [hasE]
      rw [hc, g2, getE_cons e]
      rcases g : getE (e' :: r) key with _ | x
      · by_cases k2 : e.k = key
        · simp [k2]
        · simp [k2]
      · have : ¬ e.k = key := fun k2 => by
          obtain ⟨y, hy, e1, _⟩ := getE_some g
          have := hlt y hy
          rw [e1, k2, cmp_self] at this
          omega
        simp [this]
theorem mem_take {l : List KV} {i : Nat} {x : KV} : x ∈ l.take i ↔ ∃ t, t < i ∧ l[t]? = some x := by
  rw [List.mem_iff_getElem?]
  constructor
  · rintro ⟨t, ht⟩
    rw [List.getElem?_take] at ht
    split at ht
    · rename_i g; exact ⟨t, g, ht⟩
    · cases ht
  · rintro ⟨t, g, ht⟩
    exact ⟨t, by rw [List.getElem?_take, if_pos g]; exact ht⟩
theorem mem_drop {l : List KV} {i : Nat} {x : KV} : x ∈ l.drop i ↔ ∃ t, i ≤ t ∧ l[t]? = some x := by
  rw [List.mem_iff_getElem?]
  constructor
  · rintro ⟨t, ht⟩
    rw [List.getElem?_drop] at ht
    exact ⟨i + t, by omega, ht⟩
  · rintro ⟨t, g, ht⟩
    exact ⟨t - i, by rw [List.getElem?_drop, show i + (t - i) = t by omega]; exact ht⟩
theorem mem_at {l : List KV} {x : KV} : x ∈ l ↔ ∃ t : Nat, l[t]? = some x := List.mem_iff_getElem?
theorem RiE.split {l : List KV} (h : RiE l) {i j : Nat} (hij : i ≤ j) : RiE (l.take i ++ l.drop j) := by
  refine List.Pairwise.sublist ?_ h
  have : l.drop j = (l.drop i).drop (j - i) := by rw [List.drop_drop, show i + (j - i) = j by omega]
  rw [this]
  conv => rhs; rw [← List.take_append_drop i l]
  exact (List.Sublist.refl _).append (List.drop_sublist _ _)
theorem spl_put {out : List KV} {i j : Nat} {e : KV} (hr : RiE out) (hij : i ≤ j) (lo : ∀ x ∈ out.take i, cmp x.k e.k < 0) (hi : ∀ x ∈ out.drop j, cmp e.k x.k < 0) (mid : ∀ t y, i ≤ t → t < j → out[t]? = some y → y.k = e.k) :
    RiE (out.take i ++ e :: out.drop j) ∧ ∀ key v, hasE (out.take i ++ e :: out.drop j) key v ↔ if key = e.k then v = e.v else hasE out key v := by
  have hs := hr.split hij
  obtain ⟨a1, a2, a3⟩ := List.pairwise_append.1 hs
  refine ⟨List.pairwise_append.2 ⟨a1, List.pairwise_cons.2 ⟨hi, a2⟩, fun a ha b hb => ?_⟩, fun key v => ?_⟩
  · rcases List.mem_cons.1 hb with rfl | hb
    · exact lo a ha
    · exact a3 a ha b hb
  · split
    · rename_i hk
      subst hk
      constructor
      · rintro ⟨x, hx, k1, k2⟩
        rcases List.mem_append.1 hx with hx | hx
        · have := lo x hx; rw [k1, cmp_self] at this; omega
        · rcases List.mem_cons.1 hx with rfl | hx
          · exact k2.symm
          · have := hi x hx; rw [k1, cmp_self] at this; omega
      · rintro rfl
        exact ⟨e, by simp, rfl, rfl⟩
    · rename_i hk
      constructor
      · rintro ⟨x, hx, k1, k2⟩
        rcases List.mem_append.1 hx with hx | hx
        · exact ⟨x, List.mem_of_mem_take hx, k1, k2⟩
        · rcases List.mem_cons.1 hx with rfl | hx
          · exact absurd k1.symm hk
          · exact ⟨x, List.mem_of_mem_drop hx, k1, k2⟩
      · rintro ⟨x, hx, k1, k2⟩
        obtain ⟨t, ht⟩ := mem_at.1 hx
        rcases Nat.lt_or_ge t i with g | g
        · exact ⟨x, List.mem_append_left _ (mem_take.2 ⟨t, g, ht⟩), k1, k2⟩
        · rcases Nat.lt_or_ge t j with g2 | g2
          · exact absurd (k1.symm.trans (mid t x g g2 ht)) hk
          · exact ⟨x, List.mem_append_right _ (List.mem_cons_of_mem _ (mem_drop.2 ⟨t, g2, ht⟩)), k1, k2⟩
theorem app_snoc (a : List MD) (m : MD) (key : Bs) (e : Option Bs) : appO e (getM (a ++ [m]) key) = if hasB (saidR m) key = true then (if m.kd = 1 then some m.v else none) else appO e (getM a key) := by
  rw [getM_app]
  simp only [getM]
  by_cases h : hasB (saidR m) key = true
  · rw [if_pos h, if_pos h]; rfl
  · rw [if_neg h, if_neg h]
theorem At1.lo' {out : List KV} {key : Bs} {i : Nat} {is : Bool} (h : At1 out key i is) : ∀ x ∈ out.take i, cmp x.k key < 0 := fun x hx => by
  obtain ⟨t, g, ht⟩ := mem_take.1 hx
  exact h.lo t x g ht
theorem At1.hi' {out : List KV} {key : Bs} {i : Nat} {is : Bool} (h : At1 out key i is) : ∀ x ∈ out.drop i, 0 ≤ cmp x.k key := fun x hx => by
  obtain ⟨t, g, ht⟩ := mem_drop.1 hx
  exact h.hi t x g ht
/-- Behind it all lies above. -/
theorem At1.up {out : List KV} {key : Bs} {i : Nat} {is : Bool} (hr : RiE out) (h : At1 out key i is) : ∀ x ∈ out.drop (if is = true then i + 1 else i), cmp key x.k < 0 := fun x hx => by
  obtain ⟨t, g, ht⟩ := mem_drop.1 hx
  have hti : i ≤ t := by split at g <;> omega
  have h0 := h.hi t x hti ht
  have hne : ¬ cmp x.k key = 0 := fun e => by
    have e := (cmp_eq _ _).1 e
    rcases Nat.lt_or_eq_of_le hti with q | q
    · have hil := (List.getElem?_eq_some_iff.1 ht).1
      obtain ⟨y, hy⟩ := get_lt out i (by omega)
      have h1 := h.hi i y (Nat.le_refl _) hy
      have h2 := hr.lt q hy ht
      rw [e] at h2
      omega
    · subst q
      have : is = true := h.is.2 ⟨x, ht, e⟩
      rw [if_pos this] at g
      omega
  have := cmp_anti key x.k
  omega
theorem said_one {m : MD} (h : m.kd = 1 ∨ m.kd = 2) : saidR m = (m.lo, m.lo ++ [0], false) := by unfold saidR; rw [if_pos h]
theorem IsApp.put {l : List KV} {a : List MD} {out : List KV} {m : MD} {e : KV} {i : Nat} {is : Bool} (h : IsApp l a out) (hk : m.kd = 1) (h1 : At1 out m.lo i is) (ek : e.k = m.lo) (ev : e.v = m.v) : IsApp l (a ++ [m]) (out.take i ++ e :: out.drop (if is = true then i + 1 else i)) := by
  obtain ⟨g1, g2⟩ := spl_put (e := e) (i := i) (j := if is = true then i + 1 else i) h.up (by split <;> omega) (by rw [ek]; exact h1.lo') (by rw [ek]; exact h1.up h.up) (fun t y q1 q2 hy => by
    split at q2
    · rename_i q
      obtain ⟨z, hz, e1⟩ := h1.is.1 q
      have : t = i := by omega
      rw [this, hz] at hy; cases hy
      rw [e1, ek]
    · omega)
  refine ⟨g1, fun key v => ?_⟩
  rw [g2, app_snoc, said_one (.inl hk), if_pos hk, ek, ev]
  by_cases q : key = m.lo
  · rw [if_pos q, if_pos (has_one.2 q)]
    simp [eq_comm]
  · rw [if_neg q, if_neg (fun k => q (has_one.1 k)), h.eq]
theorem IsApp.keep {l : List KV} {a : List MD} {out : List KV} {m : MD} (h : IsApp l a out) (hk : m.kd ≠ 1) (hn : ∀ e ∈ out, ¬ hasB (saidR m) e.k = true) : IsApp l (a ++ [m]) out := by
  refine ⟨h.up, fun key v => ?_⟩
  rw [app_snoc, if_neg hk]
  by_cases q : hasB (saidR m) key = true
  · rw [if_pos q]
    refine ⟨fun ⟨e, he, k1, _⟩ => absurd (by rw [k1]; exact q) (hn e he), fun k => by cases k⟩
  · rw [if_neg q, h.eq]
theorem said_cut {m : MD} (h : m.kd = 3) : saidR m = (m.lo, m.hi, false) := by unfold saidR; rw [if_neg (by omega), if_pos h]
theorem IsApp.none {l : List KV} {a : List MD} {out : List KV} {m : MD} (h : IsApp l a out) (h1 : m.kd ≠ 1) (h2 : m.kd ≠ 2) (h3 : m.kd ≠ 3) : IsApp l (a ++ [m]) out := by
  refine h.keep h1 fun e _ q => ?_
  have : saidR m = t30 := by unfold saidR; rw [if_neg (by omega), if_neg h3]
  rw [this] at q
  exact has_em emR_t30 q
/-- They rise, and so there are no two such lists. -/
theorem IsApp.uniq {l l' : List KV} {a b : List MD} {out out' : List KV} (h : IsApp l a out) (h' : IsApp l' b out') (he : ∀ key, appO (getE l key) (getM a key) = appO (getE l' key) (getM b key)) : out.map KV.p = out'.map KV.p := by
  have hm : ∀ x : Bs × Bs, x ∈ out.map KV.p ↔ x ∈ out'.map KV.p := fun x => by
    have e1 : ∀ {o : List KV}, x ∈ o.map KV.p ↔ hasE o x.1 x.2 := fun {o} => by
      rw [List.mem_map]
      exact ⟨fun ⟨e, he, k⟩ => ⟨e, he, by rw [← k]; rfl, by rw [← k]; rfl⟩, fun ⟨e, he, k1, k2⟩ => ⟨e, he, by rw [KV.p, k1, k2]⟩⟩
    rw [e1, e1, h.eq, h'.eq, he]
  refine eq_of_rise (lt := fun x y : Bs × Bs => cmp x.1 y.1 < 0) (fun x y g1 g2 => ?_) (List.pairwise_map.2 h.up) (List.pairwise_map.2 h'.up) hm
  have := cmp_anti x.1 y.1
  omega
end Go.Sx
namespace Go.Sx
open Go
def mrg (key : Int → Bs) : Nat → List Int → List Int → List Int
  | 0, a, b => a ++ b
  | _ + 1, [], b => b
  | _ + 1, a, [] => a
  | n + 1, x :: a, y :: b => if cmp (key x) (key y) ≤ 0 then x :: mrg key n a (y :: b) else y :: mrg key n (x :: a) b
abbrev mrgL (key : Int → Bs) (a b : List Int) : List Int := mrg key (a.length + b.length) a b
theorem mrg_nilL {key : Int → Bs} : ∀ {n : Nat} {b : List Int}, mrg key n [] b = b
  | 0, _ => rfl
  | _ + 1, _ => by simp [mrg]
theorem mrg_nilR {key : Int → Bs} : ∀ {n : Nat} {a : List Int}, mrg key n a [] = a
  | 0, _ => by simp [mrg]
  | _ + 1, [] => by simp [mrg]
  | _ + 1, _ :: _ => by simp [mrg]
theorem mrgL_le {key : Int → Bs} {x y : Int} {a b : List Int} (h : cmp (key x) (key y) ≤ 0) : mrgL key (x :: a) (y :: b) = x :: mrgL key a (y :: b) := by
  unfold mrgL
  rw [show (x :: a).length + (y :: b).length = (a.length + (y :: b).length) + 1 by simp only [List.length_cons]; omega, mrg, if_pos h]
theorem mrgL_gt {key : Int → Bs} {x y : Int} {a b : List Int} (h : ¬ cmp (key x) (key y) ≤ 0) : mrgL key (x :: a) (y :: b) = y :: mrgL key (x :: a) b := by
  unfold mrgL
  rw [show (x :: a).length + (y :: b).length = ((x :: a).length + b.length) + 1 by simp only [List.length_cons]; omega, mrg, if_neg h]
theorem mrg_is {g : Int → KV} : ∀ (n : Nat) (a b : List Int), a.length + b.length ≤ n → Asc (a.map g) → Asc (b.map g) → Mrg (a.map g ++ b.map g) ((mrgL (fun i => (g i).k) a b).map g)
  | n, [], b, _, _, hb => by
    unfold mrgL
    rw [mrg_nilL]
    exact ⟨Stb.refl _, hb⟩
  | n, x :: a, [], _, ha, _ => by
    unfold mrgL
    rw [mrg_nilR, List.map_nil, List.append_nil]
    exact ⟨Stb.refl _, ha⟩
  | 0, x :: a, y :: b, h, _, _ => by simp at h
  | n + 1, x :: a, y :: b, h, ha, hb => by
    obtain ⟨a1, a2⟩ := List.pairwise_cons.1 ha
    obtain ⟨b1, b2⟩ := List.pairwise_cons.1 hb
    simp only [List.length_cons] at h
    by_cases hc : cmp (g x).k (g y).k ≤ 0
    · rw [mrgL_le hc]
      have ih := mrg_is n a (y :: b) (by simp only [List.length_cons]; omega) a2 hb
      refine ⟨(Stb.refl [g x]).app ih.st, List.pairwise_cons.2 ⟨fun e he => ?_, ih.up⟩⟩
      rcases List.mem_append.1 (ih.st.perm.mem_iff.2 he) with h1 | h1
      · exact a1 e h1
      · rcases List.mem_cons.1 h1 with rfl | h1
        · exact hc
        · exact (cmp_lt_trans _ _ _ hc (b1 e h1)).1
    · rw [mrgL_gt hc]
      have ih := mrg_is n (x :: a) b (by simp only [List.length_cons]; omega) ha b2
      have hyx : cmp (g y).k (g x).k < 0 := by have := cmp_anti (g x).k (g y).k; omega
      have hall : ∀ e ∈ (x :: a).map g, cmp (g y).k e.k < 0 := by
        intro e he
        rcases List.mem_cons.1 he with rfl | he
        · exact hyx
        · exact lt_tr hyx (a1 e he)
      refine ⟨?_, List.pairwise_cons.2 ⟨fun e he => ?_, ih.up⟩⟩
      · have s1 : Stb ((x :: a).map g ++ (g y :: b.map g)) (g y :: ((x :: a).map g ++ b.map g)) := by
          have h1 := (Stb.swap (u := (x :: a).map g) (v := [g y]) fun e he f hf q => by
            have := hall e he
            rw [List.mem_singleton.1 hf] at q
            rw [q, cmp_self] at this
            omega).app (Stb.refl (b.map g))
          simpa using h1
        exact s1.trans ((Stb.refl [g y]).app ih.st)
      · rcases List.mem_append.1 (ih.st.perm.mem_iff.2 he) with h1 | h1
        · have := hall e h1
          omega
        · exact b1 e h1
theorem mrg_mem {key : Int → Bs} {i : Int} : ∀ (n : Nat) (a b : List Int), a.length + b.length ≤ n → i ∈ mrgL key a b → i ∈ a ∨ i ∈ b
  | n, [], b, _, h => by unfold mrgL at h; rw [mrg_nilL] at h; exact .inr h
  | n, x :: a, [], _, h => by unfold mrgL at h; rw [mrg_nilR] at h; exact .inl h
  | 0, x :: a, y :: b, h, _ => by simp at h
  | n + 1, x :: a, y :: b, h, hi => by
    simp only [List.length_cons] at h
    by_cases hc : cmp (key x) (key y) ≤ 0
    · rw [mrgL_le hc] at hi
      rcases List.mem_cons.1 hi with rfl | hi
      · exact .inl (by simp)
      · rcases mrg_mem n a (y :: b) (by simp only [List.length_cons]; omega) hi with h | h
        · exact .inl (List.mem_cons_of_mem _ h)
        · exact .inr h
    · rw [mrgL_gt hc] at hi
      rcases List.mem_cons.1 hi with rfl | hi
      · exact .inr (by simp)
      · rcases mrg_mem n (x :: a) b (by simp only [List.length_cons]; omega) hi with h | h
        · exact .inl h
        · exact .inr (List.mem_cons_of_mem _ h)
/-- What is left to be laid, by how far one is. -/
theorem mrg_left {key : Int → Bs} {A B : List Int} {i k : Nat} {x y : Int} (hx : A[i]? = some x) (hy : B[k]? = some y) : mrgL key (A.drop i) (B.drop k) = if cmp (key x) (key y) ≤ 0 then x :: mrgL key (A.drop (i + 1)) (B.drop k) else y :: mrgL key (A.drop i) (B.drop (k + 1)) := by
  have hA : A.drop i = x :: A.drop (i + 1) := List.drop_eq_getElem?_toList_append.trans (by rw [hx]; rfl)
  have hB : B.drop k = y :: B.drop (k + 1) := List.drop_eq_getElem?_toList_append.trans (by rw [hy]; rfl)
  split
  · rename_i h
    rw [hA, hB, mrgL_le h]
  · rename_i h
    rw [hA, hB, mrgL_gt h]
end Go.Sx
namespace Go.Sx
open Go Go.Proofs
set_option maxRecDepth 10000
variable {w0 : World} {H : List Ck}
def kvAt (es : List KV) (i : Int) : KV := es.getD i.toNat ⟨none, 0, [], none, 0, []⟩
def InE (es : List KV) (ns : List Int) : Prop := ∀ n ∈ ns, 0 ≤ n ∧ n < es.length
theorem kvAt_get {es : List KV} {n : Int} (h : 0 ≤ n ∧ n < es.length) : es[n.toNat]? = some (kvAt es n) := by
  unfold kvAt
  rw [List.getD_eq_getElem?_getD, List.getElem?_eq_getElem (by omega)]
  rfl
structure SbI where
  i : Nat
  k : Nat
  a : Option Addr
  c : Nat
  os : List Int
abbrev StbR (w0 : World) (es : List KV) (ns : List Int) (H : List Ck) : Value → List Ck → Prop := fun v H' => ∃ a c ms L, v = .slice a (ms : List Int).length c ∧ Mrg (ns.map (kvAt es)) (ms.map (kvAt es)) ∧ InE es ms ∧ H' = .star L :: H ∧ RSl w0 H' a c ms
set_option maxHeartbeats 4000000 in
theorem rstable_s {a : Option Addr} {c : Nat} {es : List KV} (_hl : es.length ≤ 549755813888) : ∀ (n : Nat) {H : List Ck} {b : Option Addr} {d : Nat} {ns : List Int}, RSl w0 H a c es → (∀ e ∈ es, RBy w0 H e.ka e.kc e.k) → RSl w0 H b d ns → InE es ns → ns.length ≤ n → ns.length ≤ 549755813888 →
    FnS Tryz.prog w0 H 26 #[.slice a es.length c, .slice b ns.length d] (StbR w0 es ns H) := by
  intro n
  induction n with
  | zero =>
    intro H b d ns hx hr hy hi hn hm
    obtain rfl : ns = [] := List.eq_nil_of_length_eq_zero (by omega)
    refine fns_enter Tryz.func26 rfl rfl rfl ?_
    refine sx ?_
    exact s_ret1 rfl rfl ⟨b, d, [], [], rfl, ⟨Stb.refl _, Asc.nil⟩, hi, rfl, hy.tl⟩ Ent.star0
  | succ n ih =>
    intro H b d ns hx hr hy hi hn hm
    refine fns_enter Tryz.func26 rfl rfl rfl ?_
    refine s_kn (Kn.sl hy) fun ⟨l1, l2⟩ => ?_
    simp only [maxLen] at l2
    refine sx ?_
    refine s_if rfl (fun t1 => ?_) (fun t1 => ?_)
    · refine sx ?_
      refine s_ret1 rfl rfl ⟨b, d, ns, [], rfl, ⟨Stb.refl _, ?_⟩, hi, rfl, hy.tl⟩ Ent.star0
      rcases ns with _ | ⟨x, _ | ⟨y, r⟩⟩
      · exact Asc.nil
      · exact Asc.one _
      · simp only [List.length_cons] at t1; omega
    refine sx ?_
    obtain ⟨m, hm2⟩ : ∃ m, m = ns.length / 2 := ⟨_, rfl⟩
    refine s_rw (t := 20) (v' := .int .i64 (m : Int)) rfl (by rw [hm2]; norm_cast) ?_
    refine s_yS rfl rfl rfl (y_slT (k := m) rfl rfl (by omega)) ?_
    have hi1 : InE es (ns.take m) := fun x h => hi x (List.mem_of_mem_take h)
    have hi2 : InE es (ns.drop m) := fun x h => hi x (List.mem_of_mem_drop h)
    have hlt : (ns.take m).length = m := by rw [List.length_take]; omega
    have hld : (ns.drop m).length = ns.length - m := List.length_drop
    have c1 := ih hx hr (hy.take (k := m) (by omega)) hi1 (by omega) (by omega)
    rw [hlt] at c1
    refine sx ?_
    refine s_call rfl c1 ?_
    rintro _ _ ⟨pa, pc, A, LA, rfl, hMA, hIA, rfl, hRA⟩
    refine ⟨chk_seq, ?_⟩
    refine sx ?_
    refine s_rw (t := 27) (v' := .int .i64 (m : Int)) rfl (by rw [hm2]; norm_cast) ?_
    refine s_yS rfl rfl rfl (y_slF (k := m) rfl rfl (by omega)) ?_
    have c2 := ih (H := .star LA :: H) hx.tl (fun e he => (hr e he).tl) ((hy.drop (j := m) (by omega)).tl) hi2 (by omega) (by omega)
    rw [hld] at c2
    refine sx ?_
    refine s_call rfl c2 ?_
    rintro _ _ ⟨qa, qc, B, LB, rfl, hMB, hIB, rfl, hRB⟩
    refine ⟨chk_seq, ?_⟩
    have hlA : A.length = m := by have := hMA.st.len; simp only [List.length_map] at this; omega
    have hlB : B.length = ns.length - m := by have := hMB.st.len; simp only [List.length_map] at this; omega
    obtain ⟨key, hkey⟩ : ∃ key : Int → Bs, key = fun i => (kvAt es i).k := ⟨_, rfl⟩
    refine sx ?_
    refine s_loop (fun q : SbI => [(0, .slice a es.length c), (5, .slice pa A.length pc), (6, .slice qa B.length qc), (7, .slice q.a q.os.length q.c), (8, .int .i64 q.i), (9, .int .i64 q.k)]) (fun q => ol 3 q.a q.c q.os :: .star LB :: .star LA :: H) (fun q => q.i ≤ A.length ∧ q.k ≤ B.length ∧ q.os.length = q.i + q.k ∧ q.os ++ mrgL key (A.drop q.i) (B.drop q.k) = mrgL key A B) (fun q => (A.length - q.i) + (B.length - q.k)) ⟨0, 0, none, 0, []⟩ ⟨Nat.zero_le _, Nat.zero_le _, rfl, by simp⟩ ?_ (he := Ent.nilS)
    rintro ⟨i, k, oa, oc, os⟩ ⟨g1, g2, g3, g4⟩
    simp only at g1 g2 g3 g4 ⊢
    have hRA' : RSl w0 (ol 3 oa oc os :: .star LB :: .star LA :: H) pa pc A := hRA.tl.tl
    have hRB' : RSl w0 (ol 3 oa oc os :: .star LB :: .star LA :: H) qa qc B := hRB.tl
    have hx' : RSl w0 (ol 3 oa oc os :: .star LB :: .star LA :: H) a c es := hx.tl.tl.tl
    have hr' : ∀ e ∈ es, RBy w0 (ol 3 oa oc os :: .star LB :: .star LA :: H) e.ka e.kc e.k := fun e he => (hr e he).tl.tl.tl
    rcases Nat.lt_or_ge i A.length with u1 | u1
    · obtain ⟨x, hxa⟩ := get_lt A i u1
      obtain ⟨x1, x2⟩ := hIA x (List.mem_of_getElem? hxa)
      obtain ⟨xn, rfl⟩ : ∃ n : Nat, x = n := ⟨x.toNat, by omega⟩
      have hex : es[xn]? = some (kvAt es xn) := by have := kvAt_get (es := es) ⟨x1, x2⟩; simpa using this
      have hkx : key xn = (kvAt es xn).k := by rw [hkey]
      have hrx := hr' _ (List.mem_of_getElem? hex)
      generalize kvAt es xn = ex at hex hkx hrx
      rcases Nat.lt_or_ge k B.length with u2 | u2
      · obtain ⟨y, hyb⟩ := get_lt B k u2
        obtain ⟨y1, y2⟩ := hIB y (List.mem_of_getElem? hyb)
        obtain ⟨yn, rfl⟩ : ∃ n : Nat, y = n := ⟨y.toNat, by omega⟩
        have hey : es[yn]? = some (kvAt es yn) := by have := kvAt_get (es := es) ⟨y1, y2⟩; simpa using this
        have hky : key yn = (kvAt es yn).k := by rw [hkey]
        have hry := hr' _ (List.mem_of_getElem? hey)
        generalize kvAt es yn = ey at hey hky hry
        have hml := mrg_left (key := key) hxa hyb
        rw [hkx, hky] at hml
        refine sx ?_
        refine s_rw (t := 34) (v' := .bool true) rfl (congrArg Value.bool (decide_eq_true (by omega))) ?_
        refine sx ?_
        refine s_rw (t := 46) (v' := .bool true) rfl (congrArg Value.bool (by rw [decide_eq_false (by omega)]; rfl)) ?_
        refine sx ?_
        refine s_if rfl (fun _ => ?_) (fun t => absurd (by omega) t)
        refine sx ?_; refine s_dr (.one true 0 (.one true 1 (.one true 2 (.one true 3 (.one true 4 (.one true 5 (.one true 6 (.one true 7 (.one true 8 (.one true 9 (.one true 10 (.one true 11 (.one true 12 (.one true 13 (.one true 14 (.one true 15 (.one false 16 (.one true 17 .nil)))))))))))))))))) mixed (by kernel_rfl) ?_; refine sx ?_
        refine s_callV rfl (qcmp_s (xs := ex.k) (ys := ey.k) (by exact rby) (by exact rby)) ?_
        refine sx ?_
        refine s_if rfl (fun t3 => ?_) (fun t3 => ?_)
        · rw [if_pos t3] at hml
          refine sx ?_
          refine s_bsl [(xn : Int)] rfl rfl fun b77 => ?_
          refine s_app (xs := os) (ys := [(xn : Int)]) ?_ (hby := by simp only [List.length_cons, List.length_nil]; omega)
          intro a4 c4
          refine sx ?_
          refine s_again ⟨i + 1, k, a4, c4, os ++ [(xn : Int)]⟩ ⟨by simp only; omega, g2, by simp only [List.length_append, List.length_cons, List.length_nil]; omega, ?_⟩ (by simp only; omega)
          simp only
          rw [← g4, hml, List.append_assoc]
          rfl
        · rw [if_neg t3] at hml
          refine sx ?_
          refine s_bsl [(yn : Int)] rfl rfl fun b77 => ?_
          refine s_app (xs := os) (ys := [(yn : Int)]) ?_ (hby := by simp only [List.length_cons, List.length_nil]; omega)
          intro a4 c4
          refine sx ?_
          refine s_again ⟨i, k + 1, a4, c4, os ++ [(yn : Int)]⟩ ⟨g1, by simp only; omega, by simp only [List.length_append, List.length_cons, List.length_nil]; omega, ?_⟩ (by simp only; omega)
          simp only
          rw [← g4, hml, List.append_assoc]
          rfl
      · obtain rfl : k = B.length := by omega
        have hstep : mrgL key (A.drop i) (B.drop B.length) = (xn : Int) :: mrgL key (A.drop (i + 1)) (B.drop B.length) := by
          unfold mrgL
          rw [List.drop_length, mrg_nilR, mrg_nilR]
          exact dropG hxa
        refine sx ?_
        refine s_rw (t := 34) (v' := .bool true) rfl (congrArg Value.bool (decide_eq_true (by omega))) ?_
        refine sx ?_
        refine s_bsl [(xn : Int)] rfl rfl fun b77 => ?_
        refine s_app (xs := os) (ys := [(xn : Int)]) ?_ (hby := by simp only [List.length_cons, List.length_nil]; omega)
        intro a4 c4
        refine sx ?_
        refine s_again ⟨i + 1, B.length, a4, c4, os ++ [(xn : Int)]⟩ ⟨by simp only; omega, g2, by simp only [List.length_append, List.length_cons, List.length_nil]; omega, ?_⟩ (by simp only; omega)
        simp only
        rw [← g4, hstep, List.append_assoc]
        rfl
    · obtain rfl : i = A.length := by omega
      rcases Nat.lt_or_ge k B.length with u2 | u2
      · obtain ⟨y, hyb⟩ := get_lt B k u2
        obtain ⟨y1, y2⟩ := hIB y (List.mem_of_getElem? hyb)
        obtain ⟨yn, rfl⟩ : ∃ n : Nat, y = n := ⟨y.toNat, by omega⟩
        have hstep : mrgL key (A.drop A.length) (B.drop k) = (yn : Int) :: mrgL key (A.drop A.length) (B.drop (k + 1)) := by
          unfold mrgL
          rw [List.drop_length, mrg_nilL, mrg_nilL]
          exact dropG hyb
        refine sx ?_
        refine s_rw (t := 34) (v' := .bool false) rfl (congrArg Value.bool (decide_eq_false (by omega))) ?_
        refine sx ?_
        refine s_if rfl (fun _ => ?_) (fun t => absurd (by omega) t)
        refine sx ?_
        refine s_rw (t := 46) (v' := .bool true) rfl (congrArg Value.bool (by rw [decide_eq_false (by omega)]; rfl)) ?_
        refine sx ?_
        refine s_if rfl (fun t => absurd t (by omega)) (fun _ => ?_)
        refine sx ?_
        refine s_if rfl (fun t => absurd t (by omega)) (fun _ => ?_)
        refine sx ?_
        refine s_bsl [(yn : Int)] rfl rfl fun b77 => ?_
        refine s_app (xs := os) (ys := [(yn : Int)]) ?_ (hby := by simp only [List.length_cons, List.length_nil]; omega)
        intro a4 c4
        refine sx ?_
        refine s_again ⟨A.length, k + 1, a4, c4, os ++ [(yn : Int)]⟩ ⟨g1, by simp only; omega, by simp only [List.length_append, List.length_cons, List.length_nil]; omega, ?_⟩ (by simp only; omega)
        simp only
        rw [← g4, hstep, List.append_assoc]
        rfl
      · obtain rfl : k = B.length := by omega
        refine sx ?_
        refine s_rw (t := 34) (v' := .bool false) rfl (congrArg Value.bool (decide_eq_false (by omega))) ?_
        refine sx ?_
        refine s_if rfl (fun t => absurd t (by omega)) (fun _ => ?_)
        refine sx ?_
        have hos : os = mrgL key A B := by
          rw [← g4]
          unfold mrgL
          rw [List.drop_length, List.drop_length, mrg_nilL, List.append_nil]
        refine s_ret1 rfl rfl ⟨oa, oc, os, [ol 3 oa oc os, .star LB, .star LA], rfl, ?_, ?_, rfl, ?_⟩ ?_
        · rw [hos, hkey]
          have hm := mrg_is (g := kvAt es) _ A B (Nat.le_refl _) hMA.up hMB.up
          refine ⟨?_, hm.up⟩
          have h0 : ns.map (kvAt es) = (ns.take m).map (kvAt es) ++ (ns.drop m).map (kvAt es) := by rw [← List.map_append, List.take_append_drop]
          rw [h0]
          exact (hMA.st.app hMB.st).trans hm.st
        · intro x hxm
          rw [hos] at hxm
          rcases mrg_mem _ A B (Nat.le_refl _) hxm with h | h
          · exact hIA x h
          · exact hIB x h
        · exact RSl.ent (H' := ol 3 oa oc os :: .star LB :: .star LA :: H) RSl.hd (Ent.open Ent.refl)
        · exact Ent.star (L := [ol 3 oa oc os, .star LB, .star LA]) (by exact ent)
end Go.Sx
namespace Go.Sx
open Go Go.Proofs
set_option maxRecDepth 10000
variable {w0 : World} {H : List Ck}
theorem qnext_s {a : Option Addr} {c : Nat} {xs : Bs} (ha : RBy w0 H a c xs) (hx : xs.length ≤ 140737488355327) : FnS Tryz.prog w0 H 133 #[.slice a xs.length c] (fun v H' => ∃ a' c', v = .slice a' (xs ++ [0]).length c' ∧ H' = ob a' c' (xs ++ [0]) :: H) := by
  refine fns_enter Tryz.func133 rfl rfl rfl ?_
  refine sx ?_
  refine s_rw (t := 6) (v' := .int .i64 ((xs.length + 1 : Nat) : Int)) rfl (ci (by omega)) ?_
  refine s_make rfl rfl (by omega) fun b => ?_
  refine sx ?_
  refine s_copy rfl rfl ?_ (ys := xs) (hk0 := by simp)
  have e : xs.take (List.replicate (xs.length + 1) (0 : UInt8)).length ++ (List.replicate (xs.length + 1) (0 : UInt8)).drop xs.length = xs ++ [0] := by
    rw [List.length_replicate, List.take_of_length_le (by omega), List.drop_replicate, show xs.length + 1 - xs.length = 1 by omega]
    rfl
  rw [e]
  refine sx ?_
  exact s_ret1 rfl rfl ⟨some b, xs.length + 1, by simp, rfl⟩
end Go.Sx
namespace Go.Sx
open Go Go.Proofs
set_option maxRecDepth 10000
variable {w0 : World} {H : List Ck}
abbrev Lr (r : Rg) : Prop := r.lo.length ≤ 140737488355328 ∧ r.hi.length ≤ 140737488355328
theorem ohas_s {r : Rg} {a : Option Addr} {c : Nat} {key : Bs} (hr : RRg w0 H r) (ha : RBy w0 H a c key) : FnV Tryz.prog w0 H 80 #[.agg r.cells.toArray, .slice a key.length c] (.bool (hasB r.d key)) := by
  have h1 := hr.lo
  have h2 := hr.hi
  obtain ⟨la, lc, lo, ha', hc, hi, all⟩ := r
  refine fns_enter Tryz.func80 rfl rfl rfl ?_
  refine sx ?_
  refine s_boxA rfl fun b => ?_
  refine sx ?_
  refine s_callV rfl (compare_s (xs := key) (ys := lo) (by exact rby) (by exact rby)) ?_
  refine sx ?_
  refine s_lif rfl (fun t1 => ?_) (fun t1 => ?_)
  · cases all
    · refine sx ?_
      refine s_callV rfl (compare_s (xs := key) (ys := hi) (by exact rby) (by exact rby)) ?_
      refine sx ?_
      exact s_ret1 rfl rfl ⟨by simp [hasB]; omega, rfl⟩
    · refine sx ?_
      exact s_ret1 rfl rfl ⟨by simp [hasB]; omega, rfl⟩
  · refine sx ?_
    exact s_ret1 rfl rfl ⟨by simp [hasB]; omega, rfl⟩
theorem qsame_s {a a' : Option Addr} {c c' : Nat} {xs ys : Bs} (ha : RBy w0 H a c xs) (hb : RBy w0 H a' c' ys) : FnV Tryz.prog w0 H 28 #[.slice a xs.length c, .slice a' ys.length c'] (.bool (decide (xs = ys))) := by
  refine fns_enter Tryz.func28 rfl rfl rfl ?_
  refine sx ?_
  refine s_callV rfl (qcmp_s ha hb) ?_
  refine sx ?_
  exact s_ret1 rfl rfl ⟨by rw [decide_eq_decide.2 (cmp_eq xs ys)], rfl⟩
theorem ominus_s {r q : Rg} (hr : RRg w0 H r) (hq : RRg w0 H q) (hl : Lr r) (hl' : Lr q) : FnS Tryz.prog w0 H 90 #[.agg r.cells.toArray, .agg q.cells.toArray]
    (fun v H' => ∃ x y : Rg, v = .tuple #[.agg x.cells.toArray, .agg y.cells.toArray] ∧ x.d = (miR r.d q.d).1 ∧ y.d = (miR r.d q.d).2 ∧ H' = oR x :: oR y :: H) := by
  have h3 := hq.lo
  have h4 := hq.hi
  have hq' := hq
  obtain ⟨la, lc, lo, ha, hc, hi, all⟩ := q
  simp only at h3 h4
  refine fns_enter Tryz.func90 rfl rfl rfl ?_
  refine sx ?_
  refine s_boxA rfl fun b2 => ?_
  refine sx ?_
  refine s_boxA rfl fun b3 => ?_
  refine sx ?_
  refine s_alloc fun b4 => ?_
  refine sx ?_
  refine s_alloc fun b5 => ?_
  refine sx ?_
  refine s_callV rfl (oempty_s (r := ⟨la, lc, lo, ha, hc, hi, all⟩) (by exact rrg)) ?_
  refine sx ?_
  refine s_cond rfl (fun t1 => ?_) (fun t1 => ?_)
  · refine sx ?_
    refine s_call rfl (oform_s (r := r) (by exact rrg) hl) ?_
    rintro _ _ ⟨x, rfl, hx, rfl⟩
    refine ⟨chk_seq, ?_⟩
    refine sx ?_
    refine s_retcc (vs := x.cells) (vs' := rg0.cells) rfl rfl rfl (by exact at_) rfl (by exact at_) rfl ⟨x, rg0, rfl, ?_, ?_, rfl⟩ ?_
    · rw [hx, miR, if_pos t1]
    · rw [miR, if_pos t1]
    · refine Ent.trans (H' := oR x :: H) (by exact ent) ?_
      exact Ent.head hnilR
  refine sx ?_
  refine s_call rfl (omeet_s (r := r) (q := ⟨none, 0, [], la, lc, lo, false⟩) (by exact rrg) ⟨RBy.nil, by exact rby⟩ hl ⟨Nat.zero_le _, hl'.1⟩) ?_
  rintro _ _ ⟨x, rfl, hx, rfl⟩
  refine ⟨chk_seq, ?_⟩
  refine sx ?_
  refine s_alloc fun b6 => ?_
  refine sx ?_
  cases all
  · refine sx ?_
    refine sx ?_; refine s_drH (oR x :: .hb b6 57 x.cells :: .hb b3 57 (Rg.cells ⟨la, lc, lo, ha, hc, hi, false⟩) :: .hb b2 57 r.cells :: H) (.one true 0 (.one true 1 (.one true 2 (.one true 3 (.one true 4 (.one false 5 (.one false 6 (.one false 7 .nil)))))))) mixed (by kernel_rfl) ?_; refine sx ?_
    refine s_call rfl (omeet_s (r := r) (q := ⟨ha, hc, hi, none, 0, [], true⟩) (by exact rrg) ⟨by exact rby, RBy.nil⟩ hl ⟨hl'.2, Nat.zero_le _⟩) ?_
    rintro _ _ ⟨y, rfl, hy, rfl⟩
    refine ⟨chk_held (by exact ent), ?_⟩
    refine sx ?_
    refine s_retcc (vs := x.cells) (vs' := y.cells) rfl rfl rfl (by exact at_) rfl (by exact at_) rfl ⟨x, y, rfl, ?_, ?_, rfl⟩ (by exact ent)
    · rw [hx, miR, if_neg (by rw [t1]; decide)]
    · rw [hy, miR, if_neg (by rw [t1]; decide)]; rfl
  · refine sx ?_
    refine s_retcc (vs := x.cells) (vs' := rg0.cells) rfl rfl rfl (by exact at_) rfl (by exact at_) rfl ⟨x, rg0, rfl, ?_, ?_, rfl⟩ ?_
    · rw [hx, miR, if_neg (by rw [t1]; decide)]
    · rw [miR, if_neg (by rw [t1]; decide)]; rfl
    · refine Ent.trans (H' := oR x :: H) (by exact ent) ?_
      exact Ent.head hnilR
end Go.Sx

