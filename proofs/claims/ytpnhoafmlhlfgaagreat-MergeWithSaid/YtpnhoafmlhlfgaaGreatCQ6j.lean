/- Part of a proof: several parts of a walk, one behind the other. -/
import Derived.Test.YtpnhoafmlhlfgaaGreatCSRbj
import Derived.Shelf.SlSortCmp.NoneTotal
import Derived.Test.YtpnhoafmlhlfgaaGreatCQ1
import Derived.Test.YtpnhoafmlhlfgaaGreatCH1j
namespace Go.Sx
open Go Go.Proofs Go.Sort
set_option maxRecDepth 10000
variable {w0 : World} {H : List Ck}
theorem sort_s {a : Option Addr} {c : Nat} {rs : List Rg} (hl : rs.length < 4611686018427387904) (hr : ∀ r ∈ rs, RBy w0 H r.la r.lc r.lo) :
    FnS Tryz.prog w0 (ol 57 a c rs :: H) 91 #[.slice a rs.length c, .func (.func 92) #[] #[]] (fun v H' => v = .tuple #[] ∧ ∃ rs', rs.Perm rs' ∧ rs'.Pairwise (fun x y => cmp x.lo y.lo ≤ 0) ∧ H' = ol 57 a c rs' :: H) := fun w hw => by
  have ho := Sat.ownOf (c' := ol 57 a c rs) .hd hw
  rcases ho.open with ⟨rfl, h0, rfl, _⟩ | ⟨blk, re, rfl, h1, h2, h3, h4, h5⟩
  · have e0 : rs = [] := List.eq_nil_of_length_eq_zero h0
    subst e0
    refine Calls.mono (AnyF.slices_SortFunc_none Tryz.sortRg none 0 (.func (.func 92) #[] #[]) w) ?_
    rintro e w' ⟨he, rfl⟩
    exact ⟨_, he, _, ⟨rfl, [], .refl _, .nil, rfl⟩, hw⟩
  · refine Calls.mono (sort_go w blk c rs re (fun r => RBy w0 H r.la r.lc r.lo) RBy.nil hr (fun W hX r h => h W ?_) h2 hl) ?_
    · refine Sat.tl (c := .star []) (hw.upd (c' := .star []) fun S hS hc => ⟨hX.mono fun i _ e => by subst e; exact hc.2 _ rfl, fun _ => False, trivial, fun b hb => hb.elim⟩)
    · rintro e w' ⟨v, he, rfl, rs', hp, hs, hB, hX⟩
      refine ⟨_, he, _, ⟨rfl, rs', hp, hs, rfl⟩, ?_⟩
      have hlen := hp.length_eq
      have hO : Own w' w0.heap.size 57 3 (some ⟨blk, 0, none⟩) rs'.length c (flat rs') := Own.mk' h1 hB (flat_length rs') (by omega) h4 (by
        have e1 : (flat rs').length = (flat rs).length := by rw [flat_length, flat_length, hlen]
        rw [e1]; exact h5)
      exact hw.own (ha := .hd) hO (hX.mono fun i _ e => by rw [e]; rfl) (fun ad' e => by cases e; exact .inl rfl)
end Go.Sx
namespace Go.Sx
open Go Go.Proofs
set_option maxRecDepth 10000
variable {w0 : World} {H : List Ck}
/-- Two lists, each rising, as one. -/
def mgR : List Rg → List Rg → List Rg
  | [], ys => ys
  | x :: xs, [] => x :: xs
  | x :: xs, y :: ys => if cmp x.lo y.lo ≤ 0 then x :: mgR xs (y :: ys) else y :: mgR (x :: xs) ys
termination_by xs ys => xs.length + ys.length
theorem mgR_nil (xs : List Rg) : mgR xs [] = xs := by
  cases xs <;> simp [mgR]
theorem mgR_nil' (ys : List Rg) : mgR [] ys = ys := by simp [mgR]
theorem mgR_l {us vs : List Rg} {i j : Nat} {x : Rg} (hx : us[i]? = some x) (h : j = vs.length ∨ ∃ y, vs[j]? = some y ∧ cmp x.lo y.lo ≤ 0) : mgR (us.drop i) (vs.drop j) = x :: mgR (us.drop (i + 1)) (vs.drop j) := by
  rw [dropG hx]
  rcases h with rfl | ⟨y, hy, hc⟩
  · rw [List.drop_length, mgR_nil, mgR_nil]
  · rw [dropG hy, mgR, if_pos hc]
theorem mgR_r {us vs : List Rg} {i j : Nat} {y : Rg} (hy : vs[j]? = some y) (h : i = us.length ∨ ∃ x, us[i]? = some x ∧ ¬ cmp x.lo y.lo ≤ 0) : mgR (us.drop i) (vs.drop j) = y :: mgR (us.drop i) (vs.drop (j + 1)) := by
  rw [dropG hy]
  rcases h with rfl | ⟨x, hx, hc⟩
  · rw [List.drop_length, mgR_nil', mgR_nil']
  · rw [dropG hx, mgR, if_neg hc]
theorem mgR_len : ∀ (us vs : List Rg), (mgR us vs).length = us.length + vs.length
  | [], ys => by simp [mgR]
  | x :: xs, [] => by simp [mgR]
  | x :: xs, y :: ys => by
    rw [mgR]
    split
    · have := mgR_len xs (y :: ys)
      simp only [List.length_cons] at this ⊢
      omega
    · have := mgR_len (x :: xs) ys
      simp only [List.length_cons] at this ⊢
      omega
termination_by us vs => us.length + vs.length
theorem mgR_app : ∀ (us vs : List Rg), (∀ x ∈ us, ∀ y ∈ vs, cmp x.lo y.lo ≤ 0) → mgR us vs = us ++ vs
  | [], ys, _ => by simp [mgR]
  | x :: xs, [], _ => by simp [mgR]
  | x :: xs, y :: ys, h => by
    rw [mgR, if_pos (h x (List.mem_cons_self ..) y (List.mem_cons_self ..)), mgR_app xs (y :: ys) (fun a ha b hb => h a (List.mem_cons_of_mem _ ha) b hb)]
    rfl
theorem mgR_mem : ∀ (us vs : List Rg) (x : Rg), x ∈ mgR us vs → x ∈ us ∨ x ∈ vs
  | [], ys, x, h => by rw [mgR_nil'] at h; exact .inr h
  | y :: xs, [], x, h => by rw [mgR_nil] at h; exact .inl h
  | a :: xs, b :: ys, x, h => by
    rw [mgR] at h
    split at h
    · rcases List.mem_cons.1 h with rfl | h
      · exact .inl (List.mem_cons_self ..)
      · rcases mgR_mem xs (b :: ys) x h with h | h
        · exact .inl (List.mem_cons_of_mem _ h)
        · exact .inr h
    · rcases List.mem_cons.1 h with rfl | h
      · exact .inr (List.mem_cons_self ..)
      · rcases mgR_mem (a :: xs) ys x h with h | h
        · exact .inl h
        · exact .inr (List.mem_cons_of_mem _ h)
termination_by us vs => us.length + vs.length
def byR : Nat → List Rg → List Rg
  | 0, l => l
  | n + 1, l => if l.length < 2 then l else mgR (byR n (l.take (l.length / 2))) (byR n (l.drop (l.length / 2)))
theorem byR_len : ∀ (n : Nat) (l : List Rg), (byR n l).length = l.length
  | 0, _ => rfl
  | n + 1, l => by
    rw [byR]
    split
    · rfl
    · rw [mgR_len, byR_len n, byR_len n, List.length_take, List.length_drop]
      omega
/-- What rises already stays. -/
theorem byR_id : ∀ (n : Nat) (l : List Rg), l.Pairwise (fun x y => cmp x.lo y.lo ≤ 0) → byR n l = l
  | 0, _, _ => rfl
  | n + 1, l, h => by
    rw [byR]
    split
    · rfl
    · have h2 := h
      rw [← List.take_append_drop (l.length / 2) l, List.pairwise_append] at h2
      rw [byR_id n _ h2.1, byR_id n _ h2.2.1, mgR_app _ _ h2.2.2, List.take_append_drop]
structure MrI where
  i : Nat
  j : Nat
  a : Option Addr
  c : Nat
  out : List Rg
structure MrI.ok (m : MrI) (us vs : List Rg) : Prop where
  hi : m.i ≤ us.length
  hj : m.j ≤ vs.length
  eq : m.out ++ mgR (us.drop m.i) (vs.drop m.j) = mgR us vs
  len : m.out.length = m.i + m.j
end Go.Sx
namespace Go.Sx
open Go Go.Proofs
set_option maxRecDepth 10000
section
variable {P : Program} {n : Nat} {ds : Dx} {Q : Exit → Act → World → Prop} {l l' : List (Nat × Value)} {w0 : World} {H : List Ck} {M : Md} {ops : Array Oper} {rest : Tr} {b : Bool} {ty : TypeId} {pos : String} {af : Array Edge} {g : Option (Nat × Bool)}
variable {α : Type} [Cel α]
theorem addr_add2 (k m o : Nat) : ((⟨k, 0, none⟩ : Addr).add m).add o = (⟨k, 0, none⟩ : Addr).add (m + o) := by
  unfold Addr.add
  by_cases h : o = 0 <;> by_cases h' : m = 0 <;> simp [h, h']
/-- A store into a part of an element. -/
theorem s_setF {T : TypeId} [ht : ScT P T] {E : TypeId} {p x : Operand} {ad : Addr} {i o c sz : Nat} {xs : List α} {x0 y : α} {v : Value} {H' : List Ck} (hp : ev l p = some (.pointer (some ((ad.add (i * sz)).add o)))) (hx : ev l x = some v)
    (hA : At (ol E (some ad) c xs) (ol E (some ad) c (xs.set i y)) H H') (h0 : xs[i]? = some x0) (hc : Cel.f y = (Cel.f x0).set o v) (ho : o < sz) (hv : v.oneCell' = true) (h : SL M P n ds ops Q rest l w0 H')
    (hb : M.act b = true := by exact rfl) (hg : gOk ops l g = true := by exact rfl) (hz : sz = Cel.sz α := by exact rfl) (hk : Chk M H' := by intros; first | exact chk_seq | exact chk_held (by exact ent)) : SL M P n ds ops Q (.one b ⟨none, .store T p x, ty, pos, af, g⟩ rest) l w0 H := .mk fun w hw => by
  subst hz
  have how := Sat.ownOf hA hw
  rcases how.open with ⟨h0', _⟩ | ⟨k, re, h1, h2, h3, h4, h5, h6⟩
  · cases h0'
  · simp only [Option.some.injEq] at h1
    subst h1
    obtain ⟨hi, hxi⟩ := List.getElem?_eq_some_iff.1 h0
    have hlt : i * Cel.sz α + Cel.sz α ≤ (flat xs).length := by
      rw [flat_length, ← Nat.succ_mul]
      exact Nat.mul_le_mul_right _ hi
    rw [addr_add2] at hp
    have hfl := Cel.len x0
    have et : ((flat xs ++ re).take (i * Cel.sz α)).length = i * Cel.sz α := by rw [List.length_take, List.length_append]; omega
    have ex : flat xs ++ re = (flat xs ++ re).take (i * Cel.sz α) ++ (Cel.f x0 ++ (flat xs ++ re).drop (i * Cel.sz α + Cel.sz α)) := by
      have e1 : xs = xs.take i ++ x0 :: xs.drop (i + 1) := by
        conv => lhs; rw [← List.take_append_drop i xs, dropG h0]
      have e2 : flat xs = flat (xs.take i) ++ (Cel.f x0 ++ flat (xs.drop (i + 1))) := by
        conv => lhs; rw [e1]
        simp [flat]
      have e3 : (flat (xs.take i)).length = i * Cel.sz α := by rw [flat_length, List.length_take, Nat.min_eq_left (by omega)]
      generalize flat (xs.drop (i + 1)) = D at e2
      generalize flat (xs.take i) = T at e2 e3
      conv => lhs; rw [← List.take_append_drop (i * Cel.sz α) (flat xs ++ re)]
      congr 1
      rw [e2, List.append_assoc, List.drop_left' e3, ← List.drop_drop, List.drop_left' e3, List.append_assoc, List.drop_left' hfl]
    refine l_store (Md.any hb) hg hp hx h3 (by rw [List.length_append]; omega) hv fun w' g1 g2 g3 => ?_
    have e : (flat xs ++ re).set (i * Cel.sz α + o) v = (flat xs ++ re).take (i * Cel.sz α) ++ Cel.f y ++ (flat xs ++ re).drop (i * Cel.sz α + Cel.sz α) := by
      conv => lhs; rw [ex]
      rw [List.set_append_right _ _ (by omega), et, List.set_append_left _ _ (by omega), hc, show i * Cel.sz α + o - i * Cel.sz α = o by omega, List.append_assoc]
    rw [e] at g1
    have hw' := hw.own hA (set_core h2 h3 h4 h5 h6 hi g1) (g2.mono fun i _ e => by rw [e]; rfl) (fun ad' e => by cases e; exact .inl rfl)
    exact ⟨hk.out hw', h.out w' hw'⟩
end
variable {w0 : World} {H : List Ck}
/-- One range more is joined to those that are there. -/
def cvS (out : List T3) (r : T3) : List T3 :=
  match out.getLast? with
  | none => out ++ [foR r]
  | some l => if l.2.2 = true ∨ ¬ cmp l.2.1 r.1 < 0 then out.dropLast ++ [if r.2.2 = true ∧ l.2.2 = false then (l.1, [], true) else if l.2.2 = false ∧ cmp l.2.1 r.2.1 < 0 then (l.1, r.2.1, l.2.2) else l] else out ++ [foR r]
def cvR (rs : List T3) : List T3 := rs.foldl cvS []
end Go.Sx
namespace Go.Sx
open Go Go.Proofs
set_option maxRecDepth 10000
variable {w0 : World} {H : List Ck}
/-- The bytes of a range are among these. -/
def GdR (bs : List SB) (x : Rg) : Prop := (⟨x.la, x.lc, x.lo⟩ : SB) ∈ bs ∧ ((⟨x.ha, x.hc, x.hi⟩ : SB) ∈ bs ∨ (x.ha = none ∧ x.hc = 0 ∧ x.hi = []))
theorem GdR.mono {bs bs' : List SB} {x : Rg} (h : GdR bs x) (hb : ∀ s, s ∈ bs → s ∈ bs') : GdR bs' x := ⟨hb _ h.1, h.2.imp (hb _) id⟩
theorem GdR.rrg {bs : List SB} {x : Rg} (h : GdR bs x) : RRg w0 (fam 5 bs :: H) x := by
  refine ⟨fam_by h.1, ?_⟩
  rcases h.2 with h | ⟨h1, h2, h3⟩
  · exact fam_by h
  · rw [h1, h2, h3]
    exact RBy.nil
structure CvI where
  j : Nat
  a : Option Addr
  c : Nat
  out : List Rg
  bs : List SB
theorem map_getLast {out : List Rg} {l : Rg} (h : out[out.length - 1]? = some l) : (out.map Rg.d).getLast? = some l.d := by
  rw [List.getLast?_map, List.getLast?_eq_getElem?, h]
  rfl
theorem set_last {α : Type} {out : List α} {y : α} (h : 0 < out.length) : out.set (out.length - 1) y = out.dropLast ++ [y] := by
  rcases List.eq_nil_or_concat out with rfl | ⟨r, x, rfl⟩
  · simp at h
  · simp
theorem set_self {α : Type} {out : List α} {k : Nat} {l : α} (h : out[k]? = some l) : out.set k l = out := by
  obtain ⟨hk, rfl⟩ := List.getElem?_eq_some_iff.1 h
  exact List.set_getElem_self hk
theorem cvS_nil {r : T3} : cvS [] r = [foR r] := rfl
theorem cvS_far {out : List Rg} {l : Rg} {r : T3} (h : out[out.length - 1]? = some l) (h1 : l.all = false) (h2 : cmp l.hi r.1 < 0) : cvS (out.map Rg.d) r = out.map Rg.d ++ [foR r] := by
  simp only [cvS, map_getLast h]
  rw [if_neg]
  rintro (g | g)
  · rw [h1] at g; cases g
  · exact g h2
theorem cvS_near {out : List Rg} {l : Rg} {r : T3} (h : out[out.length - 1]? = some l) (h2 : l.all = true ∨ ¬ cmp l.hi r.1 < 0) {y : Rg} (hy : y.d = if r.2.2 = true ∧ l.all = false then (l.lo, [], true) else if l.all = false ∧ cmp l.hi r.2.1 < 0 then (l.lo, r.2.1, l.all) else l.d) : cvS (out.map Rg.d) r = (out.set (out.length - 1) y).map Rg.d := by
  simp only [cvS, map_getLast h]
  rw [if_pos h2, set_last (by have := (List.getElem?_eq_some_iff.1 h).1; omega), List.map_append, List.map_dropLast]
  simp only [List.map_cons, List.map_nil, hy]
end Go.Sx
