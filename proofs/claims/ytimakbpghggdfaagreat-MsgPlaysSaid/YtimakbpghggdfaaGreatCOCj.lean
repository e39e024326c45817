/- Part of a proof: several parts of a walk, one behind the other. -/
import Derived.Test.YtimakbpghggdfaaGreatCSRbj
import Derived.Shelf.SlSortCmp.NoneTotal
import Derived.Test.YtimakbpghggdfaaGreatCGAj
import Derived.Test.YtimakbpghggdfaaGreatCO2j
import Derived.Test.YtimakbpghggdfaaGreatCQ1j
import Derived.Test.YtimakbpghggdfaaGreatCKB
namespace Go.Sx
open Go Go.Proofs Go.Sort
set_option maxRecDepth 10000
variable {w0 : World} {H : List Ck}
theorem sort_s {a : Option Addr} {c : Nat} {rs : List Rg} (hl : rs.length < 4611686018427387904) (hr : ∀ r ∈ rs, RBy w0 H r.la r.lc r.lo) :
    FnS Tryz.prog w0 (ol 53 a c rs :: H) 83 #[.slice a rs.length c, .func (.func 84) #[] #[]] (fun v H' => v = .tuple #[] ∧ ∃ rs', rs.Perm rs' ∧ rs'.Pairwise (fun x y => cmp x.lo y.lo ≤ 0) ∧ H' = ol 53 a c rs' :: H) := fun w hw => by
  have ho := Sat.ownOf (c' := ol 53 a c rs) .hd hw
  rcases ho.open with ⟨rfl, h0, rfl, _⟩ | ⟨blk, re, rfl, h1, h2, h3, h4, h5⟩
  · have e0 : rs = [] := List.eq_nil_of_length_eq_zero h0
    subst e0
    refine Calls.mono (AnyF.slices_SortFunc_none Tryz.sortRg none 0 (.func (.func 84) #[] #[]) w) ?_
    rintro e w' ⟨he, rfl⟩
    exact ⟨_, he, _, ⟨rfl, [], .refl _, .nil, rfl⟩, hw⟩
  · refine Calls.mono (sort_go w blk c rs re (fun r => RBy w0 H r.la r.lc r.lo) RBy.nil hr (fun W hX r h => h W ?_) h2 hl) ?_
    · refine Sat.tl (c := .star []) (hw.upd (c' := .star []) fun S hS hc => ⟨hX.mono fun i _ e => by subst e; exact hc.2 _ rfl, fun _ => False, trivial, fun b hb => hb.elim⟩)
    · rintro e w' ⟨v, he, rfl, rs', hp, hs, hB, hX⟩
      refine ⟨_, he, _, ⟨rfl, rs', hp, hs, rfl⟩, ?_⟩
      have hlen := hp.length_eq
      have hO : Own w' w0.heap.size 53 3 (some ⟨blk, 0, none⟩) rs'.length c (flat rs') := Own.mk' h1 hB (flat_length rs') (by omega) h4 (by
        have e1 : (flat rs').length = (flat rs).length := by rw [flat_length, flat_length, hlen]
        rw [e1]; exact h5)
      exact hw.own (ha := .hd) hO (hX.mono fun i _ e => by rw [e]; rfl) (fun ad' e => by cases e; exact .inl rfl)
end Go.Sx
namespace Go.Sx
open Go Go.Proofs
set_option maxRecDepth 10000
variable {w0 : World} {H : List Ck}
theorem qnext_s {a : Option Addr} {c : Nat} {xs : Bs} (ha : RBy w0 H a c xs) (hx : xs.length ≤ 140737488355327) : FnS Tryz.prog w0 H 158 #[.slice a xs.length c] (fun v H' => ∃ a' c', v = .slice a' (xs ++ [0]).length c' ∧ H' = ob a' c' (xs ++ [0]) :: H) := by
  refine fns_enter Tryz.func158 rfl rfl rfl ?_
  refine sx ?_
  refine s_rw (t := 6) (v' := .int .i64 ((xs.length + 1 : Nat) : Int)) rfl (ci (by omega)) ?_
  refine s_make rfl rfl (by omega) fun b => ?_
  refine sx ?_
  refine s_copy rfl rfl ?_ (ys := xs) (hk0 := by simp)
  have e : xs.take (List.replicate (xs.length + 1) (0 : UInt8)).length ++ (List.replicate (xs.length + 1) (0 : UInt8)).drop xs.length = xs ++ [0] := by
    rw [List.length_replicate, List.take_of_length_le (by omega), List.drop_replicate, show xs.length + 1 - xs.length = 1 by omega]
    rfl
  rw [e]
  refine sx ?_
  exact s_ret1 rfl rfl ⟨some b, xs.length + 1, by simp, rfl⟩
end Go.Sx
namespace Go.Sx
open Go Go.Proofs
set_option maxRecDepth 10000
variable {w0 : World} {H : List Ck}
abbrev Lr (r : Rg) : Prop := r.lo.length ≤ 140737488355328 ∧ r.hi.length ≤ 140737488355328
theorem ohas_s {r : Rg} {a : Option Addr} {c : Nat} {key : Bs} (hr : RRg w0 H r) (ha : RBy w0 H a c key) : FnV Tryz.prog w0 H 23 #[.agg r.cells.toArray, .slice a key.length c] (.bool (hasB r.d key)) := by
  have h1 := hr.lo
  have h2 := hr.hi
  obtain ⟨la, lc, lo, ha', hc, hi, all⟩ := r
  refine fns_enter Tryz.func23 rfl rfl rfl ?_
  refine sx ?_
  refine s_boxA rfl fun b => ?_
  refine sx ?_
  refine s_callV rfl (compare_s (xs := key) (ys := lo) (by exact rby) (by exact rby)) ?_
  refine sx ?_
  refine s_lif rfl (fun t1 => ?_) (fun t1 => ?_)
  · cases all
    · refine sx ?_
      refine s_callV rfl (compare_s (xs := key) (ys := hi) (by exact rby) (by exact rby)) ?_
      refine sx ?_
      exact s_ret1 rfl rfl ⟨by simp [hasB]; omega, rfl⟩
    · refine sx ?_
      exact s_ret1 rfl rfl ⟨by simp [hasB]; omega, rfl⟩
  · refine sx ?_
    exact s_ret1 rfl rfl ⟨by simp [hasB]; omega, rfl⟩
theorem qsame_s {a a' : Option Addr} {c c' : Nat} {xs ys : Bs} (ha : RBy w0 H a c xs) (hb : RBy w0 H a' c' ys) : FnV Tryz.prog w0 H 153 #[.slice a xs.length c, .slice a' ys.length c'] (.bool (decide (xs = ys))) := by
  refine fns_enter Tryz.func153 rfl rfl rfl ?_
  refine sx ?_
  refine s_callV rfl (qcmp_s ha hb) ?_
  refine sx ?_
  exact s_ret1 rfl rfl ⟨by rw [decide_eq_decide.2 (cmp_eq xs ys)], rfl⟩
theorem ominus_s {r q : Rg} (hr : RRg w0 H r) (hq : RRg w0 H q) (hl : Lr r) (hl' : Lr q) : FnS Tryz.prog w0 H 25 #[.agg r.cells.toArray, .agg q.cells.toArray]
    (fun v H' => ∃ x y : Rg, v = .tuple #[.agg x.cells.toArray, .agg y.cells.toArray] ∧ x.d = (miR r.d q.d).1 ∧ y.d = (miR r.d q.d).2 ∧ H' = oR x :: oR y :: H) := by
  have h3 := hq.lo
  have h4 := hq.hi
  have hq' := hq
  obtain ⟨la, lc, lo, ha, hc, hi, all⟩ := q
  simp only at h3 h4
  refine fns_enter Tryz.func25 rfl rfl rfl ?_
  refine sx ?_
  refine s_boxA rfl fun b2 => ?_
  refine sx ?_
  refine s_boxA rfl fun b3 => ?_
  refine sx ?_
  refine s_alloc fun b4 => ?_
  refine sx ?_
  refine s_alloc fun b5 => ?_
  refine sx ?_
  refine s_callV rfl (oempty_s (r := ⟨la, lc, lo, ha, hc, hi, all⟩) (by exact rrg)) ?_
  refine sx ?_
  refine s_cond rfl (fun t1 => ?_) (fun t1 => ?_)
  · refine sx ?_
    refine s_call rfl (oform_s (r := r) (by exact rrg) hl) ?_
    rintro _ _ ⟨x, rfl, hx, rfl⟩
    refine ⟨chk_seq, ?_⟩
    refine sx ?_
    refine s_retcc (vs := x.cells) (vs' := rg0.cells) rfl rfl rfl (by exact at_) rfl (by exact at_) rfl ⟨x, rg0, rfl, ?_, ?_, rfl⟩ ?_
    · rw [hx, miR, if_pos t1]
    · rw [miR, if_pos t1]
    · refine Ent.trans (H' := oR x :: H) (by exact ent) ?_
      exact Ent.head hnilR
  refine sx ?_
  refine s_call rfl (omeet_s (r := r) (q := ⟨none, 0, [], la, lc, lo, false⟩) (by exact rrg) ⟨RBy.nil, by exact rby⟩ hl ⟨Nat.zero_le _, hl'.1⟩) ?_
  rintro _ _ ⟨x, rfl, hx, rfl⟩
  refine ⟨chk_seq, ?_⟩
  refine sx ?_
  refine s_alloc fun b6 => ?_
  refine sx ?_
  cases all
  · refine sx ?_
    refine sx ?_; refine s_drH (oR x :: .hb b6 53 x.cells :: .hb b3 53 (Rg.cells ⟨la, lc, lo, ha, hc, hi, false⟩) :: .hb b2 53 r.cells :: H) (.one true 0 (.one true 1 (.one true 2 (.one true 3 (.one true 4 (.one false 5 (.one false 6 (.one false 7 .nil)))))))) mixed (by kernel_rfl) ?_; refine sx ?_
    refine s_call rfl (omeet_s (r := r) (q := ⟨ha, hc, hi, none, 0, [], true⟩) (by exact rrg) ⟨by exact rby, RBy.nil⟩ hl ⟨hl'.2, Nat.zero_le _⟩) ?_
    rintro _ _ ⟨y, rfl, hy, rfl⟩
    refine ⟨chk_held (by exact ent), ?_⟩
    refine sx ?_
    refine s_retcc (vs := x.cells) (vs' := y.cells) rfl rfl rfl (by exact at_) rfl (by exact at_) rfl ⟨x, y, rfl, ?_, ?_, rfl⟩ (by exact ent)
    · rw [hx, miR, if_neg (by rw [t1]; decide)]
    · rw [hy, miR, if_neg (by rw [t1]; decide)]; rfl
  · refine sx ?_
    refine s_retcc (vs := x.cells) (vs' := rg0.cells) rfl rfl rfl (by exact at_) rfl (by exact at_) rfl ⟨x, rg0, rfl, ?_, ?_, rfl⟩ ?_
    · rw [hx, miR, if_neg (by rw [t1]; decide)]
    · rw [miR, if_neg (by rw [t1]; decide)]; rfl
    · refine Ent.trans (H' := oR x :: H) (by exact ent) ?_
      exact Ent.head hnilR
end Go.Sx
namespace Go.Sx
open Go Go.Proofs
set_option maxRecDepth 10000
variable {w0 : World} {H : List Ck}
/-- Two lists, each rising, as one. -/
def mgR : List Rg → List Rg → List Rg
  | [], ys => ys
  | x :: xs, [] => x :: xs
  | x :: xs, y :: ys => if cmp x.lo y.lo ≤ 0 then x :: mgR xs (y :: ys) else y :: mgR (x :: xs) ys
termination_by xs ys => xs.length + ys.length
structure MrI where
  i : Nat
  j : Nat
  a : Option Addr
  c : Nat
  out : List Rg
structure MrI.ok (m : MrI) (us vs : List Rg) : Prop where
  hi : m.i ≤ us.length
  hj : m.j ≤ vs.length
  eq : m.out ++ mgR (us.drop m.i) (vs.drop m.j) = mgR us vs
  len : m.out.length = m.i + m.j
end Go.Sx
namespace Go.Sx
open Go Go.Proofs
set_option maxRecDepth 10000
section
variable {P : Program} {n : Nat} {ds : Dx} {Q : Exit → Act → World → Prop} {l l' : List (Nat × Value)} {w0 : World} {H : List Ck} {M : Md} {ops : Array Oper} {rest : Tr} {b : Bool} {ty : TypeId} {pos : String} {af : Array Edge} {g : Option (Nat × Bool)}
variable {α : Type} [Cel α]
theorem addr_add2 (k m o : Nat) : ((⟨k, 0, none⟩ : Addr).add m).add o = (⟨k, 0, none⟩ : Addr).add (m + o) := by
  unfold Addr.add
  by_cases h : o = 0 <;> by_cases h' : m = 0 <;> simp [h, h']
/-- A store into a part of an element. -/
theorem s_setF {T : TypeId} [ht : ScT P T] {E : TypeId} {p x : Operand} {ad : Addr} {i o c sz : Nat} {xs : List α} {x0 y : α} {v : Value} {H' : List Ck} (hp : ev l p = some (.pointer (some ((ad.add (i * sz)).add o)))) (hx : ev l x = some v)
    (hA : At (ol E (some ad) c xs) (ol E (some ad) c (xs.set i y)) H H') (h0 : xs[i]? = some x0) (hc : Cel.f y = (Cel.f x0).set o v) (ho : o < sz) (hv : v.oneCell' = true) (h : SL M P n ds ops Q rest l w0 H')
    (hb : M.act b = true := by exact rfl) (hg : gOk ops l g = true := by exact rfl) (hz : sz = Cel.sz α := by exact rfl) (hk : Chk M H' := by intros; first | exact chk_seq | exact chk_held (by exact ent)) : SL M P n ds ops Q (.one b ⟨none, .store T p x, ty, pos, af, g⟩ rest) l w0 H := .mk fun w hw => by
  subst hz
  have how := Sat.ownOf hA hw
  rcases how.open with ⟨h0', _⟩ | ⟨k, re, h1, h2, h3, h4, h5, h6⟩
  · cases h0'
  · simp only [Option.some.injEq] at h1
    subst h1
    obtain ⟨hi, hxi⟩ := List.getElem?_eq_some_iff.1 h0
    have hlt : i * Cel.sz α + Cel.sz α ≤ (flat xs).length := by
      rw [flat_length, ← Nat.succ_mul]
      exact Nat.mul_le_mul_right _ hi
    rw [addr_add2] at hp
    have hfl := Cel.len x0
    have et : ((flat xs ++ re).take (i * Cel.sz α)).length = i * Cel.sz α := by rw [List.length_take, List.length_append]; omega
    have ex : flat xs ++ re = (flat xs ++ re).take (i * Cel.sz α) ++ (Cel.f x0 ++ (flat xs ++ re).drop (i * Cel.sz α + Cel.sz α)) := by
      have e1 : xs = xs.take i ++ x0 :: xs.drop (i + 1) := by
        conv => lhs; rw [← List.take_append_drop i xs, dropG h0]
      have e2 : flat xs = flat (xs.take i) ++ (Cel.f x0 ++ flat (xs.drop (i + 1))) := by
        conv => lhs; rw [e1]
        simp [flat]
      have e3 : (flat (xs.take i)).length = i * Cel.sz α := by rw [flat_length, List.length_take, Nat.min_eq_left (by omega)]
      generalize flat (xs.drop (i + 1)) = D at e2
      generalize flat (xs.take i) = T at e2 e3
      conv => lhs; rw [← List.take_append_drop (i * Cel.sz α) (flat xs ++ re)]
      congr 1
      rw [e2, List.append_assoc, List.drop_left' e3, ← List.drop_drop, List.drop_left' e3, List.append_assoc, List.drop_left' hfl]
    refine l_store (Md.any hb) hg hp hx h3 (by rw [List.length_append]; omega) hv fun w' g1 g2 g3 => ?_
    have e : (flat xs ++ re).set (i * Cel.sz α + o) v = (flat xs ++ re).take (i * Cel.sz α) ++ Cel.f y ++ (flat xs ++ re).drop (i * Cel.sz α + Cel.sz α) := by
      conv => lhs; rw [ex]
      rw [List.set_append_right _ _ (by omega), et, List.set_append_left _ _ (by omega), hc, show i * Cel.sz α + o - i * Cel.sz α = o by omega, List.append_assoc]
    rw [e] at g1
    have hw' := hw.own hA (set_core h2 h3 h4 h5 h6 hi g1) (g2.mono fun i _ e => by rw [e]; rfl) (fun ad' e => by cases e; exact .inl rfl)
    exact ⟨hk.out hw', h.out w' hw'⟩
end
end Go.Sx
namespace Go.Sx
open Go Go.Proofs
set_option maxRecDepth 10000
variable {w0 : World} {H : List Ck}
end Go.Sx
namespace Go.Sx
open Go Go.Proofs
set_option maxRecDepth 10000
variable {w0 : World} {H : List Ck}
/-- The bytes of a range are among these. -/
def GdR (bs : List SB) (x : Rg) : Prop := (⟨x.la, x.lc, x.lo⟩ : SB) ∈ bs ∧ ((⟨x.ha, x.hc, x.hi⟩ : SB) ∈ bs ∨ (x.ha = none ∧ x.hc = 0 ∧ x.hi = []))
theorem GdR.mono {bs bs' : List SB} {x : Rg} (h : GdR bs x) (hb : ∀ s, s ∈ bs → s ∈ bs') : GdR bs' x := ⟨hb _ h.1, h.2.imp (hb _) id⟩
theorem GdR.rrg {bs : List SB} {x : Rg} (h : GdR bs x) : RRg w0 (fam 5 bs :: H) x := by
  refine ⟨fam_by h.1, ?_⟩
  rcases h.2 with h | ⟨h1, h2, h3⟩
  · exact fam_by h
  · rw [h1, h2, h3]
    exact RBy.nil
theorem map_getLast {out : List Rg} {l : Rg} (h : out[out.length - 1]? = some l) : (out.map Rg.d).getLast? = some l.d := by
  rw [List.getLast?_map, List.getLast?_eq_getElem?, h]
  rfl
theorem set_last {α : Type} {out : List α} {y : α} (h : 0 < out.length) : out.set (out.length - 1) y = out.dropLast ++ [y] := by
  rcases List.eq_nil_or_concat out with rfl | ⟨r, x, rfl⟩
  · simp at h
  · simp
end Go.Sx
namespace Go.Sx
open Go Go.Proofs
set_option maxRecDepth 10000
variable {w0 : World} {H : List Ck}
theorem cvP_nil {r : T3} : cvP [] r = [r] := rfl
theorem cvP_far {out : List Rg} {l : Rg} {r : T3} (h : out[out.length - 1]? = some l) (h1 : l.all = false) (h2 : cmp l.hi r.1 < 0) : cvP (out.map Rg.d) r = out.map Rg.d ++ [r] := by
  simp only [cvP, map_getLast h]
  rw [if_pos ⟨h1, h2⟩]
theorem cvP_in {out : List Rg} {l : Rg} {r : T3} (h : out[out.length - 1]? = some l) (h1 : ¬ (l.all = false ∧ cmp l.hi r.1 < 0)) (h2 : ¬ beR l.d r = true) : cvP (out.map Rg.d) r = out.map Rg.d := by
  simp only [cvP, map_getLast h]
  rw [if_neg h1, if_neg h2]
theorem cvP_near {out : List Rg} {l : Rg} {r : T3} (h : out[out.length - 1]? = some l) (h1 : ¬ (l.all = false ∧ cmp l.hi r.1 < 0)) (h2 : beR l.d r = true) {y : Rg} (hy : y.d = (l.lo, r.2.1, r.2.2)) : cvP (out.map Rg.d) r = (out.set (out.length - 1) y).map Rg.d := by
  simp only [cvP, map_getLast h]
  rw [if_neg h1, if_pos h2, set_last (by have := (List.getElem?_eq_some_iff.1 h).1; omega), List.map_append, List.map_dropLast]
  simp only [List.map_cons, List.map_nil, hy]
theorem perm_cv {rs : List Rg} {ins srt : List Rg} (hi : ins.map Rg.d = (rs.filter fun r => !emR r.d).map fun r => foR r.d) (hp : ins.Perm srt) (hs : srt.Pairwise fun x y => cmp x.lo y.lo ≤ 0) : IsCv (rs.map Rg.d) ((srt.map Rg.d).foldl cvP []) := by
  refine cvP_is ?_ (List.pairwise_map.2 hs)
  refine (hp.symm.map Rg.d).trans ?_
  rw [hi, List.filter_map, List.map_map]
  exact .refl _
end Go.Sx

