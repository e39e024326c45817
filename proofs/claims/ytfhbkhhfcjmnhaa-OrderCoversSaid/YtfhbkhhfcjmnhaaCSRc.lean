/- Part of a proof: slices.SortFunc of ranges of one's own. -/
import Derived.Test.YtfhbkhhfcjmnhaaCSRb
import Derived.Shelf.SlSortCmp.NoneTotal
namespace Go.Sx
open Go Go.Proofs Go.Sort
set_option maxRecDepth 10000
variable {w0 : World} {H : List Ck}
theorem sort_s {a : Option Addr} {c : Nat} {rs : List Rg} (hl : rs.length < 4611686018427387904) (hr : ∀ r ∈ rs, RBy w0 H r.la r.lc r.lo) :
    FnS Try.prog w0 (ol 26 a c rs :: H) 38 #[.slice a rs.length c, .func (.func 39) #[] #[]] (fun v H' => v = .tuple #[] ∧ ∃ rs', rs.Perm rs' ∧ rs'.Pairwise (fun x y => cmp x.lo y.lo ≤ 0) ∧ H' = ol 26 a c rs' :: H) := fun w hw => by
  have ho := Sat.ownOf (c' := ol 26 a c rs) .hd hw
  rcases ho.open with ⟨rfl, h0, rfl, _⟩ | ⟨blk, re, rfl, h1, h2, h3, h4, h5⟩
  · have e0 : rs = [] := List.eq_nil_of_length_eq_zero h0
    subst e0
    refine Calls.mono (AnyF.slices_SortFunc_none Try.sortRg none 0 (.func (.func 39) #[] #[]) w) ?_
    rintro e w' ⟨he, rfl⟩
    exact ⟨_, he, _, ⟨rfl, [], .refl _, .nil, rfl⟩, hw⟩
  · refine Calls.mono (sort_go w blk c rs re (fun r => RBy w0 H r.la r.lc r.lo) RBy.nil hr (fun W hX r h => h W ?_) h2 hl) ?_
    · refine Sat.tl (c := .star []) (hw.upd (c' := .star []) fun S hS hc => ⟨hX.mono fun i _ e => by subst e; exact hc.2 _ rfl, fun _ => False, trivial, fun b hb => hb.elim⟩)
    · rintro e w' ⟨v, he, rfl, rs', hp, hs, hB, hX⟩
      refine ⟨_, he, _, ⟨rfl, rs', hp, hs, rfl⟩, ?_⟩
      have hlen := hp.length_eq
      have hO : Own w' w0.heap.size 26 3 (some ⟨blk, 0, none⟩) rs'.length c (flat rs') := Own.mk' h1 hB (flat_length rs') (by omega) h4 (by
        have e1 : (flat rs').length = (flat rs).length := by rw [flat_length, flat_length, hlen]
        rw [e1]; exact h5)
      exact hw.own (ha := .hd) hO (hX.mono fun i _ e => by rw [e]; rfl) (fun ad' e => by cases e; exact .inl rfl)
end Go.Sx
