/- Part of a proof: several parts of a walk, one behind the other. -/
import Derived.Test.YtimakbpghggdfaaGreatCSRbj
import Derived.Shelf.SlSortCmp.NoneTotal
import Derived.Test.YtimakbpghggdfaaGreatCGAj
import Derived.Test.YtimakbpghggdfaaGreatCQCj
import Derived.Test.YtimakbpghggdfaaGreatCH1j
import Derived.Test.YtimakbpghggdfaaGreatCQ1
namespace Go.Sx
open Go Go.Proofs Go.Sort
set_option maxRecDepth 10000
variable {w0 : World} {H : List Ck}
theorem sort_s {a : Option Addr} {c : Nat} {rs : List Rg} (hl : rs.length < 4611686018427387904) (hr : ∀ r ∈ rs, RBy w0 H r.la r.lc r.lo) :
    FnS Tryz.prog w0 (ol 53 a c rs :: H) 83 #[.slice a rs.length c, .func (.func 84) #[] #[]] (fun v H' => v = .tuple #[] ∧ ∃ rs', rs.Perm rs' ∧ rs'.Pairwise (fun x y => cmp x.lo y.lo ≤ 0) ∧ H' = ol 53 a c rs' :: H) := fun w hw => by
  have ho := Sat.ownOf (c' := ol 53 a c rs) .hd hw
  rcases ho.open with ⟨rfl, h0, rfl, _⟩ | ⟨blk, re, rfl, h1, h2, h3, h4, h5⟩
  · have e0 : rs = [] := List.eq_nil_of_length_eq_zero h0
    subst e0
    refine Calls.mono (AnyF.slices_SortFunc_none Tryz.sortRg none 0 (.func (.func 84) #[] #[]) w) ?_
    rintro e w' ⟨he, rfl⟩
    exact ⟨_, he, _, ⟨rfl, [], .refl _, .nil, rfl⟩, hw⟩
  · refine Calls.mono (sort_go w blk c rs re (fun r => RBy w0 H r.la r.lc r.lo) RBy.nil hr (fun W hX r h => h W ?_) h2 hl) ?_
    · refine Sat.tl (c := .star []) (hw.upd (c' := .star []) fun S hS hc => ⟨hX.mono fun i _ e => by subst e; exact hc.2 _ rfl, fun _ => False, trivial, fun b hb => hb.elim⟩)
    · rintro e w' ⟨v, he, rfl, rs', hp, hs, hB, hX⟩
      refine ⟨_, he, _, ⟨rfl, rs', hp, hs, rfl⟩, ?_⟩
      have hlen := hp.length_eq
      have hO : Own w' w0.heap.size 53 3 (some ⟨blk, 0, none⟩) rs'.length c (flat rs') := Own.mk' h1 hB (flat_length rs') (by omega) h4 (by
        have e1 : (flat rs').length = (flat rs).length := by rw [flat_length, flat_length, hlen]
        rw [e1]; exact h5)
      exact hw.own (ha := .hd) hO (hX.mono fun i _ e => by rw [e]; rfl) (fun ad' e => by cases e; exact .inl rfl)
end Go.Sx
namespace Go.Sx
open Go Go.Proofs
set_option maxRecDepth 10000
variable {w0 : World} {H : List Ck}
theorem onext_s {a : Option Addr} {c : Nat} {xs : Bs} (ha : RBy w0 H a c xs) (hx : xs.length ≤ 140737488355327) : FnS Tryz.prog w0 H 11 #[.slice a xs.length c] (fun v H' => ∃ a' c', v = .slice a' (xs ++ [0]).length c' ∧ H' = ob a' c' (xs ++ [0]) :: H) := by
  refine fns_enter Tryz.func11 rfl rfl rfl ?_
  refine sx ?_
  refine s_rw (t := 6) (v' := .int .i64 ((xs.length + 1 : Nat) : Int)) rfl (ci (by omega)) ?_
  refine s_make rfl rfl (by omega) fun b => ?_
  refine sx ?_
  refine s_copy rfl rfl ?_ (ys := xs) (hk0 := by simp)
  have e : xs.take (List.replicate (xs.length + 1) (0 : UInt8)).length ++ (List.replicate (xs.length + 1) (0 : UInt8)).drop xs.length = xs ++ [0] := by
    rw [List.length_replicate, List.take_of_length_le (by omega), List.drop_replicate, show xs.length + 1 - xs.length = 1 by omega]
    rfl
  rw [e]
  refine sx ?_
  exact s_ret1 rfl rfl ⟨some b, xs.length + 1, by simp, rfl⟩
theorem qnext_s {a : Option Addr} {c : Nat} {xs : Bs} (ha : RBy w0 H a c xs) (hx : xs.length ≤ 140737488355327) : FnS Tryz.prog w0 H 158 #[.slice a xs.length c] (fun v H' => ∃ a' c', v = .slice a' (xs ++ [0]).length c' ∧ H' = ob a' c' (xs ++ [0]) :: H) := by
  refine fns_enter Tryz.func158 rfl rfl rfl ?_
  refine sx ?_
  refine s_rw (t := 6) (v' := .int .i64 ((xs.length + 1 : Nat) : Int)) rfl (ci (by omega)) ?_
  refine s_make rfl rfl (by omega) fun b => ?_
  refine sx ?_
  refine s_copy rfl rfl ?_ (ys := xs) (hk0 := by simp)
  have e : xs.take (List.replicate (xs.length + 1) (0 : UInt8)).length ++ (List.replicate (xs.length + 1) (0 : UInt8)).drop xs.length = xs ++ [0] := by
    rw [List.length_replicate, List.take_of_length_le (by omega), List.drop_replicate, show xs.length + 1 - xs.length = 1 by omega]
    rfl
  rw [e]
  refine sx ?_
  exact s_ret1 rfl rfl ⟨some b, xs.length + 1, by simp, rfl⟩
/-- What is told of two keys: what is between them. -/
def betK (a b : Bs) : Bs := if cmp a b < 0 then btw a b else []
def betE (a b : Bs) : Int := if cmp a b < 0 then 0 else 41
end Go.Sx
namespace Go.Sx
open Go Go.Proofs
set_option maxRecDepth 10000
variable {w0 : World} {H : List Ck}
abbrev Lr (r : Rg) : Prop := r.lo.length ≤ 140737488355328 ∧ r.hi.length ≤ 140737488355328
theorem ohas_s {r : Rg} {a : Option Addr} {c : Nat} {key : Bs} (hr : RRg w0 H r) (ha : RBy w0 H a c key) : FnV Tryz.prog w0 H 23 #[.agg r.cells.toArray, .slice a key.length c] (.bool (hasB r.d key)) := by
  have h1 := hr.lo
  have h2 := hr.hi
  obtain ⟨la, lc, lo, ha', hc, hi, all⟩ := r
  refine fns_enter Tryz.func23 rfl rfl rfl ?_
  refine sx ?_
  refine s_boxA rfl fun b => ?_
  refine sx ?_
  refine s_callV rfl (compare_s (xs := key) (ys := lo) (by exact rby) (by exact rby)) ?_
  refine sx ?_
  refine s_lif rfl (fun t1 => ?_) (fun t1 => ?_)
  · cases all
    · refine sx ?_
      refine s_callV rfl (compare_s (xs := key) (ys := hi) (by exact rby) (by exact rby)) ?_
      refine sx ?_
      exact s_ret1 rfl rfl ⟨by simp [hasB]; omega, rfl⟩
    · refine sx ?_
      exact s_ret1 rfl rfl ⟨by simp [hasB]; omega, rfl⟩
  · refine sx ?_
    exact s_ret1 rfl rfl ⟨by simp [hasB]; omega, rfl⟩
theorem qsame_s {a a' : Option Addr} {c c' : Nat} {xs ys : Bs} (ha : RBy w0 H a c xs) (hb : RBy w0 H a' c' ys) : FnV Tryz.prog w0 H 153 #[.slice a xs.length c, .slice a' ys.length c'] (.bool (decide (xs = ys))) := by
  refine fns_enter Tryz.func153 rfl rfl rfl ?_
  refine sx ?_
  refine s_callV rfl (qcmp_s ha hb) ?_
  refine sx ?_
  exact s_ret1 rfl rfl ⟨by rw [decide_eq_decide.2 (cmp_eq xs ys)], rfl⟩
theorem ominus_s {r q : Rg} (hr : RRg w0 H r) (hq : RRg w0 H q) (hl : Lr r) (hl' : Lr q) : FnS Tryz.prog w0 H 25 #[.agg r.cells.toArray, .agg q.cells.toArray]
    (fun v H' => ∃ x y : Rg, v = .tuple #[.agg x.cells.toArray, .agg y.cells.toArray] ∧ x.d = (miR r.d q.d).1 ∧ y.d = (miR r.d q.d).2 ∧ H' = oR x :: oR y :: H) := by
  have h3 := hq.lo
  have h4 := hq.hi
  have hq' := hq
  obtain ⟨la, lc, lo, ha, hc, hi, all⟩ := q
  simp only at h3 h4
  refine fns_enter Tryz.func25 rfl rfl rfl ?_
  refine sx ?_
  refine s_boxA rfl fun b2 => ?_
  refine sx ?_
  refine s_boxA rfl fun b3 => ?_
  refine sx ?_
  refine s_alloc fun b4 => ?_
  refine sx ?_
  refine s_alloc fun b5 => ?_
  refine sx ?_
  refine s_callV rfl (oempty_s (r := ⟨la, lc, lo, ha, hc, hi, all⟩) (by exact rrg)) ?_
  refine sx ?_
  refine s_cond rfl (fun t1 => ?_) (fun t1 => ?_)
  · refine sx ?_
    refine s_call rfl (oform_s (r := r) (by exact rrg) hl) ?_
    rintro _ _ ⟨x, rfl, hx, rfl⟩
    refine ⟨chk_seq, ?_⟩
    refine sx ?_
    refine s_retcc (vs := x.cells) (vs' := rg0.cells) rfl rfl rfl (by exact at_) rfl (by exact at_) rfl ⟨x, rg0, rfl, ?_, ?_, rfl⟩ ?_
    · rw [hx, miR, if_pos t1]
    · rw [miR, if_pos t1]
    · refine Ent.trans (H' := oR x :: H) (by exact ent) ?_
      exact Ent.head hnilR
  refine sx ?_
  refine s_call rfl (omeet_s (r := r) (q := ⟨none, 0, [], la, lc, lo, false⟩) (by exact rrg) ⟨RBy.nil, by exact rby⟩ hl ⟨Nat.zero_le _, hl'.1⟩) ?_
  rintro _ _ ⟨x, rfl, hx, rfl⟩
  refine ⟨chk_seq, ?_⟩
  refine sx ?_
  refine s_alloc fun b6 => ?_
  refine sx ?_
  cases all
  · refine sx ?_
    refine sx ?_; refine s_drH (oR x :: .hb b6 53 x.cells :: .hb b3 53 (Rg.cells ⟨la, lc, lo, ha, hc, hi, false⟩) :: .hb b2 53 r.cells :: H) (.one true 0 (.one true 1 (.one true 2 (.one true 3 (.one true 4 (.one false 5 (.one false 6 (.one false 7 .nil)))))))) mixed (by kernel_rfl) ?_; refine sx ?_
    refine s_call rfl (omeet_s (r := r) (q := ⟨ha, hc, hi, none, 0, [], true⟩) (by exact rrg) ⟨by exact rby, RBy.nil⟩ hl ⟨hl'.2, Nat.zero_le _⟩) ?_
    rintro _ _ ⟨y, rfl, hy, rfl⟩
    refine ⟨chk_held (by exact ent), ?_⟩
    refine sx ?_
    refine s_retcc (vs := x.cells) (vs' := y.cells) rfl rfl rfl (by exact at_) rfl (by exact at_) rfl ⟨x, y, rfl, ?_, ?_, rfl⟩ (by exact ent)
    · rw [hx, miR, if_neg (by rw [t1]; decide)]
    · rw [hy, miR, if_neg (by rw [t1]; decide)]; rfl
  · refine sx ?_
    refine s_retcc (vs := x.cells) (vs' := rg0.cells) rfl rfl rfl (by exact at_) rfl (by exact at_) rfl ⟨x, rg0, rfl, ?_, ?_, rfl⟩ ?_
    · rw [hx, miR, if_neg (by rw [t1]; decide)]
    · rw [miR, if_neg (by rw [t1]; decide)]; rfl
    · refine Ent.trans (H' := oR x :: H) (by exact ent) ?_
      exact Ent.head hnilR
end Go.Sx
namespace Go.Sx
open Go Go.Proofs
set_option maxRecDepth 10000
variable {w0 : World} {H : List Ck}
/-- Two lists, each rising, as one. -/
def mgR : List Rg → List Rg → List Rg
  | [], ys => ys
  | x :: xs, [] => x :: xs
  | x :: xs, y :: ys => if cmp x.lo y.lo ≤ 0 then x :: mgR xs (y :: ys) else y :: mgR (x :: xs) ys
termination_by xs ys => xs.length + ys.length
theorem mgR_nil (xs : List Rg) : mgR xs [] = xs := by
  cases xs <;> simp [mgR]
theorem mgR_nil' (ys : List Rg) : mgR [] ys = ys := by simp [mgR]
theorem mgR_l {us vs : List Rg} {i j : Nat} {x : Rg} (hx : us[i]? = some x) (h : j = vs.length ∨ ∃ y, vs[j]? = some y ∧ cmp x.lo y.lo ≤ 0) : mgR (us.drop i) (vs.drop j) = x :: mgR (us.drop (i + 1)) (vs.drop j) := by
  rw [dropG hx]
  rcases h with rfl | ⟨y, hy, hc⟩
  · rw [List.drop_length, mgR_nil, mgR_nil]
  · rw [dropG hy, mgR, if_pos hc]
theorem mgR_r {us vs : List Rg} {i j : Nat} {y : Rg} (hy : vs[j]? = some y) (h : i = us.length ∨ ∃ x, us[i]? = some x ∧ ¬ cmp x.lo y.lo ≤ 0) : mgR (us.drop i) (vs.drop j) = y :: mgR (us.drop i) (vs.drop (j + 1)) := by
  rw [dropG hy]
  rcases h with rfl | ⟨x, hx, hc⟩
  · rw [List.drop_length, mgR_nil', mgR_nil']
  · rw [dropG hx, mgR, if_neg hc]
theorem mgR_len : ∀ (us vs : List Rg), (mgR us vs).length = us.length + vs.length
  | [], ys => by simp [mgR]
  | x :: xs, [] => by simp [mgR]
  | x :: xs, y :: ys => by
    rw [mgR]
    split
    · have := mgR_len xs (y :: ys)
      simp only [List.length_cons] at this ⊢
      omega
    · have := mgR_len (x :: xs) ys
      simp only [List.length_cons] at this ⊢
      omega
termination_by us vs => us.length + vs.length
theorem mgR_app : ∀ (us vs : List Rg), (∀ x ∈ us, ∀ y ∈ vs, cmp x.lo y.lo ≤ 0) → mgR us vs = us ++ vs
  | [], ys, _ => by simp [mgR]
  | x :: xs, [], _ => by simp [mgR]
  | x :: xs, y :: ys, h => by
    rw [mgR, if_pos (h x (List.mem_cons_self ..) y (List.mem_cons_self ..)), mgR_app xs (y :: ys) (fun a ha b hb => h a (List.mem_cons_of_mem _ ha) b hb)]
    rfl
theorem mgR_mem : ∀ (us vs : List Rg) (x : Rg), x ∈ mgR us vs → x ∈ us ∨ x ∈ vs
  | [], ys, x, h => by rw [mgR_nil'] at h; exact .inr h
  | y :: xs, [], x, h => by rw [mgR_nil] at h; exact .inl h
  | a :: xs, b :: ys, x, h => by
    rw [mgR] at h
    split at h
    · rcases List.mem_cons.1 h with rfl | h
      · exact .inl (List.mem_cons_self ..)
      · rcases mgR_mem xs (b :: ys) x h with h | h
        · exact .inl (List.mem_cons_of_mem _ h)
        · exact .inr h
    · rcases List.mem_cons.1 h with rfl | h
      · exact .inr (List.mem_cons_self ..)
      · rcases mgR_mem (a :: xs) ys x h with h | h
        · exact .inl h
        · exact .inr (List.mem_cons_of_mem _ h)
termination_by us vs => us.length + vs.length
def byR : Nat → List Rg → List Rg
  | 0, l => l
  | n + 1, l => if l.length < 2 then l else mgR (byR n (l.take (l.length / 2))) (byR n (l.drop (l.length / 2)))
theorem byR_len : ∀ (n : Nat) (l : List Rg), (byR n l).length = l.length
  | 0, _ => rfl
  | n + 1, l => by
    rw [byR]
    split
    · rfl
    · rw [mgR_len, byR_len n, byR_len n, List.length_take, List.length_drop]
      omega
/-- What rises already stays. -/
theorem byR_id : ∀ (n : Nat) (l : List Rg), l.Pairwise (fun x y => cmp x.lo y.lo ≤ 0) → byR n l = l
  | 0, _, _ => rfl
  | n + 1, l, h => by
    rw [byR]
    split
    · rfl
    · have h2 := h
      rw [← List.take_append_drop (l.length / 2) l, List.pairwise_append] at h2
      rw [byR_id n _ h2.1, byR_id n _ h2.2.1, mgR_app _ _ h2.2.2, List.take_append_drop]
structure MrI where
  i : Nat
  j : Nat
  a : Option Addr
  c : Nat
  out : List Rg
structure MrI.ok (m : MrI) (us vs : List Rg) : Prop where
  hi : m.i ≤ us.length
  hj : m.j ≤ vs.length
  eq : m.out ++ mgR (us.drop m.i) (vs.drop m.j) = mgR us vs
  len : m.out.length = m.i + m.j
end Go.Sx
