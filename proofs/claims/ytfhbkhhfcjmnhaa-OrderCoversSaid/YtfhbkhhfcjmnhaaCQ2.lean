/- Part of a proof: ranges put in order, and joined, by the document. -/
import Derived.Test.YtfhbkhhfcjmnhaaCQ1
import Derived.Test.YtfhbkhhfcjmnhaaCH1
namespace Go.Sx
open Go Go.Proofs
set_option maxRecDepth 10000
variable {w0 : World} {H : List Ck}
/-- Two lists, each rising, as one. -/
def mgR : List Rg → List Rg → List Rg
  | [], ys => ys
  | x :: xs, [] => x :: xs
  | x :: xs, y :: ys => if cmp x.lo y.lo ≤ 0 then x :: mgR xs (y :: ys) else y :: mgR (x :: xs) ys
termination_by xs ys => xs.length + ys.length
theorem mgR_nil (xs : List Rg) : mgR xs [] = xs := by
  cases xs <;> simp [mgR]
theorem mgR_nil' (ys : List Rg) : mgR [] ys = ys := by simp [mgR]
theorem mgR_l {us vs : List Rg} {i j : Nat} {x : Rg} (hx : us[i]? = some x) (h : j = vs.length ∨ ∃ y, vs[j]? = some y ∧ cmp x.lo y.lo ≤ 0) : mgR (us.drop i) (vs.drop j) = x :: mgR (us.drop (i + 1)) (vs.drop j) := by
  rw [dropG hx]
  rcases h with rfl | ⟨y, hy, hc⟩
  · rw [List.drop_length, mgR_nil, mgR_nil]
  · rw [dropG hy, mgR, if_pos hc]
theorem mgR_r {us vs : List Rg} {i j : Nat} {y : Rg} (hy : vs[j]? = some y) (h : i = us.length ∨ ∃ x, us[i]? = some x ∧ ¬ cmp x.lo y.lo ≤ 0) : mgR (us.drop i) (vs.drop j) = y :: mgR (us.drop i) (vs.drop (j + 1)) := by
  rw [dropG hy]
  rcases h with rfl | ⟨x, hx, hc⟩
  · rw [List.drop_length, mgR_nil', mgR_nil']
  · rw [dropG hx, mgR, if_neg hc]
theorem mgR_len : ∀ (us vs : List Rg), (mgR us vs).length = us.length + vs.length
  | [], ys => by simp [mgR]
  | x :: xs, [] => by simp [mgR]
  | x :: xs, y :: ys => by
    rw [mgR]
    split
    · have := mgR_len xs (y :: ys)
      simp only [List.length_cons] at this ⊢
      omega
    · have := mgR_len (x :: xs) ys
      simp only [List.length_cons] at this ⊢
      omega
termination_by us vs => us.length + vs.length
theorem mgR_app : ∀ (us vs : List Rg), (∀ x ∈ us, ∀ y ∈ vs, cmp x.lo y.lo ≤ 0) → mgR us vs = us ++ vs
  | [], ys, _ => by simp [mgR]
  | x :: xs, [], _ => by simp [mgR]
  | x :: xs, y :: ys, h => by
    rw [mgR, if_pos (h x (List.mem_cons_self ..) y (List.mem_cons_self ..)), mgR_app xs (y :: ys) (fun a ha b hb => h a (List.mem_cons_of_mem _ ha) b hb)]
    rfl
theorem mgR_mem : ∀ (us vs : List Rg) (x : Rg), x ∈ mgR us vs → x ∈ us ∨ x ∈ vs
  | [], ys, x, h => by rw [mgR_nil'] at h; exact .inr h
  | y :: xs, [], x, h => by rw [mgR_nil] at h; exact .inl h
  | a :: xs, b :: ys, x, h => by
    rw [mgR] at h
    split at h
    · rcases List.mem_cons.1 h with rfl | h
      · exact .inl (List.mem_cons_self ..)
      · rcases mgR_mem xs (b :: ys) x h with h | h
        · exact .inl (List.mem_cons_of_mem _ h)
        · exact .inr h
    · rcases List.mem_cons.1 h with rfl | h
      · exact .inr (List.mem_cons_self ..)
      · rcases mgR_mem (a :: xs) ys x h with h | h
        · exact .inl h
        · exact .inr (List.mem_cons_of_mem _ h)
termination_by us vs => us.length + vs.length
def byR : Nat → List Rg → List Rg
  | 0, l => l
  | n + 1, l => if l.length < 2 then l else mgR (byR n (l.take (l.length / 2))) (byR n (l.drop (l.length / 2)))
theorem byR_len : ∀ (n : Nat) (l : List Rg), (byR n l).length = l.length
  | 0, _ => rfl
  | n + 1, l => by
    rw [byR]
    split
    · rfl
    · rw [mgR_len, byR_len n, byR_len n, List.length_take, List.length_drop]
      omega
/-- What rises already stays. -/
theorem byR_id : ∀ (n : Nat) (l : List Rg), l.Pairwise (fun x y => cmp x.lo y.lo ≤ 0) → byR n l = l
  | 0, _, _ => rfl
  | n + 1, l, h => by
    rw [byR]
    split
    · rfl
    · have h2 := h
      rw [← List.take_append_drop (l.length / 2) l, List.pairwise_append] at h2
      rw [byR_id n _ h2.1, byR_id n _ h2.2.1, mgR_app _ _ h2.2.2, List.take_append_drop]
structure MrI where
  i : Nat
  j : Nat
  a : Option Addr
  c : Nat
  out : List Rg
structure MrI.ok (m : MrI) (us vs : List Rg) : Prop where
  hi : m.i ≤ us.length
  hj : m.j ≤ vs.length
  eq : m.out ++ mgR (us.drop m.i) (vs.drop m.j) = mgR us vs
  len : m.out.length = m.i + m.j
theorem byLo_s : ∀ (n : Nat) {H : List Ck} {a : Option Addr} {c : Nat} {xs : List Rg}, xs.length ≤ n → xs.length * 56 ≤ 140737488355328 → RSl w0 H a c xs → (∀ x ∈ xs, RRg w0 H x) →
    FnS Try.prog w0 H 43 #[.slice a xs.length c] (fun v H' => ∃ a c L, v = .slice a (byR n xs).length c ∧ H' = .star L :: H ∧ (∀ x ∈ byR n xs, x ∈ xs) ∧ RSl w0 (.star L :: H) a c (byR n xs))
  | 0, H, a, c, xs, hn, hm, hx, hr => by
    refine fns_enter Try.func43 rfl rfl rfl ?_
    refine sx ?_
    refine s_if rfl (fun t1 => ?_) (fun t1 => absurd t1 (by omega))
    refine sx ?_
    exact s_ret1 rfl rfl ⟨a, c, [], rfl, rfl, fun _ h => h, hx.tl⟩
  | n + 1, H, a, c, xs, hn, hm, hx, hr => by
    refine fns_enter Try.func43 rfl rfl rfl ?_
    refine s_kn (Kn.sl hx) fun l1 => ?_
    simp only [maxLen] at l1
    refine sx ?_
    refine s_if rfl (fun t1 => ?_) (fun t1 => ?_)
    · have e : byR (n + 1) xs = xs := by rw [byR, if_pos (by omega)]
      refine sx ?_
      refine s_ret1 rfl rfl ⟨a, c, [], ?_, rfl, fun _ h => by rw [e] at h; exact h, ?_⟩
      · rw [e]
      · rw [e]; exact hx.tl
    have e : byR (n + 1) xs = mgR (byR n (xs.take (xs.length / 2))) (byR n (xs.drop (xs.length / 2))) := by rw [byR, if_neg (by omega)]
    rw [e]
    refine sx ?_
    have ht : (xs.take (xs.length / 2)).length = xs.length / 2 := by rw [List.length_take]; omega
    have h1 := byLo_s n (H := H) (a := a) (c := c) (xs := xs.take (xs.length / 2)) (by omega) (by omega) (hx.take (by omega)) (fun x h => hr x (List.mem_of_mem_take h))
    have hul := byR_len n (xs.take (xs.length / 2))
    generalize byR n (xs.take (xs.length / 2)) = us at h1 hul
    rw [ht] at h1 hul
    refine s_rw (t := 17) rfl (ci (by omega : _ = ((xs.length / 2 : Nat) : Int))) ?_
    refine sx ?_
    refine s_call rfl h1 ?_
    rintro _ _ ⟨a1, c1, L1, rfl, rfl, hu, r1⟩
    refine ⟨chk_seq, ?_⟩
    refine sx ?_
    have hd : (xs.drop (xs.length / 2)).length = xs.length - xs.length / 2 := by rw [List.length_drop]
    have h2 := byLo_s n (H := .star L1 :: H) (a := Sx.sl a c (xs.length / 2) 3) (c := c - xs.length / 2) (xs := xs.drop (xs.length / 2)) (by omega) (by omega) (RSl.tl (hx.drop (by omega))) (fun x h => (hr x (List.mem_of_mem_drop h)).tl)
    have hvl := byR_len n (xs.drop (xs.length / 2))
    generalize byR n (xs.drop (xs.length / 2)) = vs at h2 hvl
    rw [hd] at h2 hvl
    refine s_rw (t := 23) rfl (ci (by omega : _ = ((xs.length / 2 : Nat) : Int))) ?_
    refine sx ?_
    refine s_call rfl h2 ?_
    rintro _ _ ⟨a2, c2, L2, rfl, rfl, hv, r2⟩
    refine ⟨chk_seq, ?_⟩
    have r1 : RSl w0 (.star L2 :: .star L1 :: H) a1 c1 us := r1.tl
    have hru : ∀ x ∈ us, RRg w0 (.star L2 :: .star L1 :: H) x := fun x h => (hr x (List.mem_of_mem_take (hu x h))).tl.tl
    have hrv : ∀ x ∈ vs, RRg w0 (.star L2 :: .star L1 :: H) x := fun x h => (hr x (List.mem_of_mem_drop (hv x h))).tl.tl
    refine sx ?_
    refine s_loop (fun m : MrI => [(3, .slice a1 us.length c1), (4, .slice a2 vs.length c2), (5, .slice m.a m.out.length m.c), (6, .int .i64 m.i), (7, .int .i64 m.j)]) (fun m => ol 26 m.a m.c m.out :: .star L2 :: .star L1 :: H) (fun m => m.ok us vs) (fun m => us.length + vs.length - m.i - m.j) ⟨0, 0, none, 0, []⟩ ⟨Nat.zero_le _, Nat.zero_le _, rfl, rfl⟩ ?_
    rintro ⟨i, j, a3, c3, out⟩ ⟨hi, hj, he, hol⟩
    simp only at hi hj he hol ⊢
    have hol2 : out.length ≤ xs.length := by omega
    refine s_seq ?_
    refine s_seq ?_
    refine s_cut (ι := Bool) (fun t => [(3, .slice a1 us.length c1), (4, .slice a2 vs.length c2), (5, .slice a3 out.length c3), (6, .int .i64 i), (7, .int .i64 j), (35, .bool t)]) (fun _ => ol 26 a3 c3 out :: .star L2 :: .star L1 :: H) (fun t => (t = true → i < us.length ∨ j < vs.length) ∧ (t = false → i = us.length ∧ j = vs.length)) ?_ ?_
    · refine sx ?_
      refine s_lif rfl (fun t2 => ?_) (fun t2 => ?_)
      · refine sx ?_
        exact s_mid true ⟨fun _ => .inl (by omega), fun h => by cases h⟩
      · refine sx ?_
        exact s_mid (decide ((j : Int) < vs.length)) ⟨fun h => .inr (by have := of_decide_eq_true h; omega), fun h => by have := of_decide_eq_false h; omega⟩
    rintro t ⟨ht1, ht2⟩
    refine sx ?_
    refine s_cond rfl (fun t3 => ?_) (fun t3 => ?_)
    · have h3 := ht1 t3
      refine sx ?_
      refine s_lifn rfl (fun t4 => ?_) (fun t4 => ?_)
      · obtain ⟨⟨yla, ylc, ylo, yha, yhc, yhi, yal⟩, hy⟩ := get_lt vs j (by omega)
        have ry := (hrv _ (List.mem_of_getElem? hy)).tl (d := ol 26 a3 c3 out)
        refine sx ?_
        refine s_if rfl (fun t5 => ?_) (fun t5 => ?_)
        · obtain ⟨⟨xla, xlc, xlo, xha, xhc, xhi, xal⟩, hx⟩ := get_lt us i (by omega)
          have rx := (hru _ (List.mem_of_getElem? hx)).tl (d := ol 26 a3 c3 out)
          refine sx ?_; refine s_dr (.one true 0 (.one true 1 (.one true 2 (.one true 3 (.one true 4 (.one true 5 (.one true 6 (.one true 7 (.one true 8 (.one true 9 (.one false 10 (.one true 11 .nil)))))))))))) mixed (by kernel_rfl) ?_; refine sx ?_
          refine s_callV rfl (qcmp_s (xs := xlo) (ys := ylo) rx.lo ry.lo) ?_
          refine sx ?_
          refine s_if rfl (fun t6 => ?_) (fun t6 => ?_)
          · refine sx ?_
            refine s_bsl [(⟨xla, xlc, xlo, xha, xhc, xhi, xal⟩ : Rg)] rfl rfl fun b1 => ?_
            refine sx ?_
            refine s_app ?_
            intro a4 c4
            refine sx ?_
            exact s_again ⟨i + 1, j, a4, c4, out ++ [⟨xla, xlc, xlo, xha, xhc, xhi, xal⟩]⟩ ⟨by simp only; omega, hj, by simp only; rw [List.append_assoc, List.singleton_append, ← mgR_l hx (.inr ⟨_, hy, t6⟩)]; exact he, by simp only [List.length_append, List.length_cons, List.length_nil]; omega⟩ (by simp only; omega)
          · refine sx ?_
            refine s_bsl [(⟨yla, ylc, ylo, yha, yhc, yhi, yal⟩ : Rg)] rfl rfl fun b1 => ?_
            refine sx ?_
            refine s_app ?_
            intro a4 c4
            refine sx ?_
            exact s_again ⟨i, j + 1, a4, c4, out ++ [⟨yla, ylc, ylo, yha, yhc, yhi, yal⟩]⟩ ⟨hi, by simp only; omega, by simp only; rw [List.append_assoc, List.singleton_append, ← mgR_r hy (.inr ⟨_, hx, t6⟩)]; exact he, by simp only [List.length_append, List.length_cons, List.length_nil]; omega⟩ (by simp only; omega)
        · refine sx ?_
          refine s_if rfl (fun t6 => absurd t6 (by omega)) (fun t6 => ?_)
          refine sx ?_
          refine s_bsl [(⟨yla, ylc, ylo, yha, yhc, yhi, yal⟩ : Rg)] rfl rfl fun b1 => ?_
          refine sx ?_
          refine s_app ?_
          intro a4 c4
          refine sx ?_
          exact s_again ⟨i, j + 1, a4, c4, out ++ [⟨yla, ylc, ylo, yha, yhc, yhi, yal⟩]⟩ ⟨hi, by simp only; omega, by simp only; rw [List.append_assoc, List.singleton_append, ← mgR_r hy (.inl (by omega))]; exact he, by simp only [List.length_append, List.length_cons, List.length_nil]; omega⟩ (by simp only; omega)
      · obtain ⟨⟨xla, xlc, xlo, xha, xhc, xhi, xal⟩, hx⟩ := get_lt us i (by omega)
        refine sx ?_
        refine s_if rfl (fun t6 => ?_) (fun t6 => absurd (by omega) t6)
        refine sx ?_
        refine s_bsl [(⟨xla, xlc, xlo, xha, xhc, xhi, xal⟩ : Rg)] rfl rfl fun b1 => ?_
        refine sx ?_
        refine s_app ?_
        intro a4 c4
        refine sx ?_
        exact s_again ⟨i + 1, j, a4, c4, out ++ [⟨xla, xlc, xlo, xha, xhc, xhi, xal⟩]⟩ ⟨by simp only; omega, hj, by simp only; rw [List.append_assoc, List.singleton_append, ← mgR_l hx (.inl (by omega))]; exact he, by simp only [List.length_append, List.length_cons, List.length_nil]; omega⟩ (by simp only; omega)
    · obtain ⟨rfl, rfl⟩ := ht2 t3
      rw [List.drop_length, List.drop_length, mgR_nil, List.append_nil] at he
      subst he
      refine sx ?_
      refine s_ret1 rfl rfl ⟨a3, c3, [ol 26 a3 c3 (mgR us vs)], rfl, rfl, ?_, ?_⟩ ?_
      · intro x h
        rcases mgR_mem us vs x h with h | h
        · exact List.mem_of_mem_take (hu x h)
        · exact List.mem_of_mem_drop (hv x h)
      · exact RSl.ent (RSl.hd (E := 26)) (Ent.mem' (by simp))
      · refine Ent.trans (H' := ol 26 a3 c3 (mgR us vs) :: H) (by exact ent) ?_
        exact Ent.star (L := [ol 26 a3 c3 (mgR us vs)]) Ent.refl
end Go.Sx
