/- Part of a proof: what may be a branch, by the document. -/
import Derived.Test.YtkcabddbeclokaaGreatCB2
namespace Go.Sx
open Go Go.Proofs
set_option maxRecDepth 10000
variable {w0 : World} {H : List Ck}
theorem room_s {size : Int} (h : sizedB size = true) : FnV Tryz.prog w0 H 76 #[.int .i64 size] (.int .i64 (size - 32)) := by
  have hb := sizedB_bd h
  refine fns_enter Tryz.func76 rfl rfl rfl ?_
  refine sx ?_
  refine s_callV rfl rsized_s ?_
  refine sx ?_
  refine s_cond rfl (fun t1 => ?_) (fun t1 => ?_)
  · rw [h] at t1; cases t1
  · refine sx ?_
    exact s_ret1 rfl rfl ⟨rfl, rfl⟩
/-- Numbers that rise, the same ones. -/
structure Srt (xs ys : List Int) : Prop where
  perm : ys.Perm xs
  rise : ys.Pairwise (· ≤ ·)
structure MgI where
  i : Nat
  j : Nat
  a : Option Addr
  c : Nat
  out : List Int
structure MgI.ok (m : MgI) (us vs : List Int) : Prop where
  hi : m.i ≤ us.length
  hj : m.j ≤ vs.length
  perm : m.out.Perm (us.take m.i ++ vs.take m.j)
  rise : m.out.Pairwise (· ≤ ·)
  la : ∀ x ∈ m.out, ∀ y ∈ us.drop m.i, x ≤ y
  lb : ∀ x ∈ m.out, ∀ y ∈ vs.drop m.j, x ≤ y
theorem dropC {α : Type} {l : List α} {i : Nat} {x : α} (h : l[i]? = some x) : l.drop i = x :: l.drop (i + 1) := by
  obtain ⟨hi, rfl⟩ := List.getElem?_eq_some_iff.1 h
  exact List.drop_eq_getElem_cons hi
theorem rise_drop {l : List Int} (h : l.Pairwise (· ≤ ·)) {i : Nat} {x : Int} (hx : l[i]? = some x) : ∀ y ∈ l.drop (i + 1), x ≤ y := by
  have := List.Pairwise.sublist (List.drop_sublist i l) h
  rw [dropC hx] at this
  exact (List.pairwise_cons.1 this).1
theorem MgI.left {m : MgI} {us vs : List Int} (h : m.ok us vs) (ha : us.Pairwise (· ≤ ·)) {x : Int} (hx : us[m.i]? = some x) (hle : ∀ y ∈ vs.drop m.j, x ≤ y) {a : Option Addr} {c : Nat} : MgI.ok ⟨m.i + 1, m.j, a, c, m.out ++ [x]⟩ us vs := by
  have hd := dropC hx
  refine ⟨get_lt' hx, h.hj, ?_, ?_, ?_, ?_⟩
  · simp only [snocT hx]
    refine (h.perm.append_right [x]).trans ?_
    rw [List.append_assoc, List.append_assoc]
    exact List.Perm.append_left _ List.perm_append_comm
  · refine List.pairwise_append.2 ⟨h.rise, by simp, fun y hy z hz => ?_⟩
    rw [List.mem_singleton.1 hz]
    exact h.la y hy x (by rw [hd]; simp)
  · intro y hy z hz
    rcases List.mem_append.1 hy with h1 | h1
    · exact h.la y h1 z (by rw [hd]; exact List.mem_cons_of_mem _ hz)
    · rw [List.mem_singleton.1 h1]; exact rise_drop ha hx z hz
  · intro y hy z hz
    rcases List.mem_append.1 hy with h1 | h1
    · exact h.lb y h1 z hz
    · rw [List.mem_singleton.1 h1]; exact hle z hz
theorem MgI.right {m : MgI} {us vs : List Int} (h : m.ok us vs) (hb : vs.Pairwise (· ≤ ·)) {x : Int} (hx : vs[m.j]? = some x) (hle : ∀ y ∈ us.drop m.i, x ≤ y) {a : Option Addr} {c : Nat} : MgI.ok ⟨m.i, m.j + 1, a, c, m.out ++ [x]⟩ us vs := by
  have hd := dropC hx
  refine ⟨h.hi, get_lt' hx, ?_, ?_, ?_, ?_⟩
  · simp only [snocT hx]
    rw [← List.append_assoc]
    exact h.perm.append_right [x]
  · refine List.pairwise_append.2 ⟨h.rise, by simp, fun y hy z hz => ?_⟩
    rw [List.mem_singleton.1 hz]
    exact h.lb y hy x (by rw [hd]; simp)
  · intro y hy z hz
    rcases List.mem_append.1 hy with h1 | h1
    · exact h.la y h1 z hz
    · rw [List.mem_singleton.1 h1]; exact hle z hz
  · intro y hy z hz
    rcases List.mem_append.1 hy with h1 | h1
    · exact h.lb y h1 z (by rw [hd]; exact List.mem_cons_of_mem _ hz)
    · rw [List.mem_singleton.1 h1]; exact rise_drop hb hx z hz
theorem drop_le {l : List Int} (h : l.Pairwise (· ≤ ·)) {i : Nat} {x y : Int} (hx : l[i]? = some x) (hy : y ≤ x) : ∀ z ∈ l.drop i, y ≤ z := by
  rw [dropC hx]
  intro z hz
  rcases List.mem_cons.1 hz with rfl | h1
  · exact hy
  · exact Int.le_trans hy (rise_drop h hx z h1)
theorem sorted_s : ∀ (n : Nat) {H : List Ck} {a : Option Addr} {c : Nat} {xs : List Int}, xs.length ≤ n → xs.length * 8 ≤ 140737488355328 → RSl w0 H a c xs →
    FnS Tryz.prog w0 H 89 #[.slice a xs.length c] (fun v H' => ∃ a c ys L, v = .slice a (ys : List Int).length c ∧ H' = .star L :: H ∧ Srt xs ys ∧ RSl w0 (.star L :: H) a c ys)
  | 0, H, a, c, xs, hn, hm, hx => by
    refine fns_enter Tryz.func89 rfl rfl rfl ?_
    refine sx ?_
    refine s_if rfl (fun t1 => ?_) (fun t1 => absurd t1 (by omega))
    refine sx ?_
    have e : xs = [] := List.eq_nil_of_length_eq_zero (by omega)
    exact s_ret1 rfl rfl ⟨a, c, xs, [], rfl, rfl, ⟨List.Perm.refl _, by rw [e]; exact List.Pairwise.nil⟩, hx.tl⟩
  | n + 1, H, a, c, xs, hn, hm, hx => by
    refine fns_enter Tryz.func89 rfl rfl rfl ?_
    refine s_kn (Kn.sl hx) fun l1 => ?_
    simp only [maxLen] at l1
    refine sx ?_
    refine s_if rfl (fun t1 => ?_) (fun t1 => ?_)
    · refine sx ?_
      refine s_ret1 rfl rfl ⟨a, c, xs, [], rfl, rfl, ⟨List.Perm.refl _, ?_⟩, hx.tl⟩
      match xs, t1 with
      | [], _ => exact List.Pairwise.nil
      | [x], _ => simp
      | x :: y :: r, h => simp at h; omega
    refine sx ?_
    have ht : (xs.take (xs.length / 2)).length = xs.length / 2 := by rw [List.length_take]; omega
    have h1 := sorted_s n (H := H) (a := a) (c := c) (xs := xs.take (xs.length / 2)) (by omega) (by omega) (hx.take (by omega))
    rw [ht] at h1
    refine s_rw (t := 15) rfl (ci (by omega : _ = ((xs.length / 2 : Nat) : Int))) ?_
    refine sx ?_
    refine s_call rfl h1 ?_
    rintro _ _ ⟨a1, c1, us, L1, rfl, rfl, ha, r1⟩
    refine ⟨chk_seq, ?_⟩
    refine sx ?_
    have hd : (xs.drop (xs.length / 2)).length = xs.length - xs.length / 2 := by rw [List.length_drop]
    have h2 := sorted_s n (H := .star L1 :: H) (a := Sx.sl a c (xs.length / 2) 1) (c := c - xs.length / 2) (xs := xs.drop (xs.length / 2)) (by omega) (by omega) (RSl.tl (hx.drop (by omega)))
    rw [hd] at h2
    refine s_rw (t := 21) rfl (ci (by omega : _ = ((xs.length / 2 : Nat) : Int))) ?_
    refine sx ?_
    refine s_call rfl h2 ?_
    rintro _ _ ⟨a2, c2, vs, L2, rfl, rfl, hb, r2⟩
    refine ⟨chk_seq, ?_⟩
    have r1 : RSl w0 (.star L2 :: .star L1 :: H) a1 c1 us := r1.tl
    have hal := ha.perm.length_eq
    have hbl := hb.perm.length_eq
    rw [ht] at hal
    rw [hd] at hbl
    refine sx ?_
    refine s_loop (fun m : MgI => [(3, .slice a1 us.length c1), (4, .slice a2 vs.length c2), (5, .slice m.a m.out.length m.c), (6, .int .i64 m.i), (7, .int .i64 m.j)]) (fun m => ol 3 m.a m.c m.out :: .star L2 :: .star L1 :: H) (fun m => m.ok us vs) (fun m => us.length + vs.length - m.i - m.j) ⟨0, 0, none, 0, []⟩ ⟨Nat.zero_le _, Nat.zero_le _, List.Perm.refl _, List.Pairwise.nil, fun x h => by simp at h, fun x h => by simp at h⟩ ?_
    rintro ⟨i, j, a3, c3, out⟩ hok
    have hi := hok.hi
    have hj := hok.hj
    have hol := hok.perm.length_eq
    simp only [List.length_append, List.length_take] at hi hj hol ⊢
    refine s_seq ?_
    refine s_seq ?_
    refine s_cut (ι := Bool) (fun t => [(3, .slice a1 us.length c1), (4, .slice a2 vs.length c2), (5, .slice a3 out.length c3), (6, .int .i64 i), (7, .int .i64 j), (33, .bool t)]) (fun _ => ol 3 a3 c3 out :: .star L2 :: .star L1 :: H) (fun t => (t = true → i < us.length ∨ j < vs.length) ∧ (t = false → i = us.length ∧ j = vs.length)) ?_ ?_
    · refine sx ?_
      refine s_lif rfl (fun t2 => ?_) (fun t2 => ?_)
      · refine sx ?_
        exact s_mid true ⟨fun _ => .inl (by omega), fun h => by cases h⟩
      · refine sx ?_
        exact s_mid (decide ((j : Int) < vs.length)) ⟨fun h => .inr (by have := of_decide_eq_true h; omega), fun h => by have := of_decide_eq_false h; omega⟩
    rintro t ⟨ht1, ht2⟩
    refine sx ?_
    refine s_cond rfl (fun t3 => ?_) (fun t3 => ?_)
    · have h3 := ht1 t3
      refine sx ?_
      refine s_cut (ι := Bool) (fun t => [(3, .slice a1 us.length c1), (4, .slice a2 vs.length c2), (5, .slice a3 out.length c3), (6, .int .i64 i), (7, .int .i64 j), (54, .bool t)]) (fun _ => ol 3 a3 c3 out :: .star L2 :: .star L1 :: H) (fun t => (t = true → ∃ x, us[i]? = some x ∧ ∀ y ∈ vs.drop j, x ≤ y) ∧ (t = false → ∃ x, vs[j]? = some x ∧ ∀ y ∈ us.drop i, x ≤ y)) ?_ ?_
      · refine sx ?_; refine s_dr (.one true 0 (.one true 1 (.one true 2 (.one true 3 (.one true 4 (.one true 5 (.one true 6 (.one true 7 (.one true 8 (.one true 9 (.one true 10 (.one true 11 (.one true 12 (.one true 13 (.one true 14 (.one true 15 (.one true 16 (.one true 17 (.one true 18 (.one true 19 (.one true 20 .nil))))))))))))))))))))) mixed (by kernel_rfl) ?_; refine sx ?_
        refine s_lif rfl (fun t4 => ?_) (fun t4 => ?_)
        · have hj' : j = vs.length := by omega
          obtain ⟨x, hx⟩ := get_lt us i (by omega)
          refine sx ?_
          refine s_mid true ⟨fun _ => ⟨x, hx, fun y hy => ?_⟩, fun h => by cases h⟩
          rw [hj', List.drop_length] at hy
          cases hy
        obtain ⟨y, hy⟩ := get_lt vs j (by omega)
        refine sx ?_
        refine s_lif rfl (fun t5 => ?_) (fun t5 => ?_)
        · obtain ⟨x, hx⟩ := get_lt us i (by omega)
          refine sx ?_
          refine s_mid (decide (x ≤ y)) ⟨fun h => ⟨x, hx, drop_le hb.rise hy (of_decide_eq_true h)⟩, fun h => ⟨y, hy, drop_le ha.rise hx (by have := of_decide_eq_false h; omega)⟩⟩
        · refine sx ?_
          refine s_mid false ⟨fun h => (by cases h), fun _ => ⟨y, hy, fun z hz => ?_⟩⟩
          rw [List.drop_of_length_le (by omega)] at hz
          cases hz
      rintro u ⟨hu1, hu2⟩
      refine sx ?_
      refine s_cond rfl (fun t6 => ?_) (fun t6 => ?_)
      · obtain ⟨x, hx, hle⟩ := hu1 t6
        have := get_lt' hx
        refine sx ?_
        refine s_bsl [x] rfl rfl fun b1 => ?_
        refine sx ?_
        refine s_app ?_
        intro a4 c4
        refine sx ?_
        exact s_again ⟨i + 1, j, a4, c4, out ++ [x]⟩ (MgI.left hok ha.rise hx hle) (by simp only; omega)
      · obtain ⟨x, hx, hle⟩ := hu2 t6
        have := get_lt' hx
        refine sx ?_
        refine s_bsl [x] rfl rfl fun b1 => ?_
        refine sx ?_
        refine s_app ?_
        intro a4 c4
        refine sx ?_
        exact s_again ⟨i, j + 1, a4, c4, out ++ [x]⟩ (MgI.right hok hb.rise hx hle) (by simp only; omega)
    · obtain ⟨rfl, rfl⟩ := ht2 t3
      have hp := hok.perm
      simp only [List.take_length] at hp
      refine sx ?_
      refine s_ret1 rfl rfl ⟨a3, c3, out, [ol 3 a3 c3 out], rfl, rfl, ⟨?_, hok.rise⟩, ?_⟩ ?_
      · refine hp.trans ((ha.perm.append hb.perm).trans ?_)
        rw [List.take_append_drop]
      · exact RSl.ent (RSl.hd (E := 3)) (Ent.mem' (by simp))
      · refine Ent.trans (H' := ol 3 a3 c3 out :: H) (by exact ent) ?_
        exact Ent.star (L := [ol 3 a3 c3 out]) Ent.refl
theorem alike_s {a : Option Addr} {c : Nat} {xs : List Int} (hm : xs.length * 8 ≤ 140737488355328) (hx : RSl w0 H a c xs) : FnV Tryz.prog w0 H 75 #[.slice a xs.length c] (.bool (decide (¬ xs.Nodup))) := by
  have key : FnS Tryz.prog w0 H 75 #[.slice a xs.length c] (fun v H' => v = .bool (decide (¬ xs.Nodup)) ∧ ∃ L, H' = .star L :: H) := by
    refine fns_enter Tryz.func75 rfl rfl rfl ?_
    refine sx ?_
    refine s_call rfl (sorted_s xs.length (Nat.le_refl _) hm hx) ?_
    rintro _ _ ⟨a1, c1, ys, L, rfl, rfl, hs, r1⟩
    refine ⟨chk_seq, ?_⟩
    have hyl := hs.perm.length_eq
    refine sx ?_
    refine s_loop (fun i : Nat => [(3, .slice a1 ys.length c1), (4, .int .i64 i)]) (fun _ => .star L :: H) (fun i => 1 ≤ i ∧ (i ≤ ys.length ∨ i = 1) ∧ ∀ j x y, j + 1 < i → ys[j]? = some x → ys[j + 1]? = some y → x < y) (fun i => ys.length - i) 1 ⟨Nat.le_refl _, .inr rfl, fun j x y h => absurd h (by omega)⟩ ?_
    rintro i ⟨hi1, hi2, hl⟩
    refine sx ?_
    refine s_if rfl (fun t1 => ?_) (fun t1 => ?_)
    · obtain ⟨i, rfl⟩ : ∃ m, i = m + 1 := ⟨i - 1, by omega⟩
      obtain ⟨x, hx⟩ := get_lt ys i (by omega)
      obtain ⟨y, hy⟩ := get_lt ys (i + 1) (by omega)
      have hle : x ≤ y := by
        obtain ⟨h1, h1'⟩ := List.getElem?_eq_some_iff.1 hx
        obtain ⟨h2, h2'⟩ := List.getElem?_eq_some_iff.1 hy
        have := List.pairwise_iff_getElem.1 hs.rise i (i + 1) h1 h2 (by omega)
        rwa [h1', h2'] at this
      refine sx ?_; refine s_dr (.one true 0 (.one true 1 (.one true 2 (.one true 3 (.one true 4 (.one true 5 (.one true 6 (.one true 7 (.one true 8 (.one true 9 .nil)))))))))) mixed (by kernel_rfl) ?_; refine sx ?_
      refine s_if rfl (fun t2 => ?_) (fun t2 => ?_)
      · refine sx ?_
        refine s_ret1 rfl rfl ⟨?_, L, rfl⟩
        rw [decide_eq_true]
        intro hn
        have hn' := hs.perm.nodup_iff.2 hn
        obtain ⟨h1, h1'⟩ := List.getElem?_eq_some_iff.1 hx
        obtain ⟨h2, h2'⟩ := List.getElem?_eq_some_iff.1 hy
        have := List.pairwise_iff_getElem.1 hn' i (i + 1) h1 h2 (by omega)
        rw [h1', h2'] at this
        exact this t2.symm
      · refine sx ?_
        refine s_again (i + 1 + 1) ⟨by omega, .inl (by omega), fun j x' y' hj hx' hy' => ?_⟩ (by omega)
        rcases Nat.lt_or_eq_of_le (Nat.lt_succ_iff.1 hj) with h | h
        · exact hl j x' y' h hx' hy'
        · obtain rfl : j = i := by omega
          rw [hx] at hx'
          rw [hy] at hy'
          cases hx'; cases hy'
          omega
    · refine sx ?_
      refine s_ret1 rfl rfl ⟨?_, L, rfl⟩
      rw [decide_eq_false]
      refine fun hn => hn (hs.perm.nodup_iff.1 ?_)
      refine List.pairwise_iff_getElem.2 fun j k hj hk hjk => ?_
      have step : ∀ m, j + 1 + m < ys.length → ys[j] < ys[j + 1 + m]! := by
        intro m
        induction m with
        | zero =>
          intro hm
          have := hl j ys[j] ys[j + 1] (by omega) (List.getElem?_eq_getElem hj) (List.getElem?_eq_getElem (by omega))
          rw [getElem!_pos ys (j + 1 + 0) hm]
          exact this
        | succ m ih =>
          intro hm
          have h1 := ih (by omega)
          have h2 := hl (j + 1 + m) ys[j + 1 + m] ys[j + 1 + m + 1] (by omega) (List.getElem?_eq_getElem (by omega)) (List.getElem?_eq_getElem (by omega))
          rw [getElem!_pos ys (j + 1 + m) (by omega)] at h1
          rw [getElem!_pos ys (j + 1 + (m + 1)) hm]
          exact Int.lt_trans h1 h2
      have := step (k - (j + 1)) (by omega)
      rw [getElem!_pos ys _ (by omega)] at this
      have e : j + 1 + (k - (j + 1)) = k := by omega
      simp only [e] at this
      omega
  exact fun w hw => (key w hw).mono fun v w' ⟨H', ⟨h1, L, h2⟩, h3⟩ => ⟨H, ⟨h1, rfl⟩, by rw [h2] at h3; exact h3.tl⟩
theorem rcheck_s {k : Kd} {size : Int} (hk : RKd w0 H k) (hm : k.ps.length * 8 ≤ 140737488355328) : FnV Tryz.prog w0 H 50 #[.int .i64 size, .agg k.cells.toArray] (.int .i64 (chkK size k.d)) := by
  refine fns_enter Tryz.func50 rfl rfl rfl ?_
  refine s_kn (Kn.kp hk) fun l1 => s_kn (Kn.kk hk) fun l2 => ?_
  simp only [maxLen] at l1 l2
  have hps := hk.ps
  have hks := hk.ks
  have hkl : k.keys.length = k.ks.length := by simp
  refine sx ?_
  refine s_boxA rfl fun b => ?_
  refine sx ?_
  refine s_callV rfl rsized_s ?_
  refine sx ?_
  refine s_cond rfl (fun t1 => ?_) (fun t1 => ?_)
  · refine sx ?_
    exact s_ret1 rfl rfl ⟨by rw [chkK_1 (by simpa using t1)], rfl⟩
  have hs : sizedB size = true := by simpa using t1
  refine sx ?_
  refine s_lif rfl (fun t2 => ?_) (fun t2 => ?_)
  · refine sx ?_
    exact s_ret1 rfl rfl ⟨by rw [chkK_61 hs (fun h => by have := h.2.1; simp only at this; omega)], rfl⟩
  refine sx ?_
  refine s_callV rfl (rfit_s (k := k) (by exact rkd)) ?_
  refine sx ?_
  refine s_lifn rfl (fun t3 => ?_) (fun t3 => ?_)
  · refine sx ?_
    exact s_ret1 rfl rfl ⟨by rw [chkK_61 hs (fun h => t3 (by rw [← hkl]; exact h.1))], rfl⟩
  refine sx ?_
  refine s_callV rfl (alike_s hm (by exact rsl)) ?_
  refine sx ?_
  refine s_if rfl (fun t4 => ?_) (fun t4 => ?_)
  · refine sx ?_
    exact s_ret1 rfl rfl ⟨by rw [chkK_61 hs (fun h => t4 h.2.2.1)], rfl⟩
  have hn : k.ps.Nodup := Decidable.not_not.1 t4
  refine sx ?_
  refine s_loop (fun i : Nat => [(0, .int .i64 size), (3, .pointer (some ⟨b, 0, none⟩)), (5, .int .i64 i)]) (fun _ => .hb b 25 k.cells :: H) (fun i => i ≤ k.ps.length ∧ ∀ n ∈ k.ps.take i, 2 ≤ n ∧ n < 65536) (fun i => k.ps.length - i) 0 ⟨Nat.zero_le _, fun n h => by simp at h⟩ ?_
  rintro i ⟨hi, hr⟩
  refine sx ?_
  refine s_if rfl (fun t5 => ?_) (fun t5 => ?_)
  · obtain ⟨a, ha⟩ := get_lt k.ps i (by omega)
    have ham := List.mem_of_getElem? ha
    refine sx ?_
    refine s_lif rfl (fun t6 => ?_) (fun t6 => ?_)
    · refine sx ?_
      exact s_ret1 rfl rfl ⟨by rw [chkK_61 hs (fun h => by have := h.2.2.2 a ham; omega)], rfl⟩
    refine sx ?_
    refine s_if rfl (fun t7 => ?_) (fun t7 => ?_)
    · refine sx ?_
      exact s_ret1 rfl rfl ⟨by rw [chkK_61 hs (fun h => by have := h.2.2.2 a ham; omega)], rfl⟩
    refine sx ?_
    refine s_again (i + 1) ⟨by omega, fun n hn' => ?_⟩ (by omega)
    rw [snocT ha] at hn'
    rcases List.mem_append.1 hn' with h | h
    · exact hr n h
    · rw [List.mem_singleton.1 h]; omega
  obtain rfl : i = k.ps.length := by omega
  rw [List.take_length] at hr
  have hP : k.d.2.length + 1 = k.d.1.length ∧ 2 ≤ k.d.1.length ∧ PgOk k.d.1 := ⟨by simp only [hkl]; omega, by simp only; omega, hn, hr⟩
  have hb := sizedB_bd hs
  refine sx ?_
  refine s_loop (fun i : Nat => [(0, .int .i64 size), (3, .pointer (some ⟨b, 0, none⟩)), (6, .int .i64 i)]) (fun _ => .hb b 25 k.cells :: H) (fun i => i ≤ k.ks.length ∧ KyOk size (k.keys.take i)) (fun i => k.ks.length - i) 0 ⟨Nat.zero_le _, fun x h => by simp at h⟩ ?_
  rintro i ⟨hi, hy⟩
  refine sx ?_
  refine s_if rfl (fun t8 => ?_) (fun t8 => ?_)
  · obtain ⟨p, hp⟩ := get_lt k.ks i (by omega)
    have hpm := List.mem_of_getElem? (Kd.kget hp)
    refine sx ?_
    refine s_lif rfl (fun t9 => ?_) (fun t9 => ?_)
    · refine sx ?_
      exact s_ret1 rfl rfl ⟨by rw [chkK_62 hs hP (fun h => by have := h p.xs hpm; omega)], rfl⟩
    refine sx ?_
    refine s_if rfl (fun t10 => ?_) (fun t10 => ?_)
    · refine sx ?_
      exact s_ret1 rfl rfl ⟨by rw [chkK_62 hs hP (fun h => by have := h p.xs hpm; omega)], rfl⟩
    · refine sx ?_
      refine s_again (i + 1) ⟨by omega, fun x hx => ?_⟩ (by omega)
      rw [snocT (Kd.kget hp)] at hx
      rcases List.mem_append.1 hx with h | h
      · exact hy x h
      · rw [List.mem_singleton.1 h]; omega
  obtain rfl : i = k.ks.length := by omega
  rw [← hkl, List.take_length] at hy
  have hbb := ky_bd hs hy
  have hpl := pg_bd ⟨hn, hr⟩
  refine sx ?_
  refine s_loop (fun i : Nat => [(0, .int .i64 size), (3, .pointer (some ⟨b, 0, none⟩)), (7, .int .i64 i)]) (fun _ => .hb b 25 k.cells :: H) (fun i => 1 ≤ i ∧ (i ≤ k.ks.length ∨ i = 1) ∧ ∀ j x y, j + 1 < i → k.keys[j]? = some x → k.keys[j + 1]? = some y → cmp x y < 0) (fun i => k.ks.length - i) 1 ⟨Nat.le_refl _, .inr rfl, fun j x y h => absurd h (by omega)⟩ ?_
  rintro i ⟨hi1, hi2, hl⟩
  refine sx ?_
  refine s_if rfl (fun t11 => ?_) (fun t11 => ?_)
  · obtain ⟨i, rfl⟩ : ∃ m, i = m + 1 := ⟨i - 1, by omega⟩
    obtain ⟨p, hp⟩ := get_lt k.ks i (by omega)
    obtain ⟨q, hq⟩ := get_lt k.ks (i + 1) (by omega)
    have hpb := hk.el p (List.mem_of_getElem? hp)
    have hqb := hk.el q (List.mem_of_getElem? hq)
    refine sx ?_; refine s_dr (.one true 0 (.one true 1 (.one true 2 (.one true 3 (.one true 4 (.one true 5 (.one true 6 (.one true 7 (.one true 8 (.one true 9 (.one true 10 (.one true 11 (.one true 12 (.one true 13 .nil)))))))))))))) mixed (by kernel_rfl) ?_; refine sx ?_
    refine s_if rfl (fun t12 => ?_) (fun t12 => ?_)
    · refine sx ?_
      refine s_ret1 rfl rfl ⟨?_, rfl⟩
      rw [chkK_63 hs hP hy]
      rw [← Bool.not_eq_true]
      intro h
      have := risK_iff.1 h i p.xs q.xs (Kd.kget hp) (Kd.kget hq)
      omega
    · refine sx ?_
      refine s_again (i + 1 + 1) ⟨by omega, .inl (by omega), fun j x y hj hx hy' => ?_⟩ (by omega)
      rcases Nat.lt_or_eq_of_le (Nat.lt_succ_iff.1 hj) with h | h
      · exact hl j x y h hx hy'
      · obtain rfl : j = i := by omega
        rw [Kd.kget hp] at hx
        rw [Kd.kget hq] at hy'
        cases hx; cases hy'
        omega
  have hR : risK k.keys = true := risK_iff.2 fun j x y hx hy' => hl j x y (by have := get_lt' hy'; omega) hx hy'
  refine sx ?_
  refine s_callV rfl (rbytes_s (k := k) (by exact rkd) (by simp only [bytesK]; omega)) ?_
  refine sx ?_
  refine s_callV rfl (room_s hs) ?_
  refine sx ?_
  refine s_if rfl (fun t13 => ?_) (fun t13 => ?_)
  · refine sx ?_
    refine s_ret1 rfl rfl ⟨?_, rfl⟩
    rw [chkK_e hs hP hy hR, if_pos t13]
  · refine sx ?_
    refine s_ret1 rfl rfl ⟨?_, rfl⟩
    rw [chkK_e hs hP hy hR, if_neg t13]
end Go.Sx
