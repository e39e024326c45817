/- Part of a proof: a life is put in, by the program. -/
import Derived.Test.YtceandgmpcpmfaaCD3
namespace Go.Sx
open Go Go.Proofs
set_option maxRecDepth 10000
variable {w0 : World} {H : List Ck}
set_option maxHeartbeats 1000000 in
theorem insert_s {a v : Option Addr} {c i : Nat} {xs : List Lf} {x : Lf} (hi : i ≤ xs.length) (hl : xs.length + 1 ≤ 5864062014805) :
    FnS Try.prog w0 (ol 34 v 1 [x] :: ol 34 a c xs :: H) 39 #[.slice a xs.length c, .int .i64 i, .slice v 1 1]
      (fun r H' => ∃ a' c', r = .slice a' (xs.length + 1) c' ∧ H' = ol 34 a' c' (xs.take i ++ x :: xs.drop i) :: H) := by
  have hcap : Kn w0 (ol 34 v 1 [x] :: ol 34 a c xs :: H) (xs.length ≤ c ∧ c ≤ maxLen) := Kn.sl (RSl.tl RSl.hd : RSl w0 (ol 34 v 1 [x] :: ol 34 a c xs :: H) a c xs)
  refine fns_enter Try.func39 rfl rfl rfl ?_
  refine s_kn hcap fun l1 => ?_
  simp only [maxLen] at l1
  refine sx ?_
  refine s_if rfl (fun t1 => ?_) (fun t1 => ?_)
  · obtain rfl : i = xs.length := by omega
    refine sx ?_
    refine s_app (ys := [x]) ?_
    intro a1 c1
    refine sx ?_
    refine s_ret1 rfl rfl ⟨a1, c1, ?_, rfl⟩ ?_
    · rw [List.length_append]; rfl
    · have e : xs.take xs.length ++ x :: xs.drop xs.length = xs ++ [x] := by simp
      rw [e]
      exact ent
  refine sx ?_
  refine s_if rfl (fun t2 => ?_) (fun t2 => ?_)
  · refine sx ?_
    refine s_rw (t := 39) rfl (ci (by omega : _ = ((xs.length + 1 - i : Nat) : Int))) ?_
    refine s_appZ (xs := xs) ?_
    intro a1 c1
    refine s_rw (t := 40) (v' := .slice a1 (xs.length + 1) c1) rfl (by rw [show i + (xs.length + 1 - i) = xs.length + 1 by omega]) ?_
    have hzl : (xs.take i ++ List.replicate (xs.length + 1 - i) (⟨0, 0, 0⟩ : Lf)).length = xs.length + 1 := by simp; omega
    refine s_knL (Kn.sl (RSl.hd : RSl w0 (ol 34 a1 c1 (xs.take i ++ List.replicate (xs.length + 1 - i) (⟨0, 0, 0⟩ : Lf)) :: ol 34 v 1 [x] :: ol 34 a c xs :: H) a1 c1 _)) fun l3 => ?_
    rw [hzl] at l3
    simp only [maxLen] at l3
    refine sx ?_
    refine s_copyP (p := i) (xs := xs.take i ++ List.replicate (xs.length + 1 - i) (⟨0, 0, 0⟩ : Lf)) (ys := [x]) rfl rfl rfl ?_
    have e1 : putL (xs.take i ++ List.replicate (xs.length + 1 - i) (⟨0, 0, 0⟩ : Lf)) i ([x].take (xs.length + 1 - i)) = xs.take i ++ x :: List.replicate (xs.length - i) (⟨0, 0, 0⟩ : Lf) := by
      have g1 : [x].take (xs.length + 1 - i) = [x] := List.take_of_length_le (by simp; omega)
      have g2 : (xs.take i).length = i := by rw [List.length_take]; omega
      rw [g1, putL, List.take_left' g2, List.length_singleton, List.drop_append, g2, List.drop_of_length_le (by omega), show i + 1 - i = 1 by omega, List.drop_replicate, show xs.length + 1 - i - 1 = xs.length - i by omega]
      simp
    rw [e1]
    have hr : RSl w0 (ol 34 a1 c1 (xs.take i ++ x :: List.replicate (xs.length - i) (⟨0, 0, 0⟩ : Lf)) :: ol 34 v 1 [x] :: ol 34 a c xs :: H) (Sx.sl a c i 3) (c - i) (xs.drop i) := RSl.drop (RSl.tl (RSl.tl RSl.hd)) hi
    refine sx ?_; refine s_drR (ol 34 a1 c1 (xs.take i ++ x :: List.replicate (xs.length - i) (⟨0, 0, 0⟩ : Lf))) (by exact rm) (.one true 0 (.one true 1 (.one true 2 (.one true 3 (.one true 4 (.one true 5 (.one true 6 (.one true 7 (.one false 8 .nil))))))))) mixed (by kernel_rfl) ?_; refine sx ?_
    refine s_copyP (p := i + 1) (xs := xs.take i ++ x :: List.replicate (xs.length - i) (⟨0, 0, 0⟩ : Lf)) (ys := xs.drop i) rfl rfl rfl ?_ (hp := by simp; omega)
    have e2 : putL (xs.take i ++ x :: List.replicate (xs.length - i) (⟨0, 0, 0⟩ : Lf)) (i + 1) ((xs.drop i).take (xs.length + 1 - (i + 1))) = xs.take i ++ x :: xs.drop i := by
      have g1 : (xs.drop i).take (xs.length + 1 - (i + 1)) = xs.drop i := List.take_of_length_le (by rw [List.length_drop]; omega)
      have := putL_app (l1 := xs.take i ++ [x]) (l2 := List.replicate (xs.length - i) (⟨0, 0, 0⟩ : Lf)) (ys := xs.drop i) (p := i + 1) (by rw [List.length_append, List.length_take, List.length_singleton]; omega) (by simp)
      rw [g1]
      simpa using this
    rw [e2]
    refine sx ?_
    exact s_ret1 rfl rfl ⟨a1, c1, rfl, rfl⟩
  refine s_kn (φ := ∃ ad, a = some ad) (fun w hw => own_gA (c := c) (Sat.ownOf (c' := ol 34 a c xs) (.tl .hd) hw) (by omega)) ?_
  rintro ⟨ad, rfl⟩
  refine sx ?_
  refine s_yV (y_ovl (T := 39) (xs := [x]) (ys := xs) rfl rfl rfl Rm.hd Rm.hd (by simp) (by omega) (by omega)) ?_
  refine sx ?_
  have hr : RSl w0 (ol 34 v 1 [x] :: ol 34 (some ad) c xs :: H) (Sx.sl (some ad) c i 3) (c - i) (xs.drop i) := RSl.drop (RSl.tl RSl.hd) hi
  refine sx ?_; refine s_drR (ol 34 (some ad) c xs) (by exact rm) (.one true 0 (.one true 1 (.one true 2 (.one true 3 (.one true 4 (.one true 5 (.one true 6 (.one true 7 (.one false 8 .nil))))))))) mixed (by kernel_rfl) ?_; refine sx ?_
  refine s_copyQ (p := i + 1) (c3 := c - i) (xs := xs) (ys := xs.drop i) rfl rfl rfl ?_ (hm := by rw [List.length_drop]; omega)
  have e1 : putL xs (i + 1) (xs.drop i) = xs.take (i + 1) ++ xs.drop i := by
    have := putL_app (l1 := xs.take (i + 1)) (l2 := xs.drop (i + 1)) (ys := xs.drop i) (p := i + 1) (by rw [List.length_take]; omega) (by rw [List.length_drop, List.length_drop]; omega)
    rwa [List.take_append_drop] at this
  rw [e1]
  refine sx ?_
  obtain ⟨y, hy⟩ := get_lt xs i (by omega)
  have e3 : xs.take (i + 1) ++ xs.drop i = xs.take i ++ y :: xs.drop i := by rw [snocT hy]; simp
  rw [e3]
  refine s_copyP (p := i) (xs := xs.take i ++ y :: xs.drop i) (ys := [x]) rfl rfl rfl ?_ (hp := by simp; omega)
  have e2 : putL (xs.take i ++ y :: xs.drop i) i ([x].take (xs.length + 1 - i)) = xs.take i ++ x :: xs.drop i := by
    have g1 : [x].take (xs.length + 1 - i) = [x] := List.take_of_length_le (by simp; omega)
    rw [g1]
    exact putL_one (by rw [List.length_take]; omega)
  rw [e2]
  refine sx ?_
  exact s_ret1 rfl rfl ⟨some ad, c, rfl, rfl⟩
theorem meetB_iff {xs : List Lf} {x : Lf} {k : Int} : meetB xs x k = true ↔ ∃ i y, k = (i : Nat) ∧ xs[i]? = some y ∧ y.ov x := by
  unfold meetB
  split
  · rename_i h
    obtain ⟨i, rfl⟩ := Int.eq_ofNat_of_zero_le h
    rw [Int.toNat_natCast]
    cases hy : xs[i]? with
    | none =>
      refine ⟨fun h => by simp at h, fun ⟨j, y, h1, h2, _⟩ => ?_⟩
      have : i = j := by omega
      rw [← this, hy] at h2
      cases h2
    | some y =>
      simp only [decide_eq_true_eq]
      refine ⟨fun h => ⟨i, y, rfl, hy, h⟩, fun ⟨j, z, h1, h2, h3⟩ => ?_⟩
      have : i = j := by omega
      rw [← this, hy] at h2
      cases h2
      exact h3
  · rename_i h
    refine ⟨fun h => by simp at h, fun ⟨j, y, h1, _⟩ => by omega⟩
/-- What the program's Put does to a list. -/
abbrev PutR (d : Nat) (xs : List Lf) (x : Lf) (H : List Ck) : Value → List Ck → Prop := fun r H' => r = .int .i64 (putE xs x) ∧ ∃ a' c', H' = .hb d 63 [.slice a' (putV xs x).length c'] :: ol 34 a' c' (putV xs x) :: H
theorem dput_s {d : Nat} {a : Option Addr} {c : Nat} {xs : List Lf} {x : Lf} (hs : Srt xs) (hl : xs.length + 1 ≤ 5864062014805) :
    FnS Try.prog w0 (.hb d 63 [.slice a xs.length c] :: ol 34 a c xs :: H) 21 #[.pointer (some ⟨d, 0, none⟩), .agg x.cells.toArray] (PutR d xs x H) := by
  refine fns_enter Try.func21 rfl rfl rfl ?_
  refine sx ?_
  refine s_box1 rfl rfl fun b2 => ?_
  refine sx ?_
  refine s_boxA rfl fun b3 => ?_
  refine sx ?_
  refine s_lif rfl (fun t1 => ?_) (fun t1 => ?_)
  · refine sx ?_
    have hb : x.bad := .inl t1
    refine s_ret1 rfl rfl ⟨by rw [putE_101 hb], a, c, rfl⟩ ?_
    rw [putV, if_neg (by rw [putE_101 hb]; decide)]
    exact ent
  refine sx ?_
  refine s_lif rfl (fun t2 => ?_) (fun t2 => ?_)
  · refine sx ?_
    have hb : x.bad := .inr (.inl t2)
    refine s_ret1 rfl rfl ⟨by rw [putE_101 hb], a, c, rfl⟩ ?_
    rw [putV, if_neg (by rw [putE_101 hb]; decide)]
    exact ent
  refine sx ?_
  refine s_if rfl (fun t3 => ?_) (fun t3 => ?_)
  · refine sx ?_
    have hb : x.bad := .inr (.inr t3)
    refine s_ret1 rfl rfl ⟨by rw [putE_101 hb], a, c, rfl⟩ ?_
    rw [putV, if_neg (by rw [putE_101 hb]; decide)]
    exact ent
  have hb : ¬ x.bad := by rintro (h | h | h) <;> contradiction
  refine sx ?_; refine s_dr (.one true 0 (.one true 1 (.one true 2 (.one true 3 (.one true 4 (.one false 5 (.one true 6 (.one true 7 (.one true 8 (.one true 9 (.one true 10 .nil))))))))))) mixed (by kernel_rfl) ?_; refine sx ?_
  refine s_call rfl (bsf_s (by exact rsl) hs (by omega)) ?_
  rintro _ _ ⟨i, is, rfl, rfl, h1, h2, h3, h4⟩
  refine ⟨chk_held (by exact ent), ?_⟩
  refine sx ?_
  have h102 : ∀ y, y ∈ xs → y.ov x → putE xs x = 102 := fun y hy ho => putE_102 hb hy ho
  have hV : putE xs x = 102 → putV xs x = xs := fun h => by rw [putV, if_neg (by rw [h]; decide)]
  have hmm : ∀ k : Int, meetB xs x k = true → putE xs x = 102 := fun k h => by
    obtain ⟨j, y, _, hy, ho⟩ := meetB_iff.1 h
    exact h102 y (List.mem_of_getElem? hy) ho
  refine s_lsp rfl (fun t4 => ?_) (fun t4 => ?_)
  · subst t4
    have hx := h4 rfl
    have h5 := h102 x hx ⟨rfl, by have := hs.2 x hx; simp only [Lf.bad] at this; omega, by have := hs.2 x hx; simp only [Lf.bad] at this; omega⟩
    refine sx ?_
    refine s_ret1 rfl rfl ⟨by rw [h5], a, c, rfl⟩ ?_
    rw [hV h5]
    exact ent
  subst t4
  refine sx ?_
  refine s_callFV (cap := [.pointer (some ⟨b2, 0, none⟩), .pointer (some ⟨b3, 0, none⟩)]) rfl rfl (meets_s (k := (i : Int) - 1)) ?_
  refine sx ?_
  refine s_lsp rfl (fun t5 => ?_) (fun t5 => ?_)
  · have h5 := hmm _ t5
    refine sx ?_
    refine s_ret1 rfl rfl ⟨by rw [h5], a, c, rfl⟩ ?_
    rw [hV h5]
    exact ent
  refine sx ?_
  refine s_callFV (cap := [.pointer (some ⟨b2, 0, none⟩), .pointer (some ⟨b3, 0, none⟩)]) rfl rfl (meets_s (k := (i : Int))) ?_
  refine sx ?_
  refine s_cond rfl (fun t6 => ?_) (fun t6 => ?_)
  · have h5 := hmm _ t6
    refine sx ?_
    refine s_ret1 rfl rfl ⟨by rw [h5], a, c, rfl⟩ ?_
    rw [hV h5]
    exact ent
  have hno : ∀ y ∈ xs, ¬ y.ov x := at_pos hs hb h1 h2 h3 (fun k y hk hy ho => by
    have : meetB xs x ((i : Int) - 1) = true := meetB_iff.2 ⟨k, y, by omega, hy, ho⟩
    rw [t5] at this; cases this) (fun y hy ho => by
    have : meetB xs x (i : Int) = true := meetB_iff.2 ⟨i, y, rfl, hy, ho⟩
    rw [t6] at this; cases this)
  have h0 : putE xs x = 0 := putE_ok hb hno
  have hv : putV xs x = xs.take i ++ x :: xs.drop i := by rw [putV, if_pos h0, ins_at hs hb h1 h2 h3 hno]
  have hvl : (putV xs x).length = xs.length + 1 := by rw [hv]; simp; omega
  refine sx ?_; refine s_drH (.hb b3 34 x.cells :: .hb b2 40 [.pointer (some ⟨d, 0, none⟩)] :: H) (.one true 0 (.one true 1 (.one true 2 (.one true 3 (.one true 5 (.one true 6 (.alt (.one false 4 (.one false 7 (.one false 8 (.one true 9 (.one true 10 (.one false 11 .nil)))))) (.one false 7 (.one false 4 (.one false 8 (.one true 9 (.one true 10 (.one false 11 .nil))))))))))))) mixed (by kernel_rfl) ?_; refine sx ?_
  refine s_alt ?_ ?_
  · refine s_yA rfl rfl (by exact yy) ?_ (chk_held (by exact ent))
    refine s_bsl [x] rfl rfl fun b52 => ?_
    refine s_entL (ol 34 (some ⟨b52, 0, none⟩) 1 [x] :: ol 34 a c xs :: .hb b3 34 x.cells :: .hb b2 40 [.pointer (some ⟨d, 0, none⟩)] :: .hb d 63 [.slice a xs.length c] :: H) (by exact ent) ?_
    refine s_call rfl (insert_s h1 hl) ?_
    rintro _ _ ⟨a', c', rfl, rfl⟩
    refine ⟨chk_held (by exact ent), ?_⟩
    refine sx ?_
    refine s_ret1 rfl rfl ⟨by rw [h0], a', c', rfl⟩ ?_
    rw [hvl, hv]
    exact ent
  · refine s_bsl [x] rfl rfl fun b52 => ?_
    refine s_yA rfl rfl (by exact yy) ?_ (chk_held (by exact ent))
    refine s_entL (ol 34 (some ⟨b52, 0, none⟩) 1 [x] :: ol 34 a c xs :: .hb b3 34 x.cells :: .hb b2 40 [.pointer (some ⟨d, 0, none⟩)] :: .hb d 63 [.slice a xs.length c] :: H) (by exact ent) ?_
    refine s_call rfl (insert_s h1 hl) ?_
    rintro _ _ ⟨a', c', rfl, rfl⟩
    refine ⟨chk_held (by exact ent), ?_⟩
    refine sx ?_
    refine s_ret1 rfl rfl ⟨by rw [h0], a', c', rfl⟩ ?_
    rw [hvl, hv]
    exact ent
end Go.Sx
