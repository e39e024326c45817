/- Part of a proof: slices.SortStableFunc of entries, walked. -/
import Derived.Test.YtpnhoafmlhlfgaaGreatCZE
namespace Go.Sx
open Go Go.Proofs
set_option maxRecDepth 10000
variable {w0 : World} {H : List Ck}
theorem slice_len {a : Option Addr} {c n m : Nat} (h : n = m) : Value.slice a n c = Value.slice a m c := by rw [h]
structure StI where
  k : Nat
  P : List KV
  Q : List KV
set_option maxHeartbeats 4000000 in
theorem stable_s {a : Option Addr} {c : Nat} {xs : List KV} (hr : ∀ e ∈ xs, RBy w0 H e.ka e.kc e.k) (hl : xs.length ≤ 549755813888) :
    FnS Tryz.prog w0 (ol 51 a c xs :: H) 83 #[.slice a xs.length c, .int .i64 xs.length, fcA] (fun v H' => v = .tuple #[] ∧ ∃ s, Mrg xs s ∧ H' = ol 51 a c s :: H) := by
  refine fns_enter Tryz.func83 rfl rfl rfl ?_
  obtain ⟨n, hn⟩ : ∃ n, n = xs.length := ⟨_, rfl⟩
  rw [← hn] at hl ⊢
  have hS : ∀ {ys : List KV}, Stb xs ys → ∀ e ∈ ys, RBy w0 H e.ka e.kc e.k := fun h e he => hr e (h.perm.mem_iff.2 he)
  refine sx ?_
  refine s_loop (fun i : StI => [(0, .slice a n c), (1, .int .i64 n), (2, fcA), (6, .int .i64 20), (7, .int .i64 i.P.length), (8, .int .i64 ((i.P.length + 20 : Nat) : Int))]) (fun i => ol 51 a c (i.P ++ i.Q) :: H) (fun i => Stb xs (i.P ++ i.Q) ∧ i.P.length = i.k * 20 ∧ Blk 20 i.P) (fun i => i.Q.length) ⟨0, [], xs⟩ ⟨Stb.refl _, rfl, Blk.nil⟩ ?_
  rintro ⟨k, P, Q⟩ ⟨h1, h2, h3⟩
  simp only at h1 h2 h3 ⊢
  have hlen := h1.len
  rw [List.length_append, ← hn] at hlen
  have hrr := hS h1
  refine sx ?_
  refine s_if rfl (fun t1 => ?_) (fun t1 => ?_)
  · have hq := List.take_append_drop 20 Q
    have l1 : (Q.take 20).length = 20 := by rw [List.length_take]; omega
    have l2 : (Q.drop 20).length = Q.length - 20 := List.length_drop
    rw [← hq]
    rw [← hq] at h1 hrr
    generalize Q.take 20 = A at l1 h1 hrr ⊢
    generalize Q.drop 20 = Z at l2 h1 hrr ⊢
    refine s_rwC (t := 0) (v' := .slice a (P ++ (A ++ Z)).length c) rfl (slice_len (by simp only [List.length_append]; omega)) ?_
    refine sx ?_
    refine s_call rfl (insS_s (p := P.length) (q := P.length + 20) (x := P) (seg := A) (z := Z) rfl (by omega) (fun e he => hrr e (by simp [he])) (by simp only [List.length_append]; omega)) ?_
    rintro _ _ ⟨rfl, s, hs, rfl⟩
    have ls := hs.st.len
    refine ⟨chk_seq, ?_⟩
    refine s_rw (t := 0) (v' := .slice a n c) rfl (slice_len (by simp only [List.length_append]; omega)) ?_
    refine sx ?_
    refine s_again ⟨k + 1, P ++ s, Z⟩ ⟨?_, by simp only [List.length_append]; omega, Blk.app h2 h3 hs.up (by omega)⟩ (by simp only [List.length_append]; omega) (hs := by simp only [List.length_append]; repeat (first | exact trivial | refine And.intro (by first | exact rfl | exact congrArg some (ci (by omega))) ?_)) (he := by simp only [List.append_assoc]; exact Ent.refl)
    simp only [List.append_assoc]
    exact h1.trans ((Stb.refl P).app (hs.st.app (Stb.refl Z)))
  have hq : Q = Q ++ [] := (List.append_nil Q).symm
  rw [hq]
  refine s_rwC (t := 0) (v' := .slice a (P ++ (Q ++ [])).length c) rfl (slice_len (by simp only [List.length_append, List.length_nil]; omega)) ?_
  refine sx ?_
  refine s_call rfl (insS_s (p := P.length) (q := n) (x := P) (seg := Q) (z := []) rfl (by omega) (fun e he => hrr e (by simp [he])) (by simp only [List.length_append, List.length_nil]; omega)) ?_
  rintro _ _ ⟨rfl, s, hs, rfl⟩
  have ls := hs.st.len
  refine ⟨chk_seq, ?_⟩
  refine s_rw (t := 0) (v' := .slice a n c) rfl (slice_len (by simp only [List.length_append, List.length_nil]; omega)) ?_
  rw [show P ++ (s ++ []) = P ++ s by rw [List.append_nil]]
  have b1 := Blk.app h2 h3 hs.up (by omega)
  have s1 : Stb xs (P ++ s) := h1.trans ((Stb.refl P).app hs.st)
  clear hq hrr hlen h1 h2 h3 hs ls t1
  generalize P ++ s = ys at b1 s1 ⊢
  refine sx ?_
  refine s_loop (fun i : Nat × List KV => [(0, .slice a n c), (1, .int .i64 n), (2, fcA), (6, .int .i64 i.1)]) (fun i => ol 51 a c i.2 :: H) (fun i => Stb xs i.2 ∧ Blk i.1 i.2 ∧ 20 ≤ i.1) (fun i => n - i.1) (20, ys) ⟨s1, b1, Nat.le_refl _⟩ ?_
  clear b1 s1
  rintro ⟨B, ys⟩ ⟨s1, b1, hB⟩
  simp only at s1 b1 hB ⊢
  refine sx ?_
  refine s_if rfl (fun t2 => ?_) (fun t2 => ?_)
  · refine sx ?_
    refine s_loop (fun i : StI => [(0, .slice a n c), (1, .int .i64 n), (2, fcA), (6, .int .i64 B), (7, .int .i64 i.P.length), (8, .int .i64 ((i.P.length + 2 * B : Nat) : Int))]) (fun i => ol 51 a c (i.P ++ i.Q) :: H) (fun i => Stb xs (i.P ++ i.Q) ∧ i.P.length = i.k * (2 * B) ∧ Blk (2 * B) i.P ∧ Blk B i.Q) (fun i => i.Q.length) ⟨0, [], ys⟩ ⟨s1, by simp, Blk.nil, b1⟩ ?_ (h0 := by simp only [List.length_nil]; repeat (first | exact trivial | refine And.intro (by first | exact rfl | exact congrArg some (ci (by omega))) ?_))
    clear s1 b1
    rintro ⟨k, P, Q⟩ ⟨h1, h2, h3, h4⟩
    simp only at h1 h2 h3 h4 ⊢
    have hlen := h1.len
    rw [List.length_append, ← hn] at hlen
    have hrr := hS h1
    refine sx ?_
    refine s_if rfl (fun t3 => ?_) (fun t3 => ?_)
    · have b0 := h4 0
      have b1 := h4 1
      have b2 := h4.drop (j := 2)
      rw [Nat.zero_mul, List.drop_zero] at b0
      rw [Nat.one_mul] at b1
      have hq : Q.take B ++ ((Q.drop B).take B ++ Q.drop (2 * B)) = Q := by
        rw [show 2 * B = B + B by omega, ← List.drop_drop, List.take_append_drop, List.take_append_drop]
      have l1 : (Q.take B).length = B := by rw [List.length_take]; omega
      have l2 : ((Q.drop B).take B).length = B := by rw [List.length_take, List.length_drop]; omega
      have l3 : (Q.drop (2 * B)).length = Q.length - 2 * B := List.length_drop
      rw [← hq]
      rw [← hq] at h1 hrr
      generalize Q.take B = A at b0 l1 h1 hrr ⊢
      generalize (Q.drop B).take B = A' at b1 l2 h1 hrr ⊢
      generalize Q.drop (2 * B) = Z at b2 l3 h1 hrr ⊢
      refine s_rwC (t := 0) (v' := .slice a (P ++ (A ++ (A' ++ Z))).length c) rfl (slice_len (by simp only [List.length_append]; omega)) ?_
      refine sx ?_
      refine s_rw (t := 40) (v' := .int .i64 ((P.length + B : Nat) : Int)) rfl (ci (by omega)) ?_
      refine s_call rfl (symM_s (A.length + A'.length) (p := P.length) (m := P.length + B) (q := P.length + 2 * B) (x := P) (A := A) (B := A') (z := Z) (Nat.le_refl _) ⟨rfl, by omega, by omega, by omega, by omega, b0, b1, fun e he => hrr e (by rcases List.mem_append.1 he with he | he <;> simp [he]), by omega⟩) ?_
      rintro _ _ ⟨rfl, s, hs, rfl⟩
      have ls := hs.st.len
      rw [List.length_append] at ls
      refine ⟨chk_seq, ?_⟩
      refine s_rw (t := 0) (v' := .slice a n c) rfl (slice_len (by simp only [List.length_append]; omega)) ?_
      refine sx ?_
      refine s_again ⟨k + 1, P ++ s, Z⟩ ⟨?_, by simp only [List.length_append, Nat.add_mul, Nat.one_mul]; omega, Blk.app h2 h3 hs.up (by omega), b2⟩ (by simp only [List.length_append]; omega) (hs := by simp only [List.length_append]; repeat (first | exact trivial | refine And.intro (by first | exact rfl | exact congrArg some (ci (by omega))) ?_)) (he := by simp only [List.append_assoc]; exact Ent.refl)
      simp only [List.append_assoc]
      have := (Stb.refl P).app (hs.st.app (Stb.refl Z))
      simp only [List.append_assoc] at this
      exact h1.trans this
    · refine sx ?_
      refine s_if rfl (fun t4 => ?_) (fun t4 => ?_)
      · have b0 := h4 0
        have b1 := h4 1
        rw [Nat.zero_mul, List.drop_zero] at b0
        rw [Nat.one_mul, List.take_of_length_le (by rw [List.length_drop]; omega)] at b1
        have hq : Q.take B ++ (Q.drop B ++ []) = Q := by rw [List.append_nil, List.take_append_drop]
        have l1 : (Q.take B).length = B := by rw [List.length_take]; omega
        have l2 : (Q.drop B).length = Q.length - B := List.length_drop
        rw [← hq]
        rw [← hq] at h1 hrr
        generalize Q.take B = A at b0 l1 h1 hrr ⊢
        generalize Q.drop B = A' at b1 l2 h1 hrr ⊢
        refine s_rwC (t := 0) (v' := .slice a (P ++ (A ++ (A' ++ []))).length c) rfl (slice_len (by simp only [List.length_append, List.length_nil]; omega)) ?_
        refine s_rwC (t := 9) (v' := .int .i64 ((P.length + B : Nat) : Int)) rfl (ci (by omega)) ?_
        refine sx ?_
        refine s_call rfl (symM_s (A.length + A'.length) (p := P.length) (m := P.length + B) (q := n) (x := P) (A := A) (B := A') (z := []) (Nat.le_refl _) ⟨rfl, by omega, by omega, by omega, by omega, b0, b1, fun e he => hrr e (by rcases List.mem_append.1 he with he | he <;> simp [he]), by simp only [List.length_nil]; omega⟩) ?_
        rintro _ _ ⟨rfl, s, hs, rfl⟩
        have ls := hs.st.len
        rw [List.length_append] at ls
        refine ⟨chk_seq, ?_⟩
        refine s_rw (t := 0) (v' := .slice a n c) rfl (slice_len (by simp only [List.length_append, List.length_nil]; omega)) ?_
        refine sx ?_
        refine s_again (2 * B, P ++ s) ⟨?_, Blk.app h2 h3 hs.up (by omega), by simp only; omega⟩ (by simp only; omega) (he := by simp only [List.append_nil]; exact Ent.refl)
        rw [List.append_nil] at h1
        exact h1.trans ((Stb.refl P).app hs.st)
      · refine sx ?_
        refine s_again (2 * B, P ++ Q) ⟨h1, Blk.app h2 h3 (h4.asc (by omega)) (by omega), by simp only; omega⟩ (by simp only; omega)
  · refine sx ?_
    exact s_end0 rfl ⟨rfl, ys, ⟨s1, b1.asc (by have := s1.len; omega)⟩, rfl⟩
theorem sortS_s {a : Option Addr} {c : Nat} {xs : List KV} (hr : ∀ e ∈ xs, RBy w0 H e.ka e.kc e.k) (hl : xs.length ≤ 549755813888) :
    FnS Tryz.prog w0 (ol 51 a c xs :: H) 54 #[.slice a xs.length c, fcA] (fun v H' => v = .tuple #[] ∧ ∃ s, Mrg xs s ∧ H' = ol 51 a c s :: H) := by
  refine fns_enter Tryz.func54 rfl rfl rfl ?_
  refine sx ?_
  refine s_call rfl (stable_s hr hl) ?_
  rintro _ _ ⟨rfl, s, hs, rfl⟩
  refine ⟨chk_seq, ?_⟩
  refine sx ?_
  exact s_end0 rfl ⟨rfl, s, hs, rfl⟩
end Go.Sx
