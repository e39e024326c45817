/- Part of a proof: several parts of a walk, one behind the other. -/
import Derived.Test.YtimakbpghggdfaaGreatCZE
import Derived.Test.YtimakbpghggdfaaGreatCKB
import Derived.Deep.Upon
namespace Go.Sx
open Go Go.Proofs
set_option maxRecDepth 10000
variable {w0 : World} {H : List Ck}
theorem slice_len {a : Option Addr} {c n m : Nat} (h : n = m) : Value.slice a n c = Value.slice a m c := by rw [h]
structure StI where
  k : Nat
  P : List KV
  Q : List KV
set_option maxHeartbeats 4000000 in
theorem stable_s {a : Option Addr} {c : Nat} {xs : List KV} (hr : ∀ e ∈ xs, RBy w0 H e.ka e.kc e.k) (hl : xs.length ≤ 549755813888) :
    FnS Tryz.prog w0 (ol 31 a c xs :: H) 78 #[.slice a xs.length c, .int .i64 xs.length, fcA] (fun v H' => v = .tuple #[] ∧ ∃ s, Mrg xs s ∧ H' = ol 31 a c s :: H) := by
  refine fns_enter Tryz.func78 rfl rfl rfl ?_
  obtain ⟨n, hn⟩ : ∃ n, n = xs.length := ⟨_, rfl⟩
  rw [← hn] at hl ⊢
  have hS : ∀ {ys : List KV}, Stb xs ys → ∀ e ∈ ys, RBy w0 H e.ka e.kc e.k := fun h e he => hr e (h.perm.mem_iff.2 he)
  refine sx ?_
  refine s_loop (fun i : StI => [(0, .slice a n c), (1, .int .i64 n), (2, fcA), (6, .int .i64 20), (7, .int .i64 i.P.length), (8, .int .i64 ((i.P.length + 20 : Nat) : Int))]) (fun i => ol 31 a c (i.P ++ i.Q) :: H) (fun i => Stb xs (i.P ++ i.Q) ∧ i.P.length = i.k * 20 ∧ Blk 20 i.P) (fun i => i.Q.length) ⟨0, [], xs⟩ ⟨Stb.refl _, rfl, Blk.nil⟩ ?_
  rintro ⟨k, P, Q⟩ ⟨h1, h2, h3⟩
  simp only at h1 h2 h3 ⊢
  have hlen := h1.len
  rw [List.length_append, ← hn] at hlen
  have hrr := hS h1
  refine sx ?_
  refine s_if rfl (fun t1 => ?_) (fun t1 => ?_)
  · have hq := List.take_append_drop 20 Q
    have l1 : (Q.take 20).length = 20 := by rw [List.length_take]; omega
    have l2 : (Q.drop 20).length = Q.length - 20 := List.length_drop
    rw [← hq]
    rw [← hq] at h1 hrr
    generalize Q.take 20 = A at l1 h1 hrr ⊢
    generalize Q.drop 20 = Z at l2 h1 hrr ⊢
    refine s_rwC (t := 0) (v' := .slice a (P ++ (A ++ Z)).length c) rfl (slice_len (by simp only [List.length_append]; omega)) ?_
    refine sx ?_
    refine s_call rfl (insS_s (p := P.length) (q := P.length + 20) (x := P) (seg := A) (z := Z) rfl (by omega) (fun e he => hrr e (by simp [he])) (by simp only [List.length_append]; omega)) ?_
    rintro _ _ ⟨rfl, s, hs, rfl⟩
    have ls := hs.st.len
    refine ⟨chk_seq, ?_⟩
    refine s_rw (t := 0) (v' := .slice a n c) rfl (slice_len (by simp only [List.length_append]; omega)) ?_
    refine sx ?_
    refine s_again ⟨k + 1, P ++ s, Z⟩ ⟨?_, by simp only [List.length_append]; omega, Blk.app h2 h3 hs.up (by omega)⟩ (by simp only [List.length_append]; omega) (hs := by simp only [List.length_append]; repeat (first | exact trivial | refine And.intro (by first | exact rfl | exact congrArg some (ci (by omega))) ?_)) (he := by simp only [List.append_assoc]; exact Ent.refl)
    simp only [List.append_assoc]
    exact h1.trans ((Stb.refl P).app (hs.st.app (Stb.refl Z)))
  have hq : Q = Q ++ [] := (List.append_nil Q).symm
  rw [hq]
  refine s_rwC (t := 0) (v' := .slice a (P ++ (Q ++ [])).length c) rfl (slice_len (by simp only [List.length_append, List.length_nil]; omega)) ?_
  refine sx ?_
  refine s_call rfl (insS_s (p := P.length) (q := n) (x := P) (seg := Q) (z := []) rfl (by omega) (fun e he => hrr e (by simp [he])) (by simp only [List.length_append, List.length_nil]; omega)) ?_
  rintro _ _ ⟨rfl, s, hs, rfl⟩
  have ls := hs.st.len
  refine ⟨chk_seq, ?_⟩
  refine s_rw (t := 0) (v' := .slice a n c) rfl (slice_len (by simp only [List.length_append, List.length_nil]; omega)) ?_
  rw [show P ++ (s ++ []) = P ++ s by rw [List.append_nil]]
  have b1 := Blk.app h2 h3 hs.up (by omega)
  have s1 : Stb xs (P ++ s) := h1.trans ((Stb.refl P).app hs.st)
  clear hq hrr hlen h1 h2 h3 hs ls t1
  generalize P ++ s = ys at b1 s1 ⊢
  refine sx ?_
  refine s_loop (fun i : Nat × List KV => [(0, .slice a n c), (1, .int .i64 n), (2, fcA), (6, .int .i64 i.1)]) (fun i => ol 31 a c i.2 :: H) (fun i => Stb xs i.2 ∧ Blk i.1 i.2 ∧ 20 ≤ i.1) (fun i => n - i.1) (20, ys) ⟨s1, b1, Nat.le_refl _⟩ ?_
  clear b1 s1
  rintro ⟨B, ys⟩ ⟨s1, b1, hB⟩
  simp only at s1 b1 hB ⊢
  refine sx ?_
  refine s_if rfl (fun t2 => ?_) (fun t2 => ?_)
  · refine sx ?_
    refine s_loop (fun i : StI => [(0, .slice a n c), (1, .int .i64 n), (2, fcA), (6, .int .i64 B), (7, .int .i64 i.P.length), (8, .int .i64 ((i.P.length + 2 * B : Nat) : Int))]) (fun i => ol 31 a c (i.P ++ i.Q) :: H) (fun i => Stb xs (i.P ++ i.Q) ∧ i.P.length = i.k * (2 * B) ∧ Blk (2 * B) i.P ∧ Blk B i.Q) (fun i => i.Q.length) ⟨0, [], ys⟩ ⟨s1, by simp, Blk.nil, b1⟩ ?_ (h0 := by simp only [List.length_nil]; repeat (first | exact trivial | refine And.intro (by first | exact rfl | exact congrArg some (ci (by omega))) ?_))
    clear s1 b1
    rintro ⟨k, P, Q⟩ ⟨h1, h2, h3, h4⟩
    simp only at h1 h2 h3 h4 ⊢
    have hlen := h1.len
    rw [List.length_append, ← hn] at hlen
    have hrr := hS h1
    refine sx ?_
    refine s_if rfl (fun t3 => ?_) (fun t3 => ?_)
    · have b0 := h4 0
      have b1 := h4 1
      have b2 := h4.drop (j := 2)
      rw [Nat.zero_mul, List.drop_zero] at b0
      rw [Nat.one_mul] at b1
      have hq : Q.take B ++ ((Q.drop B).take B ++ Q.drop (2 * B)) = Q := by
        rw [show 2 * B = B + B by omega, ← List.drop_drop, List.take_append_drop, List.take_append_drop]
      have l1 : (Q.take B).length = B := by rw [List.length_take]; omega
      have l2 : ((Q.drop B).take B).length = B := by rw [List.length_take, List.length_drop]; omega
      have l3 : (Q.drop (2 * B)).length = Q.length - 2 * B := List.length_drop
      rw [← hq]
      rw [← hq] at h1 hrr
      generalize Q.take B = A at b0 l1 h1 hrr ⊢
      generalize (Q.drop B).take B = A' at b1 l2 h1 hrr ⊢
      generalize Q.drop (2 * B) = Z at b2 l3 h1 hrr ⊢
      refine s_rwC (t := 0) (v' := .slice a (P ++ (A ++ (A' ++ Z))).length c) rfl (slice_len (by simp only [List.length_append]; omega)) ?_
      refine sx ?_
      refine s_rw (t := 40) (v' := .int .i64 ((P.length + B : Nat) : Int)) rfl (ci (by omega)) ?_
      refine s_call rfl (symM_s (A.length + A'.length) (p := P.length) (m := P.length + B) (q := P.length + 2 * B) (x := P) (A := A) (B := A') (z := Z) (Nat.le_refl _) ⟨rfl, by omega, by omega, by omega, by omega, b0, b1, fun e he => hrr e (by rcases List.mem_append.1 he with he | he <;> simp [he]), by omega⟩) ?_
      rintro _ _ ⟨rfl, s, hs, rfl⟩
      have ls := hs.st.len
      rw [List.length_append] at ls
      refine ⟨chk_seq, ?_⟩
      refine s_rw (t := 0) (v' := .slice a n c) rfl (slice_len (by simp only [List.length_append]; omega)) ?_
      refine sx ?_
      refine s_again ⟨k + 1, P ++ s, Z⟩ ⟨?_, by simp only [List.length_append, Nat.add_mul, Nat.one_mul]; omega, Blk.app h2 h3 hs.up (by omega), b2⟩ (by simp only [List.length_append]; omega) (hs := by simp only [List.length_append]; repeat (first | exact trivial | refine And.intro (by first | exact rfl | exact congrArg some (ci (by omega))) ?_)) (he := by simp only [List.append_assoc]; exact Ent.refl)
      simp only [List.append_assoc]
      have := (Stb.refl P).app (hs.st.app (Stb.refl Z))
      simp only [List.append_assoc] at this
      exact h1.trans this
    · refine sx ?_
      refine s_if rfl (fun t4 => ?_) (fun t4 => ?_)
      · have b0 := h4 0
        have b1 := h4 1
        rw [Nat.zero_mul, List.drop_zero] at b0
        rw [Nat.one_mul, List.take_of_length_le (by rw [List.length_drop]; omega)] at b1
        have hq : Q.take B ++ (Q.drop B ++ []) = Q := by rw [List.append_nil, List.take_append_drop]
        have l1 : (Q.take B).length = B := by rw [List.length_take]; omega
        have l2 : (Q.drop B).length = Q.length - B := List.length_drop
        rw [← hq]
        rw [← hq] at h1 hrr
        generalize Q.take B = A at b0 l1 h1 hrr ⊢
        generalize Q.drop B = A' at b1 l2 h1 hrr ⊢
        refine s_rwC (t := 0) (v' := .slice a (P ++ (A ++ (A' ++ []))).length c) rfl (slice_len (by simp only [List.length_append, List.length_nil]; omega)) ?_
        refine s_rwC (t := 9) (v' := .int .i64 ((P.length + B : Nat) : Int)) rfl (ci (by omega)) ?_
        refine sx ?_
        refine s_call rfl (symM_s (A.length + A'.length) (p := P.length) (m := P.length + B) (q := n) (x := P) (A := A) (B := A') (z := []) (Nat.le_refl _) ⟨rfl, by omega, by omega, by omega, by omega, b0, b1, fun e he => hrr e (by rcases List.mem_append.1 he with he | he <;> simp [he]), by simp only [List.length_nil]; omega⟩) ?_
        rintro _ _ ⟨rfl, s, hs, rfl⟩
        have ls := hs.st.len
        rw [List.length_append] at ls
        refine ⟨chk_seq, ?_⟩
        refine s_rw (t := 0) (v' := .slice a n c) rfl (slice_len (by simp only [List.length_append, List.length_nil]; omega)) ?_
        refine sx ?_
        refine s_again (2 * B, P ++ s) ⟨?_, Blk.app h2 h3 hs.up (by omega), by simp only; omega⟩ (by simp only; omega) (he := by simp only [List.append_nil]; exact Ent.refl)
        rw [List.append_nil] at h1
        exact h1.trans ((Stb.refl P).app hs.st)
      · refine sx ?_
        refine s_again (2 * B, P ++ Q) ⟨h1, Blk.app h2 h3 (h4.asc (by omega)) (by omega), by simp only; omega⟩ (by simp only; omega)
  · refine sx ?_
    exact s_end0 rfl ⟨rfl, ys, ⟨s1, b1.asc (by have := s1.len; omega)⟩, rfl⟩
theorem sortS_s {a : Option Addr} {c : Nat} {xs : List KV} (hr : ∀ e ∈ xs, RBy w0 H e.ka e.kc e.k) (hl : xs.length ≤ 549755813888) :
    FnS Tryz.prog w0 (ol 31 a c xs :: H) 36 #[.slice a xs.length c, fcA] (fun v H' => v = .tuple #[] ∧ ∃ s, Mrg xs s ∧ H' = ol 31 a c s :: H) := by
  refine fns_enter Tryz.func36 rfl rfl rfl ?_
  refine sx ?_
  refine s_call rfl (stable_s hr hl) ?_
  rintro _ _ ⟨rfl, s, hs, rfl⟩
  refine ⟨chk_seq, ?_⟩
  refine sx ?_
  exact s_end0 rfl ⟨rfl, s, hs, rfl⟩
end Go.Sx
namespace Go.Sx
open Go Go.Proofs
set_option maxRecDepth 10000
variable {w0 : World} {H : List Ck}
instance : OvT Tryz.prog 81 22 := ⟨4, fun args w => run_callFunc_extern Tryz.func81 (by kernel_rfl) (by kernel_rfl) (by kernel_rfl) (by kernel_rfl) args w⟩
abbrev kv0 : KV := ⟨none, 0, [], none, 0, []⟩
def RiE (l : List KV) : Prop := l.Pairwise fun a b => cmp a.k b.k < 0
theorem RiE.lt {l : List KV} (h : RiE l) {i j : Nat} {a b : KV} (hij : i < j) (ha : l[i]? = some a) (hb : l[j]? = some b) : cmp a.k b.k < 0 := by
  obtain ⟨h1, e1⟩ := List.getElem?_eq_some_iff.1 ha
  obtain ⟨h2, e2⟩ := List.getElem?_eq_some_iff.1 hb
  rw [← e1, ← e2]
  exact List.pairwise_iff_getElem.1 h i j h1 h2 hij
theorem pcmp_s {x : KV} {a : Option Addr} {c : Nat} {key : Bs} (hx : RBy w0 H x.ka x.kc x.k) (hy : RBy w0 H a c key) : FnV Tryz.prog w0 H 80 #[.agg x.cells.toArray, .slice a key.length c] (.int .i64 (cmp x.k key)) := by
  refine fns_enter Tryz.func80 rfl rfl rfl ?_
  refine sx ?_
  refine s_boxA rfl fun b2 => ?_
  refine sx ?_
  refine s_callV rfl (compare_s (by exact rby) (by exact rby)) ?_
  refine sx ?_
  exact s_ret1 rfl rfl ⟨rfl, rfl⟩
abbrev fcP : Value := .func (.func 80) #[] #[]
/-- Where a key is among entries that rise. -/
structure At1 (xs : List KV) (key : Bs) (i : Nat) (is : Bool) : Prop where
  le : i ≤ xs.length
  lo : ∀ k y, k < i → xs[k]? = some y → cmp y.k key < 0
  hi : ∀ k y, i ≤ k → xs[k]? = some y → 0 ≤ cmp y.k key
  is : is = true ↔ ∃ y, xs[i]? = some y ∧ y.k = key
set_option maxHeartbeats 1000000 in
theorem bsE_s {a a2 : Option Addr} {c c2 : Nat} {xs : List KV} {key : Bs} (hx : RSl w0 H a c xs) (hs : RiE xs) (hr : ∀ e ∈ xs, RBy w0 H e.ka e.kc e.k) (hk : RBy w0 H a2 c2 key) (hl : xs.length ≤ 1099511627776) :
    FnS Tryz.prog w0 H 79 #[.slice a xs.length c, .slice a2 key.length c2, fcP] (fun v H' => ∃ i : Nat, ∃ is : Bool, v = .tuple #[.int .i64 i, .bool is] ∧ At1 xs key i is ∧ H' = H) := by
  refine fns_enter Tryz.func79 rfl rfl rfl ?_
  refine sx ?_
  refine s_loop (fun i : Nat × Nat => [(0, .slice a xs.length c), (1, .slice a2 key.length c2), (2, fcP), (8, .int .i64 xs.length), (9, .int .i64 i.1), (10, .int .i64 i.2)]) (fun _ => H)
    (fun i => i.1 ≤ i.2 ∧ i.2 ≤ xs.length ∧ (∀ k y, k < i.1 → xs[k]? = some y → cmp y.k key < 0) ∧ (∀ k y, i.2 ≤ k → xs[k]? = some y → 0 ≤ cmp y.k key)) (fun i => i.2 - i.1) (0, xs.length) ⟨Nat.zero_le _, Nat.le_refl _, fun k y h => absurd h (Nat.not_lt_zero _), fun k y h hy => by have := (List.getElem?_eq_some_iff.1 hy).1; omega⟩ ?_
  rintro ⟨i, j⟩ ⟨h1, h2, h3, h4⟩
  simp only at h1 h2 h3 h4 ⊢
  refine sx ?_
  refine s_if rfl (fun t1 => ?_) (fun t1 => ?_)
  · have stp : StopAt 5 := trivial
    refine sxs ?_
    clear stp
    have hm : (i + j) / 2 < xs.length := by omega
    obtain ⟨m, hmm⟩ : ∃ m, m = (i + j) / 2 := ⟨_, rfl⟩
    rw [← hmm] at hm
    obtain ⟨e, hke⟩ := get_lt xs m hm
    have her := hr e (List.mem_of_getElem? hke)
    refine s_rwC (t := 11) (v' := .int .i64 (m : Int)) rfl (ci (by omega)) ?_
    refine sx ?_
    refine s_callFV (cap := []) rfl rfl (pcmp_s (x := e) (key := key) her hk) ?_
    refine sx ?_
    refine s_if rfl (fun t2 => ?_) (fun t2 => ?_)
    · refine sx ?_
      refine s_again (m + 1, j) ⟨by simp only; omega, h2, fun k y hk hy => ?_, h4⟩ (by simp only; omega)
      rcases Nat.lt_or_eq_of_le (Nat.lt_succ_iff.1 hk) with h | h
      · have := hs.lt h hy hke
        exact lt_tr this (by omega)
      · rw [h, hke] at hy; cases hy; exact t2
    · refine sx ?_
      refine s_again (i, m) ⟨by simp only; omega, by simp only; omega, h3, fun k y hk hy => ?_⟩ (by simp only; omega)
      rcases Nat.lt_or_eq_of_le hk with h | h
      · have := hs.lt h hke hy
        have h5 : cmp key e.k ≤ 0 := nlt t2
        have := tr_lt h5 this
        have := cmp_anti key y.k
        omega
      · have h : m = k := h
        rw [← h, hke] at hy; cases hy; omega
  · obtain rfl : i = j := by omega
    refine sx ?_
    refine s_lif rfl (fun t2 => ?_) (fun t2 => ?_)
    · obtain ⟨e, hke⟩ := get_lt xs i (by omega)
      have her := hr e (List.mem_of_getElem? hke)
      refine sx ?_
      refine s_callFV (cap := []) rfl rfl (pcmp_s (x := e) (key := key) her hk) ?_
      refine sx ?_
      refine s_ret2 rfl rfl rfl ⟨i, _, rfl, ⟨h2, h3, h4, ?_⟩, rfl⟩
      rw [decide_eq_true_iff, cmp_eq]
      exact ⟨fun g => ⟨e, hke, g⟩, fun ⟨y, hy, g⟩ => by rw [hke] at hy; cases hy; exact g⟩
    · refine sx ?_
      refine s_ret2 rfl rfl rfl ⟨i, false, rfl, ⟨h2, h3, h4, ?_⟩, rfl⟩
      refine ⟨fun g => (by cases g), fun ⟨y, hy, _⟩ => ?_⟩
      have := (List.getElem?_eq_some_iff.1 hy).1
      exfalso; omega
theorem place_s {a a2 : Option Addr} {c c2 : Nat} {xs : List KV} {key : Bs} (hx : RSl w0 H a c xs) (hs : RiE xs) (hr : ∀ e ∈ xs, RBy w0 H e.ka e.kc e.k) (hk : RBy w0 H a2 c2 key) (hl : xs.length ≤ 1099511627776) :
    FnS Tryz.prog w0 H 39 #[.slice a xs.length c, .slice a2 key.length c2] (fun v H' => ∃ i : Nat, ∃ is : Bool, v = .tuple #[.int .i64 i, .bool is] ∧ At1 xs key i is ∧ H' = H) := by
  refine fns_enter Tryz.func39 rfl rfl rfl ?_
  refine sx ?_
  refine s_call rfl (bsE_s hx hs hr hk hl) ?_
  rintro _ H1 ⟨i, is, rfl, h1, e1⟩
  obtain rfl : H = H1 := e1.symm
  refine ⟨chk_seq, ?_⟩
  refine sx ?_
  exact s_ret2 rfl rfl rfl ⟨i, is, rfl, h1, rfl⟩
set_option maxHeartbeats 1000000 in
theorem insE_s {a v : Option Addr} {c i : Nat} {xs : List KV} {x : KV} (hi : i ≤ xs.length) (hl : xs.length + 1 ≤ 1099511627776) :
    FnS Tryz.prog w0 (ol 31 v 1 [x] :: ol 31 a c xs :: H) 40 #[.slice a xs.length c, .int .i64 i, .slice v 1 1]
      (fun r H' => ∃ a' c', r = .slice a' (xs.length + 1) c' ∧ H' = ol 31 a' c' (xs.take i ++ x :: xs.drop i) :: H) := by
  have hcap : Kn w0 (ol 31 v 1 [x] :: ol 31 a c xs :: H) (xs.length ≤ c ∧ c ≤ maxLen) := Kn.sl (RSl.tl RSl.hd : RSl w0 (ol 31 v 1 [x] :: ol 31 a c xs :: H) a c xs)
  refine fns_enter Tryz.func40 rfl rfl rfl ?_
  refine s_kn hcap fun l1 => ?_
  simp only [maxLen] at l1
  refine sx ?_
  refine s_if rfl (fun t1 => ?_) (fun t1 => ?_)
  · obtain rfl : i = xs.length := by omega
    refine sx ?_
    refine s_app (ys := [x]) ?_
    intro a1 c1
    refine sx ?_
    refine s_ret1 rfl rfl ⟨a1, c1, ?_, rfl⟩ ?_
    · rw [List.length_append]; rfl
    · have e : xs.take xs.length ++ x :: xs.drop xs.length = xs ++ [x] := by simp
      rw [e]
      exact ent
  refine sx ?_
  refine s_if rfl (fun t2 => ?_) (fun t2 => ?_)
  · refine sx ?_
    refine s_rw (t := 39) rfl (ci (by omega : _ = ((xs.length + 1 - i : Nat) : Int))) ?_
    refine s_appZ (xs := xs) ?_
    intro a1 c1
    refine s_rw (t := 40) (v' := .slice a1 (xs.length + 1) c1) rfl (by rw [show i + (xs.length + 1 - i) = xs.length + 1 by omega]) ?_
    have hzl : (xs.take i ++ List.replicate (xs.length + 1 - i) kv0).length = xs.length + 1 := by simp; omega
    refine s_knL (Kn.sl (RSl.hd : RSl w0 (ol 31 a1 c1 (xs.take i ++ List.replicate (xs.length + 1 - i) kv0) :: ol 31 v 1 [x] :: ol 31 a c xs :: H) a1 c1 _)) fun l3 => ?_
    rw [hzl] at l3
    simp only [maxLen] at l3
    refine sx ?_
    refine s_copyP (p := i) (xs := xs.take i ++ List.replicate (xs.length + 1 - i) kv0) (ys := [x]) rfl rfl rfl ?_
    have e1 : putL (xs.take i ++ List.replicate (xs.length + 1 - i) kv0) i ([x].take (xs.length + 1 - i)) = xs.take i ++ x :: List.replicate (xs.length - i) kv0 := by
      have g1 : [x].take (xs.length + 1 - i) = [x] := List.take_of_length_le (by simp; omega)
      have g2 : (xs.take i).length = i := by rw [List.length_take]; omega
      rw [g1, putL, List.take_left' g2, List.length_singleton, List.drop_append, g2, List.drop_of_length_le (by omega), show i + 1 - i = 1 by omega, List.drop_replicate, show xs.length + 1 - i - 1 = xs.length - i by omega]
      simp
    rw [e1]
    have hr : RSl w0 (ol 31 a1 c1 (xs.take i ++ x :: List.replicate (xs.length - i) kv0) :: ol 31 v 1 [x] :: ol 31 a c xs :: H) (Sx.sl a c i 2) (c - i) (xs.drop i) := RSl.drop (RSl.tl (RSl.tl RSl.hd)) hi
    refine sx ?_; refine s_drR (ol 31 a1 c1 (xs.take i ++ x :: List.replicate (xs.length - i) kv0)) (by exact rm) (.one true 0 (.one true 1 (.one true 2 (.one true 3 (.one true 4 (.one true 5 (.one true 6 (.one true 7 (.one false 8 .nil))))))))) mixed (by kernel_rfl) ?_; refine sx ?_
    refine s_copyP (p := i + 1) (xs := xs.take i ++ x :: List.replicate (xs.length - i) kv0) (ys := xs.drop i) rfl rfl rfl ?_ (hp := by simp; omega)
    have e2 : putL (xs.take i ++ x :: List.replicate (xs.length - i) kv0) (i + 1) ((xs.drop i).take (xs.length + 1 - (i + 1))) = xs.take i ++ x :: xs.drop i := by
      have g1 : (xs.drop i).take (xs.length + 1 - (i + 1)) = xs.drop i := List.take_of_length_le (by rw [List.length_drop]; omega)
      have := putL_app (l1 := xs.take i ++ [x]) (l2 := List.replicate (xs.length - i) kv0) (ys := xs.drop i) (p := i + 1) (by rw [List.length_append, List.length_take, List.length_singleton]; omega) (by simp)
      rw [g1]
      simpa using this
    rw [e2]
    refine sx ?_
    exact s_ret1 rfl rfl ⟨a1, c1, rfl, rfl⟩
  refine s_kn (φ := ∃ ad, a = some ad) (fun w hw => own_gA (c := c) (Sat.ownOf (c' := ol 31 a c xs) (.tl .hd) hw) (by omega)) ?_
  rintro ⟨ad, rfl⟩
  refine sx ?_
  refine s_yV (y_ovl (T := 22) (xs := [x]) (ys := xs) rfl rfl rfl Rm.hd Rm.hd (by simp) (by omega) (by omega)) ?_
  refine sx ?_
  have hr : RSl w0 (ol 31 v 1 [x] :: ol 31 (some ad) c xs :: H) (Sx.sl (some ad) c i 2) (c - i) (xs.drop i) := RSl.drop (RSl.tl RSl.hd) hi
  refine sx ?_; refine s_drR (ol 31 (some ad) c xs) (by exact rm) (.one true 0 (.one true 1 (.one true 2 (.one true 3 (.one true 4 (.one true 5 (.one true 6 (.one true 7 (.one false 8 .nil))))))))) mixed (by kernel_rfl) ?_; refine sx ?_
  refine s_copyQ (p := i + 1) (c3 := c - i) (xs := xs) (ys := xs.drop i) rfl rfl rfl ?_ (hm := by rw [List.length_drop]; omega)
  have e1 : putL xs (i + 1) (xs.drop i) = xs.take (i + 1) ++ xs.drop i := by
    have := putL_app (l1 := xs.take (i + 1)) (l2 := xs.drop (i + 1)) (ys := xs.drop i) (p := i + 1) (by rw [List.length_take]; omega) (by rw [List.length_drop, List.length_drop]; omega)
    rwa [List.take_append_drop] at this
  rw [e1]
  refine sx ?_
  obtain ⟨y, hy⟩ := get_lt xs i (by omega)
  have e3 : xs.take (i + 1) ++ xs.drop i = xs.take i ++ y :: xs.drop i := by rw [snocT hy]; simp
  rw [e3]
  refine s_copyP (p := i) (xs := xs.take i ++ y :: xs.drop i) (ys := [x]) rfl rfl rfl ?_ (hp := by simp; omega)
  have e2 : putL (xs.take i ++ y :: xs.drop i) i ([x].take (xs.length + 1 - i)) = xs.take i ++ x :: xs.drop i := by
    have g1 : [x].take (xs.length + 1 - i) = [x] := List.take_of_length_le (by simp; omega)
    rw [g1]
    exact putL_one (by rw [List.length_take]; omega)
  rw [e2]
  refine sx ?_
  exact s_ret1 rfl rfl ⟨some ad, c, rfl, rfl⟩
theorem clipE_s {a : Option Addr} {c : Nat} {xs : List KV} : FnS Tryz.prog w0 (ol 31 a c xs :: H) 42 #[.slice a xs.length c] (fun v H' => v = .slice a xs.length xs.length ∧ H' = ol 31 a xs.length xs :: H) := by
  refine fns_enter Tryz.func42 rfl rfl rfl ?_
  refine s_kn (Kn.sl (RSl.hd : RSl w0 (ol 31 a c xs :: H) a c xs)) fun l1 => ?_
  refine sx ?_
  refine s_yS rfl rfl rfl (y_slU rfl rfl rfl (by omega)) ?_
  refine sx ?_
  exact s_ret1 rfl rfl ⟨rfl, rfl⟩ (Ent.clip (Nat.le_refl _) (by omega))
theorem cloneE_s {a : Option Addr} {c : Nat} {xs : List KV} (hx : RSl w0 H a c xs) (hl : xs.length ≤ 1099511627776) : FnS Tryz.prog w0 H 43 #[.slice a xs.length c] (fun v H' => ∃ a' c', v = .slice a' xs.length c' ∧ H' = ol 31 a' c' xs :: H) := by
  refine fns_enter Tryz.func43 rfl rfl rfl ?_
  refine sx ?_
  refine s_cond rfl (fun t1 => ?_) (fun t1 => ?_)
  · refine s_kn (φ := xs = []) (fun w hw => ?_) fun e => ?_
    · have h := hx w hw
      have h1 := h.nil (by simpa using t1)
      exact List.eq_nil_of_length_eq_zero (by have := h.le; omega)
    subst e
    refine sx ?_
    exact s_ret1 rfl rfl ⟨none, 0, rfl, rfl⟩ Ent.nilS
  refine sx ?_
  refine s_bsl ([] : List KV) rfl rfl fun b1 => ?_
  refine sx ?_
  refine s_app (ys := xs) ?_
  intro a1 c1
  refine sx ?_
  exact s_ret1 rfl rfl ⟨a1, c1, rfl, rfl⟩
section
variable {M : Md} {P : Program} {n : Nat} {ds : Dx} {ops : Array Oper} {Q : Exit → Act → World → Prop} {rest : Tr} {l : List (Nat × Value)} {b : Bool} {ty : TypeId} {pos : String} {af : Array Edge} {g : Option (Nat × Bool)}
/-- Nothing is appended. -/
theorem s_app0 {d : Nat} {T E : TypeId} {sz by' : Nat} [hT : SlT P T E sz by'] {s x : Operand} {a a2 : Option Addr} {p c c2 : Nat} (hs : ev l s = some (.slice a p c)) (hx : ev l x = some (.slice a2 0 c2)) (hp : p ≤ c) (h : SL M P n ds ops Q rest ((d, .slice a p c) :: l) w0 H)
    (hb : M.act b = true := by exact rfl) (hg : gOk ops l g = true := by exact rfl) (hd : Nat.blt d n = true := by exact rfl) (hk : Chk M H := by intros; first | exact chk_seq | exact chk_held (by exact entq) | exact chk_held (by exact ent)) :
    SL M P n ds ops Q (.one b ⟨some d, .call { callee := .builtin .append, args := #[s, x], argTypes := #[T, T] }, ty, pos, af, g⟩ rest) l w0 H := .mk fun w hw => by
  obtain ⟨i, z, i1, i2, i3, i4, i5⟩ := hT.info
  have r : (Builtin.append_ #[T, T] ty #[.slice a p c, .slice a2 0 c2]).run P w = .ok (.slice a p c) w := by
    refine run_append_nothing w T T ty E i hT.und i1 a p c hp _ ?_
    cases a2 with
    | none => exact Src.ofNil w hT.und c2
    | some ad => exact Src.ofSlice w hT.und ad 0 c2 [] (by simp) (fun j u h => by simp at h) (fun u h => by cases h)
  exact l_e (Md.any hb) hg hd (fun ρ hρ => by simp [execOp, resolve, invoke, builtin, hρ _ _ hs, hρ _ _ hx, r]) (hk.out hw) (h.out w hw)
variable {α : Type} [Cel α]
/-- append(s, x...), s the first p of a list of one's own, in its place. -/
theorem s_appR {d : Nat} {T E : TypeId} {sz by' : Nat} [hT : SlT P T E sz by'] {s x : Operand} {a a2 : Option Addr} {c c2 p m : Nat} {xs ys : List α} {H' : List Ck}
    (hin : SL M P n ds ops Q rest ((d, .slice a (p + ys.length) c) :: l) w0 H') (hc : p + ys.length ≤ c)
    (hs : ev l s = some (.slice a p c) := by exact rfl) (hx : ev l x = some (.slice a2 m c2) := by exact rfl) (hsrc : RSl w0 H a2 c2 ys := by exact rsl) (hm : m = ys.length := by first | exact rfl | omega | simp) (hne : 0 < ys.length := by first | exact Nat.one_pos | omega | simp)
    (hA : At (ol E a c xs) (ol E a c (putL xs p ys)) H H' := by exact at_) (hp : p ≤ xs.length := by omega)
    (hb : M.act b = true := by exact rfl) (hg : gOk ops l g = true := by exact rfl) (hd : Nat.blt d n = true := by exact rfl) (hz : sz = Cel.sz α := by exact rfl) (hk : Chk M H' := by intros; first | exact chk_seq | exact chk_held (by exact entq) | exact chk_held (by exact ent)) :
    SL M P n ds ops Q (.one b ⟨some d, .call { callee := .builtin .append, args := #[s, x], argTypes := #[T, T] }, ty, pos, af, g⟩ rest) l w0 H := .mk fun w hw => by
  subst hz
  subst hm
  have hS := (hsrc w hw).src
  cases a2 with
  | none =>
    have := hS.1 rfl
    have hl := congrArg List.length this
    rw [flat_length] at hl
    rcases Nat.mul_eq_zero.1 hl with h | h
    · omega
    · have := Cel.pos (α := α); omega
  | some ad =>
    have ho := Sat.ownOf hA hw
    have hpz : p * Cel.sz α ≤ xs.length * Cel.sz α := Nat.mul_le_mul_right _ hp
    rcases ho.open with ⟨h0, _, h0', _⟩ | ⟨k, re, e1, e2, e3, e4, e5, e6⟩
    · omega
    · subst e1
      have hle : (p + ys.length) * Cel.sz α ≤ c * Cel.sz α := Nat.mul_le_mul_right _ hc
      rw [Nat.add_mul] at hle
      have hfl := flat_length xs
      have hyl := flat_length ys
      obtain ⟨w', r1, r2, r3⟩ := app_room (P := P) (T := T) (c2 := c2) (p := p) (c := c) ty e3 (hS.2 ad rfl) (flat_length ys) (flat_oneC ys) hc (by rw [List.length_append]; omega)
      have hpl := putL_len (ys := ys) hp
      have hB : HB w' k E (flat (putL xs p ys) ++ re.drop (p * Cel.sz α + (flat ys).length - (flat xs).length)) := by
        have e : (flat xs ++ re).take (p * Cel.sz α) ++ flat ys ++ (flat xs ++ re).drop (p * Cel.sz α + (flat ys).length) = flat (putL xs p ys) ++ re.drop (p * Cel.sz α + (flat ys).length - (flat xs).length) := by
          rw [putL, flat_app, flat_app, flat_take, flat_drop, List.take_append_of_le_length (by omega), List.drop_append, Nat.add_mul, ← hyl, List.append_assoc, List.append_assoc, List.append_assoc]
        rw [← e]
        exact r2
      have hO : Own w' w0.heap.size E (Cel.sz α) (some ⟨k, 0, none⟩) (putL xs p ys).length c (flat (putL xs p ys)) := by
        refine Own.mk' e2 hB (flat_length _) (by rw [hpl]; omega) e5 ?_
        rw [flat_length, hpl, List.length_drop]
        rw [hfl, hyl]
        rw [hfl] at e6
        rcases Nat.le_total xs.length (p + ys.length) with h | h
        · rw [Nat.max_eq_right h, Nat.add_mul]
          have := Nat.mul_le_mul_right (Cel.sz α) h
          rw [Nat.add_mul] at this
          omega
        · rw [Nat.max_eq_left h]
          have := Nat.mul_le_mul_right (Cel.sz α) h
          rw [Nat.add_mul] at this
          omega
      have hw' := hw.own hA hO (r3.mono fun i _ e => by rw [e]; rfl) (fun ad' e => by cases e; exact .inl rfl)
      exact l_e (Md.any hb) hg hd (fun ρ hρ => by simp [execOp, resolve, invoke, builtin, hρ _ _ hs, hρ _ _ hx, r1]) (hk.out hw') (hin.out w' hw')
end
set_option maxHeartbeats 1000000 in
theorem delE_s {a : Option Addr} {c i j : Nat} {xs : List KV} (hij : i ≤ j) (hj : j ≤ xs.length) (_hl : xs.length ≤ 1099511627776) :
    FnS Tryz.prog w0 (ol 31 a c xs :: H) 41 #[.slice a xs.length c, .int .i64 i, .int .i64 j] (fun v H' => v = .slice a (xs.take i ++ xs.drop j).length c ∧ H' = ol 31 a c (xs.take i ++ xs.drop j) :: H) := by
  refine fns_enter Tryz.func41 rfl rfl rfl ?_
  refine s_kn (Kn.sl (RSl.hd : RSl w0 (ol 31 a c xs :: H) a c xs)) fun l1 => ?_
  simp only [maxLen] at l1
  refine sx ?_
  refine s_yS rfl rfl rfl (y_slV rfl rfl rfl rfl (by omega)) ?_
  refine sx ?_
  refine s_if rfl (fun t1 => ?_) (fun t1 => ?_)
  · obtain rfl : i = j := by omega
    rw [List.take_append_drop]
    refine sx ?_
    exact s_ret1 rfl rfl ⟨rfl, rfl⟩
  have hlen : (xs.take i ++ xs.drop j).length = i + (xs.length - j) := by rw [List.length_append, List.length_take, List.length_drop]; omega
  have hr : RSl w0 (ol 31 a c xs :: H) (Sx.sl a c j 2) (c - j) (xs.drop j) := RSl.drop RSl.hd hj
  by_cases hjl : j = xs.length
  · have e0 : xs.take i ++ xs.drop j = xs.take i := by rw [hjl, List.drop_length, List.append_nil]
    rw [e0]
    have e1 : (xs.take i).length = i := by rw [List.length_take]; omega
    rw [e1]
    refine sx ?_; refine s_drR (ol 31 a c xs) (by exact rm) (.one true 0 (.one true 1 (.one true 2 (.one true 3 (.one true 4 (.one true 5 (.one false 6 (.one true 7 .nil)))))))) mixed (by kernel_rfl) ?_; refine sx ?_
    refine s_rw (t := 25) (v' := .slice (Sx.sl a c j 2) 0 (c - j)) rfl (by rw [show xs.length - j = 0 by omega]) ?_
    refine s_app0 rfl rfl (by omega) ?_
    refine sx ?_
    refine s_clearP (α := KV) (p := i) (xs := xs) rfl rfl ?_
    refine sx ?_
    refine s_ret1 rfl rfl ⟨rfl, rfl⟩ ?_
    refine Ent.trans (Ent.shr (k := i)) ?_
    have e : (putL xs i (List.replicate (xs.length - i) kv0)).take i = xs.take i := by
      rw [putL, List.append_assoc, List.take_left' e1]
    rw [e]
    exact Ent.refl
  · rw [hlen]
    refine sx ?_; refine s_drR (ol 31 a c xs) (by exact rm) (.one true 0 (.one true 1 (.one true 2 (.one true 3 (.one true 4 (.one true 5 (.one false 6 (.one true 7 .nil)))))))) mixed (by kernel_rfl) ?_; refine sx ?_
    have hdl : (xs.drop j).length = xs.length - j := List.length_drop
    have e1 : (xs.take i ++ xs.drop j).length = i + (xs.length - j) := hlen
    have e2 : putL xs i (xs.drop j) = (xs.take i ++ xs.drop j) ++ xs.drop (i + (xs.length - j)) := by rw [putL, hdl]
    refine s_appR (a := a) (c := c) (xs := xs) (p := i) (ys := xs.drop j) ?_ (by omega) (hsrc := by exact hr) (hm := hdl.symm) (hne := by omega)
    refine s_rw (t := 26) (v' := .slice a (i + (xs.length - j)) c) rfl (by rw [hdl]) ?_
    rw [e2]
    have e3 : ((xs.take i ++ xs.drop j) ++ xs.drop (i + (xs.length - j))).length = xs.length := by rw [List.length_append, hlen, List.length_drop]; omega
    refine sx ?_
    refine s_clearP (α := KV) (p := i + (xs.length - j)) (xs := (xs.take i ++ xs.drop j) ++ xs.drop (i + (xs.length - j))) rfl rfl ?_
    refine sx ?_
    refine s_ret1 rfl rfl ⟨rfl, rfl⟩ ?_
    refine Ent.trans (Ent.shr (k := i + (xs.length - j))) ?_
    have e : (putL ((xs.take i ++ xs.drop j) ++ xs.drop (i + (xs.length - j))) (i + (xs.length - j)) (List.replicate (xs.length - (i + (xs.length - j))) kv0)).take (i + (xs.length - j)) = xs.take i ++ xs.drop j := by
      rw [putL, List.take_left' e1, List.append_assoc, List.take_left' e1]
    rw [e]
    exact Ent.refl
end Go.Sx

