/- Part of a proof: Find, by the program and by the document. -/
import Derived.Test.YtbkaabjjmoaijaaCM2
namespace Go.Sx
open Go Go.Proofs
set_option maxRecDepth 10000
variable {w0 : World} {H : List Ck}

/-! ### Plain -/
/-- Keys rise. -/
def Rise (ps : Ps) : Prop := ps.Pairwise fun e f => cmp e.1 f.1 < 0
def fndN (ps : Ps) (k : Bs) : Nat := (ps.filter fun e => decide (cmp e.1 k < 0)).length
def fndB (ps : Ps) (k : Bs) : Bool := ps.any fun e => decide (e.1 = k)
theorem fndN_le (ps : Ps) (k : Bs) : fndN ps k ≤ ps.length := List.length_filter_le _ _
theorem cmp_lt_of {x y z : Bs} (h1 : cmp x y < 0) (h2 : cmp y z ≤ 0) : cmp x z < 0 := (cmp_lt_trans x y z (by omega) h2).2 (.inl h1)
theorem cmp_lt_of' {x y z : Bs} (h1 : cmp x y ≤ 0) (h2 : cmp y z < 0) : cmp x z < 0 := (cmp_lt_trans x y z h1 (by omega)).2 (.inr h2)
theorem rise_get {ps : Ps} (h : Rise ps) {i j : Nat} {e f : Bs × Bs} (hi : ps[i]? = some e) (hj : ps[j]? = some f) (hij : i < j) : cmp e.1 f.1 < 0 := by
  have hi' := (List.getElem?_eq_some_iff.1 hi)
  have hj' := (List.getElem?_eq_some_iff.1 hj)
  have := List.pairwise_iff_getElem.1 h i j hi'.1 hj'.1 hij
  rw [hi'.2, hj'.2] at this
  exact this
/-- The place is known by its neighbours. -/
theorem fndN_eq {ps : Ps} {k : Bs} {i : Nat} (hi : i ≤ ps.length) (h1 : ∀ j e, j < i → ps[j]? = some e → cmp e.1 k < 0) (h2 : ∀ j e, i ≤ j → ps[j]? = some e → ¬ cmp e.1 k < 0) : fndN ps k = i := by
  have e1 : (ps.take i).filter (fun e => decide (cmp e.1 k < 0)) = ps.take i := List.filter_eq_self.2 fun e he => by
    obtain ⟨j, hj⟩ := List.getElem?_of_mem he
    have hlt : j < i := by have := (List.getElem?_eq_some_iff.1 hj).1; simp at this; omega
    rw [List.getElem?_take_of_lt hlt] at hj
    exact decide_eq_true (h1 j e hlt hj)
  have e2 : (ps.drop i).filter (fun e => decide (cmp e.1 k < 0)) = [] := List.filter_eq_nil_iff.2 fun e he => by
    obtain ⟨j, hj⟩ := List.getElem?_of_mem he
    rw [List.getElem?_drop] at hj
    simpa using h2 (i + j) e (by omega) hj
  unfold fndN
  rw [← List.take_append_drop i ps, List.filter_append, e1, e2]
  simp; omega
theorem fndN_lt {ps : Ps} (h : Rise ps) {k : Bs} {j : Nat} {e : Bs × Bs} (hj : ps[j]? = some e) : j < fndN ps k ↔ cmp e.1 k < 0 := by
  induction ps generalizing j with
  | nil => simp at hj
  | cons x r ih =>
    have hr : Rise r := (List.pairwise_cons.1 h).2
    have hx := (List.pairwise_cons.1 h).1
    have hc : fndN (x :: r) k = (if cmp x.1 k < 0 then 1 else 0) + fndN r k := by
      unfold fndN; by_cases hh : cmp x.1 k < 0 <;> simp [hh]; omega
    cases j with
    | zero =>
      simp only [List.getElem?_cons_zero, Option.some.injEq] at hj
      subst hj
      by_cases hh : cmp x.1 k < 0
      · rw [hc, if_pos hh]; simp [hh]; omega
      · have : fndN r k = 0 := by
          unfold fndN
          rw [List.length_eq_zero_iff, List.filter_eq_nil_iff]
          intro f hf
          simp only [decide_eq_true_eq]
          intro hfk
          have hxf := hx f hf
          have h3 := cmp_lt_of' (x := x.1) (y := f.1) (z := k) (by omega) hfk
          exact hh h3
        rw [hc, if_neg hh, this]; simp [hh]
    | succ j =>
      have hj' : r[j]? = some e := by simpa using hj
      have hi := ih hr hj'
      by_cases hh : cmp x.1 k < 0
      · rw [hc, if_pos hh]; omega
      · have hxe := hx e (List.mem_of_getElem? hj')
        have hne : ¬ cmp e.1 k < 0 := fun g => hh (cmp_lt_of' (by omega) g)
        have := mt hi.1 hne
        rw [hc, if_neg hh]
        constructor
        · intro g; omega
        · intro g; exact absurd g hne
theorem fndB_iff {ps : Ps} {k : Bs} : fndB ps k = true ↔ ∃ e, e ∈ ps ∧ e.1 = k := by simp [fndB]
/-- Of keys that rise: whether it is there is told at its place. -/
theorem fndB_at {ps : Ps} (h : Rise ps) {k : Bs} {e : Bs × Bs} (he : ps[fndN ps k]? = some e) : fndB ps k = decide (cmp e.1 k = 0) := by
  rw [Bool.eq_iff_iff, fndB_iff, decide_eq_true_eq, cmp_eq]
  constructor
  · rintro ⟨f, hf, hk⟩
    obtain ⟨j, hj⟩ := List.getElem?_of_mem hf
    have h0 : ¬ cmp f.1 k < 0 := by rw [hk, (cmp_eq k k).2 rfl]; omega
    have h1 := mt (fndN_lt h (k := k) hj).1 h0
    have h2 : ¬ cmp e.1 k < 0 := mt (fndN_lt h (k := k) he).2 (by omega)
    rcases Nat.lt_or_eq_of_le (Nat.le_of_not_lt h1) with h3 | h3
    · have := rise_get h he hj h3
      rw [hk] at this
      exact absurd this h2
    · rw [← h3, he] at hj
      simp only [Option.some.injEq] at hj
      rw [hj]; exact hk
  · intro hk
    exact ⟨e, List.mem_of_getElem? he, hk⟩
theorem fndB_end {ps : Ps} (h : Rise ps) {k : Bs} (he : fndN ps k = ps.length) : fndB ps k = false := by
  rw [← Bool.not_eq_true, fndB_iff]
  rintro ⟨f, hf, hk⟩
  obtain ⟨j, hj⟩ := List.getElem?_of_mem hf
  have h0 : ¬ cmp f.1 k < 0 := by rw [hk, (cmp_eq k k).2 rfl]; omega
  have h1 := mt (fndN_lt h (k := k) hj).1 h0
  have h2 := (List.getElem?_eq_some_iff.1 hj).1
  omega

/-! ### Walks -/
theorem find1_s {a : Option Addr} {c : Nat} {e : KV} {xs : Bs} (hk : RBy w0 H e.ka e.kc e.k) (hx : RBy w0 H a c xs) :
    FnV Try.prog w0 H 68 #[.agg e.cells.toArray, .slice a xs.length c] (.int .i64 (cmp e.k xs)) := by
  refine fns_enter Try.func68 rfl rfl rfl ?_
  refine sx ?_
  refine s_boxA rfl fun b => ?_
  refine sx ?_
  refine s_callV rfl (compare_s (by exact rby) (by exact rby)) ?_
  refine sx ?_
  exact s_ret1 rfl rfl ⟨rfl, rfl⟩

theorem bsf_s {a a' : Option Addr} {c c' : Nat} {es : List KV} {xs : Bs} (he : REn w0 H a c es) (hx : RBy w0 H a' c' xs) (hr : Rise (es.map KV.p)) (hS : Small (es.map KV.p)) :
    FnV Try.prog w0 H 67 #[.slice a es.length c, .slice a' xs.length c', .func (.func 68) #[] #[]] (.tuple #[.int .i64 (fndN (es.map KV.p) xs), .bool (fndB (es.map KV.p) xs)]) := by
  have hwl := wt_len (es.map KV.p)
  simp only [List.length_map, Small] at hwl hS
  have hL : (es.map KV.p).length = es.length := by simp
  refine fns_enter Try.func67 rfl rfl rfl ?_
  refine sx ?_
  refine s_loop (fun i : Nat × Nat => [(0, .slice a es.length c), (1, .slice a' xs.length c'), (2, .func (.func 68) #[] #[]), (8, .int .i64 es.length), (9, .int .i64 i.1), (10, .int .i64 i.2)]) (fun _ => H)
    (fun i => i.1 ≤ i.2 ∧ i.2 ≤ es.length ∧ i.1 ≤ fndN (es.map KV.p) xs ∧ fndN (es.map KV.p) xs ≤ i.2) (fun i => i.2 - i.1) (0, es.length) ⟨Nat.zero_le _, Nat.le_refl _, Nat.zero_le _, by rw [← hL]; exact fndN_le _ _⟩ ?_
  rintro ⟨i, j⟩ ⟨h1, h2, h3, h4⟩
  simp only at h1 h2 h3 h4 ⊢
  refine sx ?_
  refine s_if rfl (fun t1 => ?_) (fun t1 => ?_)
  · refine sx ?_
    have hm : (i + j) / 2 < es.length := by omega
    obtain ⟨e, hke⟩ := get_lt es ((i + j) / 2) hm
    have hk1 := he.key (List.mem_of_getElem? hke)
    have hlt := fndN_lt hr (k := xs) (map_get hke)
    simp only at hlt
    refine s_rw (t := 26) rfl (ci (by omega : _ = (((i + j) / 2 : Nat) : Int))) ?_
    refine s_rw (t := 11) rfl (ci (by omega : _ = (((i + j) / 2 : Nat) : Int))) ?_
    refine sx ?_
    refine s_callFV (cap := []) rfl rfl (find1_s (by exact rby) (by exact rby)) ?_
    refine sx ?_
    refine s_if rfl (fun t2 => ?_) (fun t2 => ?_)
    · refine sx ?_
      have := hlt.2 t2
      refine s_again ((i + j) / 2 + 1, j) ⟨by simp only; omega, h2, by simp only; omega, h4⟩ (by simp only; omega)
    · refine sx ?_
      have := mt hlt.1 t2
      refine s_again (i, (i + j) / 2) ⟨by simp only; omega, by simp only; omega, h3, by simp only; omega⟩ (by simp only; omega)
  · obtain rfl : i = j := by omega
    have hi : fndN (es.map KV.p) xs = i := by omega
    refine sx ?_
    refine s_lif rfl (fun t2 => ?_) (fun t2 => ?_)
    · obtain ⟨e, hke⟩ := get_lt es i (by omega)
      have hk1 := he.key (List.mem_of_getElem? hke)
      have hfb := fndB_at hr (k := xs) (e := e.p) (by rw [hi]; exact map_get hke)
      refine sx ?_
      refine s_callFV (cap := []) rfl rfl (find1_s (by exact rby) (by exact rby)) ?_
      refine sx ?_
      refine s_ret2 rfl rfl rfl ⟨?_, rfl⟩
      rw [hi, hfb]
      rfl
    · have hfb := fndB_end hr (k := xs) (by rw [hi, hL]; omega)
      refine sx ?_
      refine s_ret2 rfl rfl rfl ⟨?_, rfl⟩
      rw [hi, hfb]
theorem lfind_s {a a' : Option Addr} {c c' : Nat} {es : List KV} {xs : Bs} (he : REn w0 H a c es) (hx : RBy w0 H a' c' xs) (hr : Rise (es.map KV.p)) (hS : Small (es.map KV.p)) :
    FnV Try.prog w0 H 36 #[.slice a es.length c, .slice a' xs.length c'] (.tuple #[.int .i64 (fndN (es.map KV.p) xs), .bool (fndB (es.map KV.p) xs)]) := by
  refine fns_enter Try.func36 rfl rfl rfl ?_
  refine sx ?_
  refine s_callV rfl (bsf_s (by exact ren) (by exact rby) hr hS) ?_
  refine sx ?_
  exact s_ret2 rfl rfl rfl ⟨rfl, rfl⟩
theorem fndN_take {ps : Ps} {k : Bs} {i : Nat} {e : Bs × Bs} (h : ps[i]? = some e) : fndN (ps.take (i + 1)) k = fndN (ps.take i) k + if cmp e.1 k < 0 then 1 else 0 := by
  unfold fndN; rw [take_snoc' h, List.filter_append, List.length_append]; by_cases hh : cmp e.1 k < 0 <;> simp [hh]
theorem fndB_take {ps : Ps} {k : Bs} {i : Nat} {e : Bs × Bs} (h : ps[i]? = some e) : fndB (ps.take (i + 1)) k = (fndB (ps.take i) k || decide (e.1 = k)) := by
  unfold fndB; rw [take_snoc' h, List.any_append]; simp
theorem rfind_s {a a' : Option Addr} {c c' : Nat} {es : List KV} {xs : Bs} (he : REn w0 H a c es) (hx : RBy w0 H a' c' xs) :
    FnV Try.prog w0 H 65 #[.slice a es.length c, .slice a' xs.length c'] (.tuple #[.int .i64 (fndN (es.map KV.p) xs), .bool (fndB (es.map KV.p) xs)]) := by
  refine fns_enter Try.func65 rfl rfl rfl ?_
  refine s_kn (Kn.en he) fun l1 => ?_
  simp only [maxLen] at l1
  refine sx ?_
  refine s_loop (fun i : Nat => [(0, .slice a es.length c), (1, .slice a' xs.length c'), (6, .int .i64 (fndN ((es.map KV.p).take i) xs)), (7, .bool (fndB ((es.map KV.p).take i) xs)), (8, .int .i64 i)]) (fun _ => H)
    (fun i => i ≤ es.length) (fun i => es.length - i) 0 (Nat.zero_le _) ?_
  intro i hi
  have hle : fndN ((es.map KV.p).take i) xs ≤ i := Nat.le_trans (fndN_le _ _) (List.length_take_le _ _)
  refine sx ?_
  refine s_if rfl (fun t1 => ?_) (fun t1 => ?_)
  · obtain ⟨e, hke⟩ := get_lt es i (by omega)
    have hk1 := he.key (List.mem_of_getElem? hke)
    have hn := fndN_take (k := xs) (map_get hke)
    have hb := fndB_take (k := xs) (map_get hke)
    simp only at hn hb
    refine sx ?_
    refine sx ?_; refine s_dr (.one true 0 (.one true 1 (.one true 2 (.one true 3 (.one true 4 (.one true 5 (.one true 6 (.one true 7 (.one true 8 .nil))))))))) mixed (by kernel_rfl) ?_; refine sx ?_
    refine s_cut (ι := Unit) (fun _ => [(0, .slice a es.length c), (1, .slice a' xs.length c'), (6, .int .i64 (fndN ((es.map KV.p).take (i + 1)) xs)), (7, .bool (fndB ((es.map KV.p).take i) xs)), (8, .int .i64 i)]) (fun _ => H) (fun _ => True) ?_ (fun _ _ => ?_)
    · refine s_if rfl (fun t2 => ?_) (fun t2 => ?_)
      · rw [if_pos t2] at hn
        refine sx ?_
        exact s_mid () trivial
      · rw [if_neg t2] at hn
        refine sx ?_
        exact s_mid () trivial
    refine sx ?_; refine s_dr (.one true 0 (.one true 1 (.one true 2 (.one true 3 (.one true 4 (.one true 5 (.one true 6 (.one true 7 (.one true 8 (.one true 9 (.one true 10 (.one true 11 (.one true 12 .nil))))))))))))) mixed (by kernel_rfl) ?_; refine sx ?_
    refine s_lsp rfl (fun t2 => ?_) (fun t2 => ?_)
    · rw [t2] at hb
      refine sx ?_
      refine s_again (i + 1) (by omega) (by omega) (by rw [hb]; repeat (first | exact trivial | refine And.intro (by first | exact rfl | exact congrArg some (ci (by omega))) ?_))
    · rw [t2] at hb
      refine sx ?_
      refine s_again (i + 1) (by omega) (by omega) (by rw [hb]; repeat (first | exact trivial | refine And.intro (by first | exact rfl | exact congrArg some (ci (by omega))) ?_))
  · obtain rfl : i = es.length := by omega
    refine sx ?_
    refine s_ret2 rfl rfl rfl ⟨?_, rfl⟩
    rw [List.take_of_length_le (by simp)]
end Go.Sx
