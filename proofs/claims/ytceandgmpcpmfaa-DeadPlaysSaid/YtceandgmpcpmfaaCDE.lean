/- Part of a proof: the law DeadKept, walked. -/
import Derived.Test.YtceandgmpcpmfaaCDC
namespace Go.Sx
open Go Go.Proofs
set_option maxRecDepth 10000
variable {w0 : World} {H : List Ck}
theorem has_s {a : Option Addr} {c : Nat} {xs : List Int} {n : Int} (hx : RSl w0 H a c xs) : FnV Try.prog w0 H 16 #[.slice a xs.length c, .int .i64 n] (.bool (decide (n ∈ xs))) := by
  refine fns_enter Try.func16 rfl rfl rfl ?_
  refine s_kn (Kn.sl hx) fun l1 => ?_
  simp only [maxLen] at l1
  refine sx ?_
  refine s_loop (fun i : Nat => [(0, .slice a xs.length c), (1, .int .i64 n), (5, .int .i64 i)]) (fun _ => H) (fun i => i ≤ xs.length ∧ n ∉ xs.take i) (fun i => xs.length - i) 0 ⟨Nat.zero_le _, by simp⟩ ?_
  rintro i ⟨hi, hn⟩
  refine sx ?_
  refine s_if rfl (fun t1 => ?_) (fun t1 => ?_)
  · obtain ⟨x, hxi⟩ := get_lt xs i (by omega)
    refine sx ?_
    refine s_if rfl (fun t2 => ?_) (fun t2 => ?_)
    · refine sx ?_
      refine s_ret1 rfl rfl ⟨?_, rfl⟩
      rw [decide_eq_true (by rw [← t2]; exact List.mem_of_getElem? hxi)]
    · refine sx ?_
      refine s_again (i + 1) ⟨by omega, ?_⟩ (by omega)
      rw [snocT hxi, List.mem_append]
      rintro (h | h)
      · exact hn h
      · exact t2 (List.mem_singleton.1 h).symm
  · obtain rfl : i = xs.length := by omega
    rw [List.take_length] at hn
    refine sx ?_
    exact s_ret1 rfl rfl ⟨by rw [decide_eq_false hn], rfl⟩
theorem any_s {a : Option Addr} {c : Nat} {ss : List U64} {x : Lf} (hs : RSl w0 H a c ss) : FnV Try.prog w0 H 18 #[.slice a ss.length c, .agg x.cells.toArray] (.bool (decide (anyN (ssN ss) x))) := by
  refine fns_enter Try.func18 rfl rfl rfl ?_
  refine s_kn (Kn.sl hs) fun l1 => ?_
  simp only [maxLen] at l1
  refine sx ?_
  refine s_boxA rfl fun b => ?_
  refine sx ?_
  refine s_loop (fun i : Nat => [(0, .slice a ss.length c), (3, .pointer (some ⟨b, 0, none⟩)), (5, .int .i64 i)]) (fun _ => .hb b 34 x.cells :: H) (fun i => i ≤ ss.length ∧ ¬ anyN (ssN (ss.take i)) x) (fun i => ss.length - i) 0 ⟨Nat.zero_le _, by simp [anyN]⟩ ?_
  rintro i ⟨hi, hn⟩
  refine sx ?_
  refine s_if rfl (fun t1 => ?_) (fun t1 => ?_)
  · obtain ⟨u, hu⟩ := get_lt ss i (by omega)
    have hun := anyN_snoc (x := x) hu
    refine sx ?_; refine s_dr (.one true 0 (.one true 1 (.one true 2 (.one true 3 (.one true 4 (.one false 5 .nil)))))) mixed (by kernel_rfl) ?_; refine sx ?_
    refine s_callV rfl (lneeds_s (x := x)) ?_
    refine sx ?_
    refine s_if rfl (fun t2 => ?_) (fun t2 => ?_)
    · refine sx ?_
      refine s_ret1 rfl rfl ⟨?_, rfl⟩
      rw [decide_eq_true]
      exact ⟨u.n, List.mem_map.2 ⟨u, List.mem_of_getElem? hu, rfl⟩, t2⟩
    · refine sx ?_
      refine s_again (i + 1) ⟨by omega, ?_⟩ (by omega)
      rw [hun]
      exact fun h => h.elim hn t2
  · obtain rfl : i = ss.length := by omega
    rw [List.take_length] at hn
    refine sx ?_
    exact s_ret1 rfl rfl ⟨by rw [decide_eq_false hn], rfl⟩
theorem mem_held {xs : List Lf} {x : Lf} {g : Int} (hx : x ∈ xs) (hn : x.need g) : x.p ∈ heldV xs g :=
  List.mem_map.2 ⟨x, List.mem_filter.2 ⟨hx, decide_eq_true hn⟩, rfl⟩
theorem mem_free {xs : List Lf} {x : Lf} {ss : List Int} (hx : x ∈ xs) (hn : ¬ anyN ss x) : x.p ∈ freeV xs ss :=
  dd_mem.2 (List.mem_map.2 ⟨x, List.mem_filter.2 ⟨hx, by simp [hn]⟩, rfl⟩)
theorem free_sub {xs : List Lf} {ss ts : List Int} (h : ∀ s ∈ ts, s ∈ ss) {p : Int} (hp : p ∈ freeV xs ss) : p ∈ freeV xs ts := by
  obtain ⟨x, hx, rfl⟩ := List.mem_map.1 (dd_mem.1 hp)
  obtain ⟨h1, h2⟩ := List.mem_filter.1 hx
  refine mem_free h1 fun ⟨s, g1, g2⟩ => ?_
  have : anyN ss x := ⟨s, h s g1, g2⟩
  simp [this] at h2
theorem countP_snoc {xs : List Lf} {k : Nat} {y : Lf} {f : Lf → Bool} (h : xs[k]? = some y) : (xs.take (k + 1)).countP f = (xs.take k).countP f + if f y = true then 1 else 0 := by
  rw [snocT h, List.countP_append]
  simp [List.countP_cons]
structure KpI where
  k : Nat
  a : Option Addr
  c : Nat
  hs : List SIn
end Go.Sx
