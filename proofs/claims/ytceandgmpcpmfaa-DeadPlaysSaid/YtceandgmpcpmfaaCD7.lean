/- Part of a proof: what is freed, by the program and by the document; one more, by the document. -/
import Derived.Test.YtceandgmpcpmfaaCD6
namespace Go.Sx
open Go Go.Proofs
set_option maxRecDepth 10000
variable {w0 : World} {H : List Ck}
theorem keptV_snoc {xs : List Lf} {i : Nat} {x : Lf} {ss : List Int} (h : xs[i]? = some x) : keptV (xs.take (i + 1)) ss = keptV (xs.take i) ss ++ if anyN ss x then [x] else [] := by
  unfold keptV
  rw [snocT h, List.filter_append]
  congr 1
  by_cases hn : anyN ss x
  · rw [if_pos hn, List.filter_cons_of_pos (by simpa using hn), List.filter_nil]
  · rw [if_neg hn, List.filter_cons_of_neg (by simpa using hn), List.filter_nil]
theorem outV_snoc {xs : List Lf} {i : Nat} {x : Lf} {ss : List Int} (h : xs[i]? = some x) : outV (xs.take (i + 1)) ss = outV (xs.take i) ss ++ if anyN ss x then [] else [x.p] := by
  unfold outV
  rw [snocT h, List.filter_append, List.map_append]
  congr 1
  by_cases hn : anyN ss x
  · rw [if_pos hn, List.filter_cons_of_neg (by simpa using hn)]
    rfl
  · rw [if_neg hn, List.filter_cons_of_pos (by simpa using hn)]
    rfl
theorem keptV_len (xs : List Lf) (ss : List Int) : (keptV xs ss).length ≤ xs.length := List.length_filter_le _ _
theorem outV_len (xs : List Lf) (ss : List Int) : (outV xs ss).length ≤ xs.length := by
  unfold outV
  rw [List.length_map]
  exact List.length_filter_le _ _
/-- What a Free leaves. -/
abbrev FreR (T d : Nat) (xs : List Lf) (ss : List Int) (H : List Ck) : Value → List Ck → Prop := fun v H' => ∃ o oc a' c', v = .slice o (freeV xs ss).length oc ∧ H' = ol 3 o oc (freeV xs ss) :: .hb d T [.slice a' (keptV xs ss).length c'] :: ol 34 a' c' (keptV xs ss) :: H
structure FrI where
  i : Nat
  a5 : Option Addr
  c5 : Nat
  a6 : Option Addr
  c6 : Nat
set_option maxHeartbeats 1000000 in
theorem dfree_s {d : Nat} {a sa : Option Addr} {c sc : Nat} {xs : List Lf} {ss : List U64} (hs : RSl w0 H sa sc ss) (hl : xs.length ≤ 5864062014805) :
    FnS Try.prog w0 (.hb d 63 [.slice a xs.length c] :: ol 34 a c xs :: H) 17 #[.pointer (some ⟨d, 0, none⟩), .slice sa ss.length sc] (FreR 63 d xs (ssN ss) H) := by
  refine fns_enter Try.func17 rfl rfl rfl ?_
  refine sx ?_
  refine s_loop (fun i : FrI => [(0, .pointer (some ⟨d, 0, none⟩)), (1, .slice sa ss.length sc), (5, .slice i.a5 (keptV (xs.take i.i) (ssN ss)).length i.c5), (6, .slice i.a6 (outV (xs.take i.i) (ssN ss)).length i.c6), (12, .slice a xs.length c), (13, .int .i64 xs.length), (14, .int .i64 i.i)])
    (fun i => ol 3 i.a6 i.c6 (outV (xs.take i.i) (ssN ss)) :: ol 34 i.a5 i.c5 (keptV (xs.take i.i) (ssN ss)) :: .hb d 63 [.slice a xs.length c] :: ol 34 a c xs :: H) (fun i => i.i ≤ xs.length) (fun i => xs.length - i.i) ⟨0, none, 0, none, 0⟩ (Nat.zero_le _) ?_ (he := Ent.nilS.trans (Ent.nilS.trans (Ent.perm (List.Perm.swap _ _ _))))
  rintro ⟨i, a5, c5, a6, c6⟩ hi
  simp only at hi ⊢
  have hl1 := keptV_len (xs.take i) (ssN ss)
  have hl2 := outV_len (xs.take i) (ssN ss)
  rw [List.length_take] at hl1 hl2
  refine sx ?_
  refine s_if rfl (fun t1 => ?_) (fun t1 => ?_)
  · obtain ⟨x, hx⟩ := get_lt xs i (by omega)
    have h1 := keptV_snoc (ss := ssN ss) hx
    have h2 := outV_snoc (ss := ssN ss) hx
    refine sx ?_
    refine s_alloc fun b8 => ?_
    refine sx ?_
    refine s_callV rfl (conf_s (x := x) (hs.tl.tl.tl.tl)) ?_
    refine sx ?_
    refine s_if rfl (fun t2 => ?_) (fun t2 => ?_)
    · rw [if_pos t2] at h1 h2
      rw [List.append_nil] at h2
      refine sx ?_
      refine s_bsl [x] rfl rfl fun b23 => ?_
      refine sx ?_
      refine s_app (xs := keptV (xs.take i) (ssN ss)) ?_
      intro a7 c7
      refine sx ?_
      rw [← h1, ← h2]
      exact s_again ⟨i + 1, a7, c7, a6, c6⟩ (by simp only; omega) (by simp only; omega)
    · rw [if_neg t2] at h1 h2
      rw [List.append_nil] at h1
      refine sx ?_
      refine s_bsl [x.p] rfl rfl fun b23 => ?_
      refine sx ?_
      refine s_app (xs := outV (xs.take i) (ssN ss)) ?_
      intro a7 c7
      refine sx ?_
      rw [← h1, ← h2]
      exact s_again ⟨i + 1, a5, c5, a7, c7⟩ (by simp only; omega) (by simp only; omega)
  · obtain rfl : i = xs.length := by omega
    rw [List.take_length] at hl1 hl2 ⊢
    refine sx ?_
    refine s_call rfl (compact_s (xs := outV xs (ssN ss)) (by omega)) ?_
    rintro _ _ ⟨a7, c7, rfl, rfl⟩
    refine ⟨chk_seq, ?_⟩
    refine sx ?_
    exact s_ret1 rfl rfl ⟨a7, c7, a5, c5, rfl, rfl⟩
end Go.Sx
