/- Part of a proof: lists of lives, by the program: what is held, what is freed, all of them. -/
import Derived.Test.YtceandgmpcpmfaaCD4
namespace Go.Sx
open Go Go.Proofs
set_option maxRecDepth 10000
variable {w0 : World} {H : List Ck}
theorem dnew_s : FnS Try.prog w0 H 20 #[] (fun v H' => ∃ d, v = .pointer (some ⟨d, 0, none⟩) ∧ H' = .hb d 63 [.slice none 0 0] :: ol 34 none 0 ([] : List Lf) :: H) := by
  refine fns_enter Try.func20 rfl rfl rfl ?_
  refine sx ?_
  refine s_boxA rfl fun d => ?_
  refine sx ?_
  exact s_ret1 rfl rfl ⟨d, rfl, rfl⟩
theorem rnew_s : FnS Try.prog w0 H 22 #[] (fun v H' => ∃ d, v = .pointer (some ⟨d, 0, none⟩) ∧ H' = .hb d 73 [.slice none 0 0] :: ol 34 none 0 ([] : List Lf) :: H) := by
  refine fns_enter Try.func22 rfl rfl rfl ?_
  refine sx ?_
  refine s_boxA rfl fun d => ?_
  refine sx ?_
  exact s_ret1 rfl rfl ⟨d, rfl, rfl⟩
theorem dcount_s {d : Nat} {a : Option Addr} {c : Nat} {xs : List Lf} : FnV Try.prog w0 (.hb d 63 [.slice a xs.length c] :: H) 12 #[.pointer (some ⟨d, 0, none⟩)] (.int .i64 xs.length) := by
  refine fns_enter Try.func12 rfl rfl rfl ?_
  refine sx ?_
  exact s_ret1 rfl rfl ⟨rfl, rfl⟩
theorem rcount_s {d : Nat} {a : Option Addr} {c : Nat} {xs : List Lf} : FnV Try.prog w0 (.hb d 73 [.slice a xs.length c] :: H) 29 #[.pointer (some ⟨d, 0, none⟩)] (.int .i64 xs.length) := by
  refine fns_enter Try.func29 rfl rfl rfl ?_
  refine sx ?_
  exact s_ret1 rfl rfl ⟨rfl, rfl⟩
theorem lclip_s {a : Option Addr} {c : Nat} {xs : List Lf} : FnS Try.prog w0 (ol 34 a c xs :: H) 30 #[.slice a xs.length c] (fun v H' => v = .slice a xs.length xs.length ∧ H' = ol 34 a xs.length xs :: H) := by
  refine fns_enter Try.func30 rfl rfl rfl ?_
  refine s_kn (Kn.sl (RSl.hd : RSl w0 (ol 34 a c xs :: H) a c xs)) fun l1 => ?_
  refine sx ?_
  refine s_yS rfl rfl rfl (y_slU rfl rfl rfl (by omega)) ?_
  refine sx ?_
  exact s_ret1 rfl rfl ⟨rfl, rfl⟩ (Ent.clip (Nat.le_refl _) (by omega))
theorem lclone_s {a : Option Addr} {c : Nat} {xs : List Lf} (hx : RSl w0 H a c xs) (hl : xs.length ≤ 5864062014805) : FnS Try.prog w0 H 31 #[.slice a xs.length c] (fun v H' => ∃ a' c', v = .slice a' xs.length c' ∧ H' = ol 34 a' c' xs :: H) := by
  refine fns_enter Try.func31 rfl rfl rfl ?_
  refine sx ?_
  refine s_cond rfl (fun t1 => ?_) (fun t1 => ?_)
  · refine s_kn (φ := xs = []) (fun w hw => ?_) fun e => ?_
    · have h := hx w hw
      have h1 := h.nil (by simpa using t1)
      exact List.eq_nil_of_length_eq_zero (by have := h.le; omega)
    subst e
    refine sx ?_
    exact s_ret1 rfl rfl ⟨none, 0, rfl, rfl⟩ Ent.nilS
  refine sx ?_
  refine s_bsl ([] : List Lf) rfl rfl fun b1 => ?_
  refine sx ?_
  refine s_app (ys := xs) ?_
  intro a1 c1
  refine sx ?_
  exact s_ret1 rfl rfl ⟨a1, c1, rfl, rfl⟩
/-- All of them, in new memory. -/
abbrev LivR (xs : List Lf) (H : List Ck) : Value → List Ck → Prop := fun v H' => ∃ a' c', v = .slice a' xs.length c' ∧ H' = ol 34 a' c' xs :: H
theorem dlives_s {d : Nat} {a : Option Addr} {c : Nat} {xs : List Lf} (hl : xs.length ≤ 5864062014805) :
    FnS Try.prog w0 (.hb d 63 [.slice a xs.length c] :: ol 34 a c xs :: H) 11 #[.pointer (some ⟨d, 0, none⟩)] (LivR xs (.hb d 63 [.slice a xs.length c] :: ol 34 a c xs :: H)) := by
  refine fns_enter Try.func11 rfl rfl rfl ?_
  refine sx ?_
  refine s_call rfl (lclone_s (xs := xs) (by exact rsl) hl) ?_
  rintro _ _ ⟨a1, c1, rfl, rfl⟩
  refine ⟨chk_seq, ?_⟩
  refine s_call rfl lclip_s ?_
  rintro _ _ ⟨rfl, rfl⟩
  refine ⟨chk_seq, ?_⟩
  refine sx ?_
  exact s_ret1 rfl rfl ⟨a1, xs.length, rfl, rfl⟩
theorem rlives_s {d : Nat} {a : Option Addr} {c : Nat} {xs : List Lf} (hl : xs.length ≤ 5864062014805) :
    FnS Try.prog w0 (.hb d 73 [.slice a xs.length c] :: ol 34 a c xs :: H) 28 #[.pointer (some ⟨d, 0, none⟩)] (LivR xs (.hb d 73 [.slice a xs.length c] :: ol 34 a c xs :: H)) := by
  refine fns_enter Try.func28 rfl rfl rfl ?_
  refine sx ?_
  refine s_appN (ys := xs) ?_
  intro a1 c1
  refine sx ?_
  exact s_ret1 rfl rfl ⟨a1, c1, rfl, rfl⟩
theorem heldV_snoc {xs : List Lf} {i : Nat} {x : Lf} {g : Int} (h : xs[i]? = some x) : heldV (xs.take (i + 1)) g = heldV (xs.take i) g ++ if x.need g then [x.p] else [] := by
  unfold heldV
  rw [snocT h, List.filter_append, List.map_append]
  by_cases hn : x.need g <;> simp [hn]
theorem heldV_len (xs : List Lf) (g : Int) : (heldV xs g).length ≤ xs.length := by
  unfold heldV
  rw [List.length_map]
  exact List.length_filter_le _ _
abbrev HelR (xs : List Lf) (g : Int) (H : List Ck) : Value → List Ck → Prop := fun v H' => ∃ a' c', v = .slice a' (heldV xs g).length c' ∧ H' = ol 3 a' c' (heldV xs g) :: H
theorem dheld_s {d : Nat} {a : Option Addr} {c : Nat} {xs : List Lf} {g : Int} (hl : xs.length ≤ 5864062014805) :
    FnS Try.prog w0 (.hb d 63 [.slice a xs.length c] :: ol 34 a c xs :: H) 14 #[.pointer (some ⟨d, 0, none⟩), .int .u64 g] (HelR xs g (.hb d 63 [.slice a xs.length c] :: ol 34 a c xs :: H)) := by
  refine fns_enter Try.func14 rfl rfl rfl ?_
  refine sx ?_
  refine s_loop (fun i : Nat × Option Addr × Nat => [(1, .int .u64 g), (5, .slice i.2.1 (heldV (xs.take i.1) g).length i.2.2), (11, .slice a xs.length c), (12, .int .i64 xs.length), (13, .int .i64 i.1)]) (fun i => ol 3 i.2.1 i.2.2 (heldV (xs.take i.1) g) :: .hb d 63 [.slice a xs.length c] :: ol 34 a c xs :: H) (fun i => i.1 ≤ xs.length) (fun i => xs.length - i.1) (0, none, 0) (Nat.zero_le _) ?_ (he := Ent.nilS)
  rintro ⟨i, a1, c1⟩ hi
  simp only at hi ⊢
  have hlen := heldV_len (xs.take i) g
  rw [List.length_take] at hlen
  refine sx ?_
  refine s_if rfl (fun t1 => ?_) (fun t1 => ?_)
  · obtain ⟨x, hx⟩ := get_lt xs i (by omega)
    have hs := heldV_snoc (g := g) hx
    refine sx ?_
    refine s_alloc fun b7 => ?_
    refine sx ?_
    refine s_callV rfl (dneeds_s (x := x)) ?_
    refine sx ?_
    refine s_if rfl (fun t2 => ?_) (fun t2 => ?_)
    · rw [if_pos t2] at hs
      refine sx ?_
      refine s_bsl [x.p] rfl rfl fun b23 => ?_
      refine sx ?_
      refine s_app ?_
      intro a2 c2
      refine sx ?_
      rw [← hs]
      exact s_again (i + 1, a2, c2) (by simp only; omega) (by simp only; omega)
    · rw [if_neg t2, List.append_nil] at hs
      refine sx ?_
      rw [← hs]
      exact s_again (i + 1, a1, c1) (by simp only; omega) (by simp only; omega)
  · obtain rfl : i = xs.length := by omega
    rw [List.take_length]
    refine sx ?_
    exact s_ret1 rfl rfl ⟨a1, c1, rfl, rfl⟩
theorem rheld_s {d : Nat} {a : Option Addr} {c : Nat} {xs : List Lf} {g : Int} (hl : xs.length ≤ 5864062014805) :
    FnS Try.prog w0 (.hb d 73 [.slice a xs.length c] :: ol 34 a c xs :: H) 26 #[.pointer (some ⟨d, 0, none⟩), .int .u64 g] (HelR xs g (.hb d 73 [.slice a xs.length c] :: ol 34 a c xs :: H)) := by
  refine fns_enter Try.func26 rfl rfl rfl ?_
  refine sx ?_
  refine s_loop (fun i : Nat × Option Addr × Nat => [(0, .pointer (some ⟨d, 0, none⟩)), (1, .int .u64 g), (5, .slice i.2.1 (heldV (xs.take i.1) g).length i.2.2), (6, .int .i64 i.1)]) (fun i => ol 3 i.2.1 i.2.2 (heldV (xs.take i.1) g) :: .hb d 73 [.slice a xs.length c] :: ol 34 a c xs :: H) (fun i => i.1 ≤ xs.length) (fun i => xs.length - i.1) (0, none, 0) (Nat.zero_le _) ?_ (he := Ent.nilS)
  rintro ⟨i, a1, c1⟩ hi
  simp only at hi ⊢
  have hlen := heldV_len (xs.take i) g
  rw [List.length_take] at hlen
  refine sx ?_
  refine s_if rfl (fun t1 => ?_) (fun t1 => ?_)
  · obtain ⟨x, hx⟩ := get_lt xs i (by omega)
    have hs := heldV_snoc (g := g) hx
    refine sx ?_
    refine s_callV rfl (rneeds_s (x := x)) ?_
    refine sx ?_
    refine s_if rfl (fun t2 => ?_) (fun t2 => ?_)
    · rw [if_pos t2] at hs
      refine sx ?_
      refine s_bsl [x.p] rfl rfl fun b23 => ?_
      refine sx ?_
      refine s_app ?_
      intro a2 c2
      refine sx ?_
      rw [← hs]
      exact s_again (i + 1, a2, c2) (by simp only; omega) (by simp only; omega)
    · rw [if_neg t2, List.append_nil] at hs
      refine sx ?_
      rw [← hs]
      exact s_again (i + 1, a1, c1) (by simp only; omega) (by simp only; omega)
  · obtain rfl : i = xs.length := by omega
    rw [List.take_length]
    refine sx ?_
    exact s_ret1 rfl rfl ⟨a1, c1, rfl, rfl⟩
end Go.Sx
