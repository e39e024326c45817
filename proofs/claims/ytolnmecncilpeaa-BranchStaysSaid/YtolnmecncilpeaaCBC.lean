/- Part of a proof: children that are lent. -/
import Derived.Test.YtolnmecncilpeaaCBA
namespace Go.Sx
open Go Go.Proofs
set_option maxRecDepth 10000
variable {w0 : World} {H : List Ck}
/-- How much, as far as the bound and a little more. -/
def wgt (n : Int) : List Bs → Int
  | [] => n
  | x :: r => if n ≤ 2147483647 then wgt (n + 1 + x.length) r else n
theorem wgt_big {n : Int} {ks : List Bs} (h : ¬ n ≤ 2147483647) : wgt n ks = n := by
  cases ks with
  | nil => rfl
  | cons x r => rw [wgt, if_neg h]
theorem wgt_le : ∀ {ks : List Bs} {n : Int}, wgt n ks ≤ 2147483647 → n ≤ 2147483647 ∧ n + keysB ks ≤ 2147483647 + keysB ks ∧ n + ks.length + (ks.map List.length).sum ≤ 2147483647
  | [], n, h => by simp only [wgt] at h; simp [h]
  | x :: r, n, h => by
    rw [wgt] at h
    split at h
    · rename_i h1
      have := wgt_le h
      refine ⟨h1, by omega, ?_⟩
      simp only [List.length_cons, List.map_cons, List.sum_cons]
      omega
    · exact absurd h (by assumption)
theorem keysB_eq : ∀ (ks : List Bs), keysB ks = 2 * ks.length + (ks.map List.length).sum
  | [] => rfl
  | x :: r => by
    have := keysB_eq r
    simp only [keysB, List.map_cons, List.sum_cons, List.length_cons] at this ⊢
    omega
theorem wgt_keys {ks : List Bs} {n : Nat} (h : wgt n ks ≤ 2147483647) : n ≤ 2147483647 ∧ keysB ks ≤ 4294967294 := by
  have := wgt_le h
  have := keysB_eq ks
  omega
theorem dropG {α : Type} {l : List α} {i : Nat} {e : α} (h : l[i]? = some e) : l.drop i = e :: l.drop (i + 1) := by
  obtain ⟨hi, rfl⟩ := List.getElem?_eq_some_iff.1 h
  exact List.drop_eq_getElem_cons hi
theorem weight_s {k : Kd} (hk : RKd w0 H k) (hm : k.ps.length ≤ 140737488355328) (hl : ∀ p ∈ k.ks, p.xs.length ≤ 140737488355328) : FnV Try.prog w0 H 17 #[.agg k.cells.toArray] (.int .i64 (wgt k.ps.length k.keys)) := by
  refine fns_enter Try.func17 rfl rfl rfl ?_
  refine s_kn (Kn.kp hk) fun l1 => s_kn (Kn.kk hk) fun l2 => ?_
  simp only [maxLen] at l1 l2
  have hps := hk.ps
  have hks := hk.ks
  refine sx ?_
  refine s_boxA rfl fun b1 => ?_
  refine sx ?_
  refine s_loop (fun i : Nat × Int => [(1, .pointer (some ⟨b1, 0, none⟩)), (3, .int .i64 i.2), (4, .int .i64 i.1)]) (fun _ => .hb b1 31 k.cells :: H) (fun i => i.1 ≤ k.ks.length ∧ 0 ≤ i.2 ∧ i.2 ≤ 1125899906842624 ∧ wgt k.ps.length k.keys = wgt i.2 (k.keys.drop i.1)) (fun i => k.ks.length - i.1) (0, (k.ps.length : Int)) ⟨Nat.zero_le _, by simp only; omega, by simp only; omega, rfl⟩ ?_
  rintro ⟨i, n⟩ ⟨h1, h2, h3, h4⟩
  simp only at h1 h2 h3 h4 ⊢
  refine sx ?_
  refine s_lif rfl (fun t1 => ?_) (fun t1 => ?_)
  · obtain ⟨p, hp⟩ := get_lt k.ks i (by omega)
    have hkp := Kd.kget hp
    have hpl := hk.el _ (List.mem_of_getElem? hp)
    have l3 := hl _ (List.mem_of_getElem? hp)
    refine sx ?_
    have hd := dropG hkp
    refine s_if rfl (fun t2 => ?_) (fun t2 => ?_)
    · refine sx ?_
      exact s_again (i + 1, n + 1 + p.xs.length) ⟨by simp only; omega, by simp only; omega, by simp only; omega, by show _ = wgt (n + 1 + p.xs.length) (k.keys.drop (i + 1)); rw [h4, hd, wgt, if_pos t2]⟩ (by simp only; omega)
    · refine sx ?_
      refine s_ret1 rfl rfl ⟨?_, rfl⟩
      rw [h4, wgt_big t2]
  · obtain rfl : i = k.ks.length := by omega
    refine sx ?_
    refine s_ret1 rfl rfl ⟨?_, rfl⟩
    rw [h4, List.drop_of_length_le (by simp)]
    rfl
theorem sameRange_s {r t : Rg} (hr : RRg w0 H r) (ht : RRg w0 H t) : FnV Try.prog w0 H 21 #[.agg r.cells.toArray, .agg t.cells.toArray] (.bool (decide (r.d = t.d))) := by
  refine fns_enter Try.func21 rfl rfl rfl ?_
  refine sx ?_
  refine s_boxA rfl fun b1 => ?_
  refine sx ?_
  refine s_boxA rfl fun b2 => ?_
  have h1 := hr.lo
  have h2 := hr.hi
  have h3 := ht.lo
  have h4 := ht.hi
  refine sx ?_
  have e : ∀ p : Prop, [Decidable p] → (r.d = t.d ↔ p) → decide (r.d = t.d) = decide p := fun p _ h => decide_eq_decide.2 h
  refine s_lsp rfl (fun g1 => ?_) (fun g1 => ?_)
  · have g1 : r.all = t.all := by simpa using g1
    refine sx ?_
    refine s_lif rfl (fun g2 => ?_) (fun g2 => ?_)
    · refine sx ?_
      refine s_ret1 rfl rfl ⟨?_, rfl⟩
      rw [e (r.hi = t.hi) (by simp [Rg.d, g1, g2])]
    · refine sx ?_
      refine s_ret1 rfl rfl ⟨?_, rfl⟩
      rw [decide_eq_false (by simp [Rg.d, g2])]
  · have g1 : r.all ≠ t.all := by simpa using g1
    refine sx ?_
    refine s_ret1 rfl rfl ⟨?_, rfl⟩
    rw [decide_eq_false (by simp [Rg.d, g1])]
end Go.Sx
