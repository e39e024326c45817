/- Part of a proof: MergeWith, walked. -/
import Derived.Test.YtpnhoafmlhlfgaaGreatCPCj
import Derived.Test.YtpnhoafmlhlfgaaGreatCZI
import Derived.Test.YtpnhoafmlhlfgaaGreatCMYj
namespace Go.Sx
open Go Go.Proofs
set_option maxRecDepth 10000
variable {w0 : World} {H : List Ck}
theorem gweight_s {m : Mg} (h1 : m.lo.length ≤ 140737488355328) (h2 : m.hi.length ≤ 140737488355328) (h3 : m.v.length ≤ 140737488355328) : FnV Tryz.prog w0 H 42 #[.agg m.cells.toArray] (.int .i64 (lenM m.d : Nat)) := by
  refine fns_enter Tryz.func42 rfl rfl rfl ?_
  have e : lenM m.d = 13 + m.lo.length + m.hi.length + m.v.length := rfl
  refine sx ?_
  refine s_boxA rfl fun b1 => ?_
  refine sx ?_
  exact s_ret1 rfl rfl ⟨ci (by omega), rfl⟩
theorem gweights_s {a : Option Addr} {c : Nat} {ms : List Mg} (hx : RMs w0 H a c ms) (hz : ∀ m ∈ ms, m.lo.length ≤ 140737488355328 ∧ m.hi.length ≤ 140737488355328 ∧ m.v.length ≤ 140737488355328) :
    FnS Tryz.prog w0 H 18 #[.slice a ms.length c] (fun v H' => ∃ x : Int, v = .int .i64 x ∧ (0 ≤ x ∧ x ≤ 1125899906842624) ∧ (x ≤ 2147483647 → x = (sumM (ms.map Mg.d) : Nat)) ∧ H' = H) := by
  refine fns_enter Tryz.func18 rfl rfl rfl ?_
  have hsl := hx.sl
  refine s_kn (Kn.sl hsl) fun l1 => ?_
  simp only [maxLen] at l1
  refine sx ?_
  refine s_loop (fun i : Nat × Int => [(0, .slice a ms.length c), (3, .int .i64 i.2), (4, .int .i64 i.1)]) (fun _ => H) (fun i => i.1 ≤ ms.length ∧ (0 ≤ i.2 ∧ i.2 ≤ 1125899906842624) ∧ (i.2 ≤ 2147483647 → i.2 = (sumM ((ms.map Mg.d).take i.1) : Nat))) (fun i => ms.length - i.1) (0, 0) ⟨Nat.zero_le _, by simp only; omega, fun _ => by simp [sumM]⟩ ?_
  rintro ⟨i, x⟩ ⟨h1, h2, h3⟩
  simp only at h1 h2 h3 ⊢
  refine sx ?_
  refine s_lif rfl (fun t1 => ?_) (fun t1 => ?_)
  · obtain ⟨m, hm⟩ := get_lt ms i (by omega)
    obtain ⟨z1, z2, z3⟩ := hz m (List.mem_of_getElem? hm)
    have hst := sumM_get (get_map (f := Mg.d) hm)
    have e : lenM m.d = 13 + m.lo.length + m.hi.length + m.v.length := rfl
    refine sx ?_
    refine s_if rfl (fun t2 => ?_) (fun t2 => ?_)
    · refine sx ?_
      refine s_callV rfl (gweight_s (m := m) z1 z2 z3) ?_
      refine sx ?_
      refine s_again (i + 1, x + (lenM m.d : Nat)) ⟨by simp only; omega, by simp only; omega, fun _ => ?_⟩ (by simp only; omega)
      have := h3 t2
      simp only
      omega
    · refine sx ?_
      exact s_ret1 rfl rfl ⟨x, rfl, h2, fun h => absurd h t2, rfl⟩
  · obtain rfl : i = ms.length := by omega
    rw [List.take_of_length_le (by simp)] at h3
    refine sx ?_
    exact s_ret1 rfl rfl ⟨x, rfl, h2, h3, rfl⟩
abbrev MzL (ms : List Mg) : Prop := ∀ m ∈ ms, m.lo.length ≤ 140737488355327 ∧ m.hi.length ≤ 140737488355328 ∧ m.v.length ≤ 140737488355328
theorem mz_d {ls ms : List Mg} (h : ls.map Mg.d = ms.map Mg.d) (hz : MzL ms) : MzL ls ∧ ls.length = ms.length := by
  refine ⟨fun m hm => ?_, by simpa using congrArg List.length h⟩
  have h1 : m.d ∈ ms.map Mg.d := by rw [← h]; exact List.mem_map_of_mem hm
  obtain ⟨m', h2, h3⟩ := List.mem_map.1 h1
  have h4 := hz m' h2
  simp only [Mg.d, MD.mk.injEq] at h3
  rw [← h3.2.2.1, ← h3.2.2.2.1, ← h3.2.2.2.2]
  exact h4
theorem sumM_memG {l : List MD} {m : MD} (h : m ∈ l) : lenM m ≤ sumM l := by
  induction l with
  | nil => cases h
  | cons a l ih =>
    simp only [sumM, List.map_cons, List.sum_cons] at *
    rcases List.mem_cons.1 h with rfl | h
    · omega
    · have := ih h
      omega
end Go.Sx

