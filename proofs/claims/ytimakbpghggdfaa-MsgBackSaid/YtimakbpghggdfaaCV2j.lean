/- Part of a proof: several parts of a walk, one behind the other. -/
import Derived.Test.YtimakbpghggdfaaCO2
import Derived.Test.YtimakbpghggdfaaCV1
namespace Go.Sx
open Go Go.Proofs
set_option maxRecDepth 10000
variable {w0 : World} {H : List Ck}
end Go.Sx
namespace Go.Sx
open Go Go.Proofs
set_option maxRecDepth 10000
variable {w0 : World} {H : List Ck}
set_option maxHeartbeats 1000000 in
theorem mcheck_s {size : Int} {a : Option Addr} {c : Nat} {ms : List Mg} (hx : RMs w0 H a c ms) : FnV Try.prog w0 H 14 #[.int .i64 size, .slice a ms.length c] (.int .i64 (chkM size (ms.map Mg.d))) := by
  have hsl := hx.sl
  refine fns_enter Try.func14 rfl rfl rfl ?_
  refine s_kn (Kn.sl hsl) fun l1 => ?_
  simp only [maxLen] at l1
  refine sx ?_
  refine s_callV rfl msized_s ?_
  unfold chkM
  cases hs : sizedB size
  · refine sx ?_
    exact s_ret1 rfl rfl ⟨rfl, rfl⟩
  rw [if_pos rfl]
  refine sx ?_
  refine s_loop (fun i : Nat × Int => [(0, .int .i64 size), (5, .int .u64 i.2), (11, .slice a ms.length c), (12, .int .i64 ms.length), (13, .int .i64 i.1)]) (fun _ => H) (fun i => i.1 ≤ ms.length ∧ chkG size 0 (ms.map Mg.d) = chkG size i.2 ((ms.map Mg.d).drop i.1)) (fun i => ms.length - i.1) (0, 0) ⟨Nat.zero_le _, by simp⟩ ?_
  rintro ⟨i, last⟩ ⟨hi, he⟩
  simp only at hi he ⊢
  refine sx ?_
  refine s_if rfl (fun t1 => ?_) (fun t1 => ?_)
  · obtain ⟨m, hm⟩ := get_lt ms i (by omega)
    have hst := chkG_step (size := size) (last := last) (get_map (f := Mg.d) hm)
    rw [he, hst]
    refine sx ?_
    refine s_alloc fun b7 => ?_
    refine sx ?_
    refine s_callV rfl (mmay_s (m := m) hs (by repeat (first | exact hx.el m (List.mem_of_getElem? hm) | apply RMg.tl))) ?_
    cases hmay : mayM size m.d
    · rw [if_pos rfl]
      refine sx ?_
      exact s_ret1 rfl rfl ⟨rfl, rfl⟩
    rw [if_neg (by decide)]
    refine sx ?_
    refine s_lif rfl (fun t2 => ?_) (fun t2 => ?_)
    · rw [if_pos (.inl t2)]
      refine sx ?_
      exact s_ret1 rfl rfl ⟨rfl, rfl⟩
    · refine sx ?_
      refine s_if rfl (fun t3 => ?_) (fun t3 => ?_)
      · rw [if_pos (.inr t3)]
        refine sx ?_
        exact s_ret1 rfl rfl ⟨rfl, rfl⟩
      · rw [if_neg (fun h => h.elim t2 t3)]
        refine sx ?_
        exact s_again (i + 1, m.st) ⟨by simp only; omega, rfl⟩ (by simp only; omega)
  · obtain rfl : i = ms.length := by omega
    rw [List.drop_of_length_le (by simp)] at he
    rw [he]
    refine sx ?_
    exact s_ret1 rfl rfl ⟨rfl, rfl⟩
theorem mbytes_s {a : Option Addr} {c : Nat} {ms : List Mg} (hx : RSl w0 H a c ms) (hb : sumM (ms.map Mg.d) ≤ 4611686018427387904) : FnV Try.prog w0 H 17 #[.slice a ms.length c] (.int .i64 (bytesM (ms.map Mg.d) : Nat)) := by
  refine fns_enter Try.func17 rfl rfl rfl ?_
  refine s_kn (Kn.sl hx) fun l1 => ?_
  simp only [maxLen] at l1
  refine sx ?_
  refine s_loop (fun i : Nat => [(3, .int .i64 (bytesM ((ms.map Mg.d).take i) : Nat)), (6, .slice a ms.length c), (7, .int .i64 ms.length), (8, .int .i64 i)]) (fun _ => H) (fun i => i ≤ ms.length) (fun i => ms.length - i) 0 (Nat.zero_le _) ?_
  intro i hi
  refine sx ?_
  refine s_if rfl (fun t1 => ?_) (fun t1 => ?_)
  · obtain ⟨m, hm⟩ := get_lt ms i (by omega)
    have h1 := sumM_get (get_map (f := Mg.d) hm)
    have h2 := sumM_take (ms.map Mg.d) (i + 1)
    have e1 : bytesM ((ms.map Mg.d).take i) = 4 + sumM ((ms.map Mg.d).take i) := rfl
    have e2 : bytesM ((ms.map Mg.d).take (i + 1)) = 4 + sumM ((ms.map Mg.d).take (i + 1)) := rfl
    have e3 : lenM m.d = 13 + m.lo.length + m.hi.length + m.v.length := rfl
    refine sx ?_
    refine s_alloc fun b7 => ?_
    refine sx ?_
    exact s_again (i + 1) (by omega) (by omega)
  · obtain rfl : i = ms.length := by omega
    have e : (ms.map Mg.d).take ms.length = ms.map Mg.d := List.take_of_length_le (by simp)
    rw [e]
    refine sx ?_
    exact s_ret1 rfl rfl ⟨rfl, rfl⟩
end Go.Sx
