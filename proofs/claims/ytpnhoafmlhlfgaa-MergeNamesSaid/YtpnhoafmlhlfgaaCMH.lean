/- Part of a proof: merge.With is made. -/
import Derived.Test.YtpnhoafmlhlfgaaCMG
import Derived.Test.YtpnhoafmlhlfgaaCGH
namespace Go.Sx
open Go Go.Proofs
set_option maxRecDepth 10000
variable {w0 : World} {H : List Ck}
@[reducible] def wiL (b2 b5 : Nat) (v : Value) (a : Option Addr) (c : Nat) (ms : List Mg) : List Ck := [.hb b2 29 [v], .hb b5 65 [.slice a ms.length c], ol 64 a c ms, stars oM ms]
structure WhI where
  i : Nat
  a : Option Addr
  c : Nat
  ms : List Mg
set_option maxHeartbeats 4000000 in
theorem with_s {v : Value} (hv : v.oneCell' = true) {a : Option Addr} {c : Nat} {ms : List Mg} (hx : RMs w0 H a c ms) (hl : ms.length ≤ 137438953472) (hz : ∀ m ∈ ms, m.lo.length ≤ 140737488355328 ∧ m.hi.length ≤ 140737488355328 ∧ m.v.length ≤ 140737488355328) :
    FnS Try.prog w0 H 25 #[v, .slice a ms.length c] (fun v' H' => ∃ b2 b5 a' c' ls, v' = .func (.func 45) #[] #[.pointer (some ⟨b5, 0, none⟩), .pointer (some ⟨b2, 0, none⟩)] ∧ (ls : List Mg).map Mg.d = ms.map Mg.d ∧ H' = wiL b2 b5 v a' c' ls ++ H) := by
  refine fns_enter Try.func25 rfl rfl rfl ?_
  have hsl := hx.sl
  refine s_kn (Kn.sl hsl) fun l1 => ?_
  simp only [maxLen] at l1
  refine sx ?_
  refine s_box1 rfl hv fun b2 => ?_
  refine sx ?_
  refine s_alloc fun b5 => ?_
  refine sx ?_
  refine s_loop (fun q : WhI => [(2, .pointer (some ⟨b2, 0, none⟩)), (5, .pointer (some ⟨b5, 0, none⟩)), (8, .slice a ms.length c), (9, .int .i64 ms.length), (10, .int .i64 q.i)]) (fun q => .hb b2 29 [v] :: .hb b5 65 [.slice q.a q.ms.length q.c] :: ol 64 q.a q.c q.ms :: stars oM q.ms :: H) (fun q => q.i ≤ ms.length ∧ q.ms.map Mg.d = (ms.map Mg.d).take q.i) (fun q => ms.length - q.i) ⟨0, none, 0, []⟩ ⟨Nat.zero_le _, by simp⟩ ?_ (he := ?_)
  rotate_left
  · refine Ent.cons (by exact rm) (Ent.cons (by exact rm) ?_)
    exact Ent.nilS.trans (Ent.head stars_nil)
  rintro ⟨i, oa, oc, os⟩ ⟨h1, h2⟩
  simp only at h1 h2 ⊢
  have hol : os.length = i := by
    have := congrArg List.length h2
    simp only [List.length_map, List.length_take] at this
    omega
  refine sx ?_
  refine s_if rfl (fun t1 => ?_) (fun t1 => ?_)
  · obtain ⟨m, hm⟩ := get_lt ms i (by omega)
    have hmg := hx.el m (List.mem_of_getElem? hm)
    obtain ⟨y1, y2, y3⟩ := hz m (List.mem_of_getElem? hm)
    have hlo := hmg.lo
    have hhi := hmg.hi
    have hvv := hmg.v
    refine sx ?_
    refine s_alloc fun b7 => ?_
    refine sx ?_
    refine s_drU (.hb b7 64 (Cel.f m) :: .hb b5 65 [.slice oa os.length oc] :: H) (.one true 0 (.one true 1 (.one true 3 (.one true 4 (.one true 6 (.one true 7 (.one false 2 (.one true 9 (.one false 5 (.one false 8 .nil)))))))))) (.one false 10 (.one true 11 (.one false 12 (.one true 13 (.one false 14 .nil))))) [10, 12, 14] #[true, true, true, true, true, true, true, true, true, true, false, false, false, false, false] mixed (by kernel_rfl) ?_
    refine sx ?_
    refine s_call rfl (copied_s (xs := m.lo) (by exact rby) y1) ?_
    rintro _ _ ⟨a5, rfl, rfl⟩
    refine ⟨chk_held (by exact ent), ?_⟩
    refine sx ?_
    refine s_call rfl (copied_s (xs := m.hi) (by exact rby) y2) ?_
    rintro _ _ ⟨a8, rfl, rfl⟩
    refine ⟨chk_held (by exact ent), ?_⟩
    refine sx ?_
    refine s_call rfl (copied_s (xs := m.v) (by exact rby) y3) ?_
    rintro _ _ ⟨a11, rfl, rfl⟩
    refine ⟨chk_held (by exact ent), ?_⟩
    refine sx ?_
    refine s_bar ?_
    refine sx ?_
    refine s_bsl [(⟨m.st, m.kd, a5, m.lo.length, m.lo, a8, m.hi.length, m.hi, a11, m.v.length, m.v⟩ : Mg)] rfl rfl fun b42 => ?_
    refine s_app (xs := os) (ys := [(⟨m.st, m.kd, a5, m.lo.length, m.lo, a8, m.hi.length, m.hi, a11, m.v.length, m.v⟩ : Mg)]) ?_ (hby := by simp only [List.length_cons, List.length_nil]; omega)
    intro a4 c4
    refine sx ?_
    refine s_again ⟨i + 1, a4, c4, os ++ [⟨m.st, m.kd, a5, m.lo.length, m.lo, a8, m.hi.length, m.hi, a11, m.v.length, m.v⟩]⟩ ⟨by simp only; omega, ?_⟩ (by simp only; omega) (he := ?_)
    · simp only [List.map_append]
      rw [h2, snocT (get_map (f := Mg.d) hm)]
      rfl
    · refine Ent.cons (by exact rm) (Ent.cons (by exact rm) (Ent.cons (by exact rm) ?_))
      exact Ent.trans (H' := ob a5 m.lo.length m.lo :: ob a8 m.hi.length m.hi :: ob a11 m.v.length m.v :: stars oM os :: H) (by exact ent) (stars_snoc (f := oM) (s := ⟨m.st, m.kd, a5, m.lo.length, m.lo, a8, m.hi.length, m.hi, a11, m.v.length, m.v⟩))
  obtain rfl : i = ms.length := by omega
  rw [List.take_of_length_le (by simp)] at h2
  refine sx ?_
  exact s_ret1 rfl rfl ⟨b2, b5, oa, oc, os, rfl, h2, rfl⟩
end Go.Sx
