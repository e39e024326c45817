/- Of which keys a message says something; what messages do within a range; by the program. -/
import Derived.Test.YtpnhoafmlhlfgaaCB1j
import Derived.Test.YtpnhoafmlhlfgaaCV3j
import Derived.Test.YtpnhoafmlhlfgaaCO2
namespace Go.Sx
open Go Go.Proofs
set_option maxRecDepth 10000
variable {w0 : World} {H : List Ck}
/-- Of which keys. -/
def saidR (m : MD) : T3 := if m.kd = 1 ∨ m.kd = 2 then (m.lo, m.lo ++ [0], false) else if m.kd = 3 then (m.lo, m.hi, false) else t30
def mntV (m : Mg) : Value :=
  if m.kd = 1 then .iface 93 (.agg #[.slice m.la m.lo.length m.lc, .slice m.va m.v.length m.vc])
  else if m.kd = 2 then .iface 109 (.agg #[.slice m.la m.lo.length m.lc])
  else if m.kd = 3 then .iface 111 (.agg #[.slice m.la m.lo.length m.lc, .slice m.ha m.hi.length m.hc])
  else .nilIface
theorem mnext_s {a : Option Addr} {c : Nat} {xs : Bs} (ha : RBy w0 H a c xs) (hx : xs.length ≤ 140737488355327) : FnS Try.prog w0 H 119 #[.slice a xs.length c] (fun v H' => ∃ a' c', v = .slice a' (xs ++ [0]).length c' ∧ H' = ob a' c' (xs ++ [0]) :: H) := by
  refine fns_enter Try.func119 rfl rfl rfl ?_
  refine sx ?_
  refine s_rw (t := 6) (v' := .int .i64 ((xs.length + 1 : Nat) : Int)) rfl (ci (by omega)) ?_
  refine s_make rfl rfl (by omega) fun b => ?_
  refine sx ?_
  refine s_copy rfl rfl ?_ (ys := xs) (hk0 := by simp)
  have e : xs.take (List.replicate (xs.length + 1) (0 : UInt8)).length ++ (List.replicate (xs.length + 1) (0 : UInt8)).drop xs.length = xs ++ [0] := by
    rw [List.length_replicate, List.take_of_length_le (by omega), List.drop_replicate, show xs.length + 1 - xs.length = 1 by omega]
    rfl
  rw [e]
  refine sx ?_
  exact s_ret1 rfl rfl ⟨some b, xs.length + 1, by simp, rfl⟩
abbrev SysR (a : Option Addr) (c : Nat) (lo : Bs) (H : List Ck) : Value → List Ck → Prop := fun v H' => ∃ (a' : Option Addr) (c' : Nat), v = .agg (Rg.cells ⟨a, c, lo, a', c', lo ++ [0], false⟩).toArray ∧ H' = ob a' c' (lo ++ [0]) :: H
theorem psays_s {a a2 : Option Addr} {c n2 c2 : Nat} {xs : Bs} (ha : RBy w0 H a c xs) (hx : xs.length ≤ 140737488355327) : FnS Try.prog w0 H 118 #[.agg #[.slice a xs.length c, .slice a2 n2 c2]] (SysR a c xs H) := by
  refine fns_enter Try.func118 rfl rfl rfl ?_
  refine sx ?_
  refine s_boxA rfl fun b1 => ?_
  refine sx ?_
  refine s_alloc fun b2 => ?_
  refine sx ?_; refine s_drH (.hb b1 93 [.slice a xs.length c, .slice a2 n2 c2] :: H) (.one true 0 (.one true 1 (.one true 2 (.one true 3 (.one false 4 (.one true 5 (.one false 6 .nil))))))) mixed (by kernel_rfl) ?_; refine sx ?_
  refine s_call rfl (mnext_s (xs := xs) (by exact rby) hx) ?_
  rintro _ _ ⟨a4, c4, rfl, rfl⟩
  refine ⟨chk_held (by exact ent), ?_⟩
  refine sx ?_
  refine s_retc rfl rfl (by exact at_) rfl ⟨a4, c4, rfl, rfl⟩ (by exact ent)
theorem tsays_s {a : Option Addr} {c : Nat} {xs : Bs} (ha : RBy w0 H a c xs) (hx : xs.length ≤ 140737488355327) : FnS Try.prog w0 H 120 #[.agg #[.slice a xs.length c]] (SysR a c xs H) := by
  refine fns_enter Try.func120 rfl rfl rfl ?_
  refine sx ?_
  refine s_boxA rfl fun b1 => ?_
  refine sx ?_
  refine s_alloc fun b2 => ?_
  refine sx ?_; refine s_drH (.hb b1 109 [.slice a xs.length c] :: H) (.one true 0 (.one true 1 (.one true 2 (.one true 3 (.one false 4 (.one true 5 (.one false 6 .nil))))))) mixed (by kernel_rfl) ?_; refine sx ?_
  refine s_call rfl (mnext_s (xs := xs) (by exact rby) hx) ?_
  rintro _ _ ⟨a4, c4, rfl, rfl⟩
  refine ⟨chk_held (by exact ent), ?_⟩
  refine sx ?_
  refine s_retc rfl rfl (by exact at_) rfl ⟨a4, c4, rfl, rfl⟩ (by exact ent)
theorem csays_s {a a2 : Option Addr} {c c2 : Nat} {xs ys : Bs} : FnV Try.prog w0 H 121 #[.agg #[.slice a xs.length c, .slice a2 ys.length c2]] (.agg (Rg.cells ⟨a, c, xs, a2, c2, ys, false⟩).toArray) := by
  refine fns_enter Try.func121 rfl rfl rfl ?_
  refine sx ?_
  refine s_boxA rfl fun b1 => ?_
  refine sx ?_
  refine s_alloc fun b2 => ?_
  refine sx ?_
  exact s_retc rfl rfl (by exact at_) rfl ⟨rfl, rfl⟩ (by exact ent)
theorem mmeant_s {m : Mg} : FnV Try.prog w0 H 56 #[.agg m.cells.toArray] (mntV m) := by
  refine fns_enter Try.func56 rfl rfl rfl ?_
  refine sx ?_
  refine s_boxA rfl fun b1 => ?_
  refine sx ?_
  unfold mntV
  refine s_if rfl (fun t1 => ?_) (fun t1 => ?_)
  · rw [if_pos t1]
    refine sx ?_
    refine s_yS rfl rfl rfl (y_mkI rfl) ?_
    refine sx ?_
    exact s_ret1 rfl rfl ⟨rfl, rfl⟩
  rw [if_neg t1]
  refine sx ?_
  refine s_if rfl (fun t2 => ?_) (fun t2 => ?_)
  · rw [if_pos t2]
    refine sx ?_
    refine s_yS rfl rfl rfl (y_mkI rfl) ?_
    refine sx ?_
    exact s_ret1 rfl rfl ⟨rfl, rfl⟩
  rw [if_neg t2]
  refine sx ?_
  refine s_if rfl (fun t3 => ?_) (fun t3 => ?_)
  · rw [if_pos t3]
    refine sx ?_
    refine s_yS rfl rfl rfl (y_mkI rfl) ?_
    refine sx ?_
    exact s_ret1 rfl rfl ⟨rfl, rfl⟩
  rw [if_neg t3]
  refine sx ?_
  exact s_ret1 rfl rfl ⟨rfl, rfl⟩
abbrev SdR (m : Mg) (H : List Ck) (w0 : World) : Value → List Ck → Prop := fun v H' => ∃ (r : Rg) (a' : Option Addr) (c' : Nat) (xs : Bs), v = .agg r.cells.toArray ∧ r.d = saidR m.d ∧ H' = ob a' c' xs :: H ∧ RRg w0 (ob a' c' xs :: H) r
theorem msaid_s {m : Mg} (hm : RMg w0 H m) (hl : m.lo.length ≤ 140737488355327) : FnS Try.prog w0 H 54 #[.agg m.cells.toArray] (SdR m H w0) := by
  refine fns_enter Try.func54 rfl rfl rfl ?_
  have h1 := hm.lo
  have h2 := hm.hi
  refine sx ?_
  refine s_boxA rfl fun b1 => ?_
  refine sx ?_
  refine s_alloc fun b2 => ?_
  refine sx ?_
  refine s_callV rfl (mmeant_s (m := m)) ?_
  unfold mntV
  by_cases t1 : m.kd = 1
  · have e : saidR m.d = (m.lo, m.lo ++ [0], false) := if_pos (.inl t1)
    rw [if_pos t1]
    refine sx ?_
    refine s_yS rfl rfl rfl (y_neI rfl) ?_
    refine sx ?_
    refine s_inv rfl (psays_s (xs := m.lo) (by exact rby) hl) ?_
    rintro _ _ ⟨a', c', rfl, rfl⟩
    refine ⟨chk_seq, ?_⟩
    refine sx ?_
    exact s_retc rfl rfl (by exact at_) rfl ⟨⟨m.la, m.lc, m.lo, a', c', m.lo ++ [0], false⟩, a', c', m.lo ++ [0], rfl, e.symm, rfl, ⟨h1.tl, RBy.hd⟩⟩ (by exact ent)
  rw [if_neg t1]
  by_cases t2 : m.kd = 2
  · have e : saidR m.d = (m.lo, m.lo ++ [0], false) := if_pos (.inr t2)
    rw [if_pos t2]
    refine sx ?_
    refine s_yS rfl rfl rfl (y_neI rfl) ?_
    refine sx ?_
    refine s_inv rfl (tsays_s (xs := m.lo) (by exact rby) hl) ?_
    rintro _ _ ⟨a', c', rfl, rfl⟩
    refine ⟨chk_seq, ?_⟩
    refine sx ?_
    exact s_retc rfl rfl (by exact at_) rfl ⟨⟨m.la, m.lc, m.lo, a', c', m.lo ++ [0], false⟩, a', c', m.lo ++ [0], rfl, e.symm, rfl, ⟨h1.tl, RBy.hd⟩⟩ (by exact ent)
  rw [if_neg t2]
  have e0 : saidR m.d = if m.kd = 3 then (m.lo, m.hi, false) else t30 := if_neg (fun h => h.elim t1 t2)
  by_cases t3 : m.kd = 3
  · have e : saidR m.d = (m.lo, m.hi, false) := by rw [e0, if_pos t3]
    rw [if_pos t3]
    refine sx ?_
    refine s_yS rfl rfl rfl (y_neI rfl) ?_
    refine sx ?_
    refine s_inv rfl (csays_s (xs := m.lo) (ys := m.hi)) ?_
    rintro _ _ ⟨rfl, rfl⟩
    refine ⟨chk_seq, ?_⟩
    refine sx ?_
    exact s_retc rfl rfl (by exact at_) rfl ⟨⟨m.la, m.lc, m.lo, m.ha, m.hc, m.hi, false⟩, none, 0, [], rfl, e.symm, rfl, ⟨h1.tl, h2.tl⟩⟩ (Ent.addNil (by exact ent))
  rw [if_neg t3]
  rw [if_neg t3] at e0
  refine sx ?_
  refine s_yS rfl rfl rfl (y_neN rfl) ?_
  refine sx ?_
  exact s_retc rfl rfl (by exact at_) rfl ⟨rg0, none, 0, [], rfl, e0.symm, rfl, ⟨RBy.nil, RBy.nil⟩⟩ (Ent.addNil (by exact ent))
end Go.Sx
