/- Part of a proof: several parts of a walk, one behind the other. -/
import Derived.Test.YtpnhoafmlhlfgaaCGE
import Derived.Test.YtpnhoafmlhlfgaaCGC
namespace Go.Sx
open Go Go.Proofs
set_option maxRecDepth 10000
variable {w0 : World} {H : List Ck}
theorem rev_end {xs ms : List Mg} {i : Nat} (hl : xs.length = ms.length) (hi : ms.length ≤ 2 * i + 1)
    (h : ∀ k, k < ms.length → xs[k]? = if k < i ∨ ms.length ≤ k + i then ms[ms.length - 1 - k]? else ms[k]?) : xs = ms.reverse := by
  apply List.ext_getElem?
  intro k
  by_cases hk : k < ms.length
  · rw [h k hk, List.getElem?_reverse hk]
    split
    · rfl
    · rename_i g
      have : ms.length - 1 - k = k := by omega
      rw [this]
  · rw [List.getElem?_eq_none (by omega), List.getElem?_eq_none (by rw [List.length_reverse]; omega)]
end Go.Sx
namespace Go.Sx
open Go Go.Proofs
set_option maxRecDepth 10000
variable {w0 : World} {H : List Ck}
/-- A message says something that no later one says. -/
def KeepM (m : MD) (r : List MD) : Prop := ∃ key, hasB (saidR m) key = true ∧ getM r key = none
open Classical in
noncomputable def setlL : List MD → List MD
  | [] => []
  | m :: r => if KeepM m r then m :: setlL r else setlL r
theorem setl_yes {m : MD} {r : List MD} (h : KeepM m r) : setlL (m :: r) = m :: setlL r := by rw [setlL, if_pos h]
theorem setl_no {m : MD} {r : List MD} (h : ¬ KeepM m r) : setlL (m :: r) = setlL r := by rw [setlL, if_neg h]
/-- What is said by messages so far. -/
structure OvSt (r : List MD) (over : List T3) : Prop where
  ov : SepR over
  on : ∀ key, inU over key ↔ getM r key ≠ none
theorem OvSt.nil : OvSt [] [] := ⟨trivial, fun key => by simp [inU, getM]⟩
theorem OvSt.keep {r : List MD} {over : List T3} {m : MD} (h : OvSt r over) : KeepM m r ↔ woR (saidR m) over ≠ [] := by
  rw [Ne, wo_nil h.ov (said_form m) (said_fin m)]
  constructor
  · rintro ⟨key, h1, h2⟩ g
    exact (h.on key).1 (g key h1) h2
  · intro g
    refine Classical.byContradiction fun k => g fun key hk => (h.on key).2 fun e => k ⟨key, hk, e⟩
theorem OvSt.skip {r : List MD} {over : List T3} {m : MD} (h : OvSt r over) (hk : ¬ KeepM m r) : OvSt (m :: r) over := ⟨h.ov, fun key => by
  rw [getM_cons, if_neg (fun g => hk ⟨key, g.2, g.1⟩)]; exact h.on key⟩
theorem OvSt.put {r : List MD} {over c : List T3} {m : MD} (h : OvSt r over) (hc : IsCv (over ++ [saidR m]) c) : OvSt (m :: r) c := ⟨hc.1, over_on h.on hc⟩
theorem qk_said {m : MD} {k : Nat} (h1 : m.lo.length + 1 ≤ k) (h2 : m.hi.length ≤ k) : QK k (saidR m) := by
  unfold saidR
  split
  · exact ⟨by simp only; omega, by simp only [List.length_append, List.length_cons, List.length_nil]; omega⟩
  · split
    · exact ⟨by simp only; omega, by simp only; omega⟩
    · exact ⟨Nat.zero_le _, Nat.zero_le _⟩
abbrev SdG (m : Mg) (H : List Ck) (w0 : World) : Value → List Ck → Prop := fun v H' => ∃ (r : Rg) (a' : Option Addr) (c' : Nat) (xs : Bs), v = .agg r.cells.toArray ∧ r.d = saidR m.d ∧ H' = ob a' c' xs :: H ∧ ∀ H0, RMg w0 H0 m → RRg w0 (ob a' c' xs :: H0) r
theorem msaidG_s {m : Mg} (hm : RMg w0 H m) (hl : m.lo.length ≤ 140737488355327) : FnS Try.prog w0 H 54 #[.agg m.cells.toArray] (SdG m H w0) := by
  refine fns_enter Try.func54 rfl rfl rfl ?_
  have h1 := hm.lo
  have h2 := hm.hi
  refine sx ?_
  refine s_boxA rfl fun b1 => ?_
  refine sx ?_
  refine s_alloc fun b2 => ?_
  refine sx ?_
  refine s_callV rfl (mmeant_s (m := m)) ?_
  unfold mntV
  by_cases t1 : m.kd = 1
  · have e : saidR m.d = (m.lo, m.lo ++ [0], false) := if_pos (.inl t1)
    rw [if_pos t1]
    refine sx ?_
    refine s_yS rfl rfl rfl (y_neI rfl) ?_
    refine sx ?_
    refine s_inv rfl (psays_s (xs := m.lo) (by exact rby) hl) ?_
    rintro _ _ ⟨a', c', rfl, rfl⟩
    refine ⟨chk_seq, ?_⟩
    refine sx ?_
    exact s_retc rfl rfl (by exact at_) rfl ⟨⟨m.la, m.lc, m.lo, a', c', m.lo ++ [0], false⟩, a', c', m.lo ++ [0], rfl, e.symm, rfl, fun H0 h => ⟨h.lo.tl, RBy.hd⟩⟩ (by exact ent)
  rw [if_neg t1]
  by_cases t2 : m.kd = 2
  · have e : saidR m.d = (m.lo, m.lo ++ [0], false) := if_pos (.inr t2)
    rw [if_pos t2]
    refine sx ?_
    refine s_yS rfl rfl rfl (y_neI rfl) ?_
    refine sx ?_
    refine s_inv rfl (tsays_s (xs := m.lo) (by exact rby) hl) ?_
    rintro _ _ ⟨a', c', rfl, rfl⟩
    refine ⟨chk_seq, ?_⟩
    refine sx ?_
    exact s_retc rfl rfl (by exact at_) rfl ⟨⟨m.la, m.lc, m.lo, a', c', m.lo ++ [0], false⟩, a', c', m.lo ++ [0], rfl, e.symm, rfl, fun H0 h => ⟨h.lo.tl, RBy.hd⟩⟩ (by exact ent)
  rw [if_neg t2]
  have e0 : saidR m.d = if m.kd = 3 then (m.lo, m.hi, false) else t30 := if_neg (fun h => h.elim t1 t2)
  by_cases t3 : m.kd = 3
  · have e : saidR m.d = (m.lo, m.hi, false) := by rw [e0, if_pos t3]
    rw [if_pos t3]
    refine sx ?_
    refine s_yS rfl rfl rfl (y_neI rfl) ?_
    refine sx ?_
    refine s_inv rfl (csays_s (xs := m.lo) (ys := m.hi)) ?_
    rintro _ _ ⟨rfl, rfl⟩
    refine ⟨chk_seq, ?_⟩
    refine sx ?_
    exact s_retc rfl rfl (by exact at_) rfl ⟨⟨m.la, m.lc, m.lo, m.ha, m.hc, m.hi, false⟩, none, 0, [], rfl, e.symm, rfl, fun H0 h => ⟨h.lo.tl, h.hi.tl⟩⟩ (Ent.addNil (by exact ent))
  rw [if_neg t3]
  rw [if_neg t3] at e0
  refine sx ?_
  refine s_yS rfl rfl rfl (y_neN rfl) ?_
  refine sx ?_
  exact s_retc rfl rfl (by exact at_) rfl ⟨rg0, none, 0, [], rfl, e0.symm, rfl, fun H0 h => ⟨RBy.nil, RBy.nil⟩⟩ (Ent.addNil (by exact ent))
structure SeI where
  k : Nat
  oa : Option Addr
  oc : Nat
  os : List Rg
  xa : Option Addr
  xc : Nat
  xs : List Mg
end Go.Sx
