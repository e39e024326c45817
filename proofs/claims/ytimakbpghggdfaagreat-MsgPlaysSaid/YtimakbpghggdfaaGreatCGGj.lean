/- Part of a proof: several parts of a walk, one behind the other. -/
import Derived.Test.YtimakbpghggdfaaGreatCGDj
import Derived.Test.YtimakbpghggdfaaGreatCV7j
import Derived.Test.YtimakbpghggdfaaGreatCW2
namespace Go.Sx
open Go Go.Proofs
set_option maxRecDepth 10000
/-- Not an interface. -/
class NiT (P : Program) (T : TypeId) : Prop where
  ok : (match P.underlying T with | some (.interface _) => false | some _ => true | none => false) = true
instance : NiT Tryz.prog 91 := ⟨by kernel_rfl⟩
section
variable {P : Program} {S : World → Prop} {l : List (Nat × Value)} {d : Option Tmp} {ty : TypeId} {pos : String} {af : Array Edge} {g : Option (Nat × Bool)}
theorem run_taT {T X : TypeId} {v : Value} {w : World} (h : NiT P T) : (Instr.typeAssert (.iface T v) X T true).run P w = .ok (.tuple #[v, .bool true]) w := by
  have h1 := h.ok
  rcases hu : P.underlying T with _ | u
  · rw [hu] at h1; cases h1
  · rw [hu] at h1
    cases u <;> simp_all [Instr.typeAssert, run_underlying hu]
theorem run_taF {T U X : TypeId} {v z : Value} {w : World} (h : NiT P T) (hz : ∀ w, (zeroValue T).run P w = .ok z w) (hne : U ≠ T) : (Instr.typeAssert (.iface U v) X T true).run P w = .ok (.tuple #[z, .bool false]) w := by
  have h1 := h.ok
  rcases hu : P.underlying T with _ | u
  · rw [hu] at h1; cases h1
  · rw [hu] at h1
    cases u <;> simp_all [Instr.typeAssert, run_underlying hu]
theorem run_taN {T X : TypeId} {z : Value} {w : World} (h : NiT P T) (hz : ∀ w, (zeroValue T).run P w = .ok z w) : (Instr.typeAssert .nilIface X T true).run P w = .ok (.tuple #[z, .bool false]) w := by
  have h1 := h.ok
  rcases hu : P.underlying T with _ | u
  · rw [hu] at h1; cases h1
  · rw [hu] at h1
    cases u <;> simp_all [Instr.typeAssert, run_underlying hu]
theorem y_taT {x : Operand} {T X : TypeId} [h : NiT P T] {v : Value} (hx : ev l x = some (.iface T v)) : Y P S ⟨d, .typeAssert x X T true, ty, pos, af, g⟩ l (.tuple #[v, .bool true]) := .mk fun w _ ρ hρ => by
  simp [execOp, hρ _ _ hx, run_taT (w := w) (X := X) (v := v) h]
theorem y_taF {x : Operand} {T U X : TypeId} [h : NiT P T] {v z : Value} [hz : ZeT P T z] (hx : ev l x = some (.iface U v)) (hne : U ≠ T) : Y P S ⟨d, .typeAssert x X T true, ty, pos, af, g⟩ l (.tuple #[z, .bool false]) := .mk fun w _ ρ hρ => by
  simp [execOp, hρ _ _ hx, run_taF (w := w) (X := X) (v := v) h hz.run hne]
theorem y_taN {x : Operand} {T X : TypeId} [h : NiT P T] {z : Value} [hz : ZeT P T z] (hx : ev l x = some .nilIface) : Y P S ⟨d, .typeAssert x X T true, ty, pos, af, g⟩ l (.tuple #[z, .bool false]) := .mk fun w _ ρ hρ => by
  simp [execOp, hρ _ _ hx, run_taN (w := w) (X := X) h hz.run]
end
section
variable {S : World → Prop} {l : List (Nat × Value)} {d : Option Tmp} {ty : TypeId} {pos : String} {af : Array Edge} {g : Option (Nat × Bool)}
abbrev putV0 : Value := .agg #[.slice none 0 0, .slice none 0 0]
theorem y_taP {x : Operand} {X : TypeId} {m : Mg} (hk : m.kd ≠ 1) (hx : ev l x = some (mntV m)) : Y Tryz.prog S ⟨d, .typeAssert x X 91 true, ty, pos, af, g⟩ l (.tuple #[putV0, .bool false]) := by
  unfold mntV at hx
  rw [if_neg hk] at hx
  split at hx
  · exact y_taF hx (by decide)
  · split at hx
    · exact y_taF hx (by decide)
    · exact y_taN hx
end
variable {w0 : World} {H : List Ck}
/-- The value that is told. -/
def valM : Option (Option Bs) → Bs
  | some (some v) => v
  | _ => []
def isM : Option (Option Bs) → Bool
  | some (some _) => true
  | _ => false
set_option maxHeartbeats 2000000 in
theorem mget_s {a a2 : Option Addr} {c c2 : Nat} {ms : List Mg} {key : Bs} (hx : RMs w0 H a c ms) (hy : RBy w0 H a2 c2 key) (hz : ∀ m ∈ ms, m.lo.length ≤ 140737488355327 ∧ m.v.length ≤ 140737488355328) :
    FnS Tryz.prog w0 H 14 #[.slice a ms.length c, .slice a2 key.length c2] (fun v H' => ∃ va vc, v = .tuple #[.bool (getM (ms.map Mg.d) key).isSome, .bool (isM (getM (ms.map Mg.d) key)), .slice va (valM (getM (ms.map Mg.d) key)).length vc] ∧ H' = ob va vc (valM (getM (ms.map Mg.d) key)) :: H) := by
  refine fns_enter Tryz.func14 rfl rfl rfl ?_
  have hms := hx.sl
  refine s_kn (Kn.sl hms) fun l1 => ?_
  simp only [maxLen] at l1
  refine sx ?_
  refine s_loop (fun k : Nat => [(0, .slice a ms.length c), (1, .slice a2 key.length c2), (7, .int .i64 ((k : Int) - 1))]) (fun _ => H) (fun k => k ≤ ms.length ∧ getM ((ms.drop k).map Mg.d) key = none) (fun k => k) ms.length ⟨Nat.le_refl _, by rw [List.drop_length]; rfl⟩ ?_
  rintro k ⟨hk, hg⟩
  refine sx ?_
  refine s_if rfl (fun t1 => ?_) (fun t1 => ?_)
  · obtain ⟨j, rfl⟩ : ∃ j, k = j + 1 := ⟨k - 1, by omega⟩
    obtain ⟨m, hm⟩ := get_lt ms j (by omega)
    have hrm := hx.el m (List.mem_of_getElem? hm)
    obtain ⟨z1, z2⟩ := hz m (List.mem_of_getElem? hm)
    have hdm : getM ((ms.drop j).map Mg.d) key = if hasB (saidR m.d) key = true then some (if m.kd = 1 then some m.v else none) else none := by
      rw [dropG hm, List.map_cons, getM, hg]
    have hall : getM ((ms.drop j).map Mg.d) key ≠ none → getM (ms.map Mg.d) key = getM ((ms.drop j).map Mg.d) key := fun h => by
      conv => lhs; rw [← List.take_append_drop j ms, List.map_append, getM_app]
      cases hq : getM ((ms.drop j).map Mg.d) key with
      | none => exact absurd hq h
      | some o => rfl
    refine s_rwC (t := 7) (v' := .int .i64 (j : Int)) rfl (ci (by omega)) ?_
    refine sx ?_
    refine s_call rfl (msaid_s (m := m) (by exact rmg) z1) ?_
    rintro _ _ ⟨r, a', c', xs, rfl, hrd, rfl, hrr⟩
    refine ⟨chk_seq, ?_⟩
    refine sx ?_
    refine s_callV rfl (ohas_s (r := r) (key := key) hrr (by exact rby)) ?_
    rw [hrd]
    refine sx ?_
    refine s_cond rfl (fun t2 => ?_) (fun t2 => ?_)
    · have t2' : ¬ hasB (saidR m.d) key = true := by simpa using t2
      refine sx ?_
      refine s_again j ⟨by omega, by rw [hdm, if_neg t2']⟩ (by omega)
    · have t2' : hasB (saidR m.d) key = true := by simpa using t2
      rw [if_pos t2'] at hdm
      have hall := hall (by rw [hdm]; simp)
      rw [hdm] at hall
      rw [hall]
      refine sx ?_
      refine s_callV rfl (mmeant_s (m := m)) ?_
      by_cases hk1 : m.kd = 1
      · rw [if_pos hk1]
        rw [show mntV m = .iface 91 (.agg #[.slice m.la m.lo.length m.lc, .slice m.va m.v.length m.vc]) by unfold mntV; rw [if_pos hk1]]
        refine s_yS rfl rfl rfl (y_taT rfl) ?_
        refine sx ?_
        refine s_alloc fun b8 => ?_
        refine sx ?_
        have hmv : RBy w0 H m.va m.vc m.v := hrm.v
        refine s_call rfl (mcopied_s (xs := m.v) (by exact rby) z2) ?_
        rintro _ _ ⟨a1, rfl, rfl⟩
        refine ⟨chk_seq, ?_⟩
        refine sx ?_
        exact s_ret3 rfl rfl rfl rfl ⟨a1, m.v.length, rfl, rfl⟩ (by exact ent)
      · rw [if_neg hk1]
        refine s_yS rfl rfl rfl (y_taP hk1 rfl) ?_
        refine sx ?_
        refine s_alloc fun b8 => ?_
        refine sx ?_
        exact s_ret3 rfl rfl rfl rfl ⟨none, 0, rfl, rfl⟩ (Ent.trans (show Ent _ H by exact ent) Ent.nilS)
  · obtain rfl : k = 0 := by omega
    rw [List.drop_zero] at hg
    rw [hg]
    refine sx ?_
    exact s_ret3 rfl rfl rfl rfl ⟨none, 0, rfl, rfl⟩ (show Ent H (ob none 0 [] :: H) from Ent.nilS)
end Go.Sx
namespace Go.Sx
open Go Go.Proofs
set_option maxRecDepth 10000
variable {w0 : World} {H : List Ck}
theorem rev_end {xs ms : List Mg} {i : Nat} (hl : xs.length = ms.length) (hi : ms.length ≤ 2 * i + 1)
    (h : ∀ k, k < ms.length → xs[k]? = if k < i ∨ ms.length ≤ k + i then ms[ms.length - 1 - k]? else ms[k]?) : xs = ms.reverse := by
  apply List.ext_getElem?
  intro k
  by_cases hk : k < ms.length
  · rw [h k hk, List.getElem?_reverse hk]
    split
    · rfl
    · rename_i g
      have : ms.length - 1 - k = k := by omega
      rw [this]
  · rw [List.getElem?_eq_none (by omega), List.getElem?_eq_none (by rw [List.length_reverse]; omega)]
set_option maxHeartbeats 1000000 in
theorem reverse_s {a : Option Addr} {c : Nat} {ms : List Mg} (hn : ms.length ≤ 1099511627776) :
    FnS Tryz.prog w0 (ol 35 a c ms :: H) 53 #[.slice a ms.length c] (fun v H' => v = .tuple #[] ∧ H' = ol 35 a c ms.reverse :: H) := by
  refine fns_enter Tryz.func53 rfl rfl rfl ?_
  refine sx ?_
  refine s_loop (fun m : Nat × List Mg => [(0, .slice a ms.length c), (2, .int .i64 m.1), (3, .int .i64 ((ms.length : Int) - 1 - (m.1 : Int)))]) (fun m => ol 35 a c m.2 :: H)
    (fun m => m.2.length = ms.length ∧ m.1 ≤ ms.length ∧ ∀ k, k < ms.length → m.2[k]? = if k < m.1 ∨ ms.length ≤ k + m.1 then ms[ms.length - 1 - k]? else ms[k]?) (fun m => ms.length - m.1) (0, ms) ⟨rfl, Nat.zero_le _, fun k hk => by simp only; rw [if_neg (by omega)]⟩ ?_
  rintro ⟨i, xs⟩ ⟨hl, hil, hx⟩
  simp only at hl hil hx ⊢
  refine sx ?_
  refine s_if rfl (fun t1 => ?_) (fun t1 => ?_)
  · have t1 : (i : Int) < (ms.length : Int) - 1 - (i : Int) := t1
    refine s_kn (φ := ∃ ad, a = some ad) (fun w hw => own_gA (c := c) (Sat.ownOf (c' := ol 35 a c xs) .hd hw) (by omega)) ?_
    rintro ⟨ad, rfl⟩
    obtain ⟨x, hxi⟩ := get_lt xs i (by omega)
    obtain ⟨j, hj⟩ : ∃ j, j = ms.length - 1 - i := ⟨_, rfl⟩
    obtain ⟨y, hyj⟩ := get_lt xs j (by omega)
    refine s_rwC (t := 3) (v' := .int .i64 (j : Int)) rfl (ci (by omega)) ?_
    rw [show (Value.slice (some ad) ms.length c) = Value.slice (some ad) xs.length c by rw [hl]]
    apply s_joinU
    intro key
    have stp : StopAt 2 := trivial
    have hh : ∀ ys : List Mg, RSl w0 (ol 35 (some ad) c ys :: H) (some ad) c ys := fun ys => RSl.hd
    refine sx ?_; refine s_drH (([] : List Ck)) (.one true 0 (.one true 1 (.one true 2 (.one true 3 (.one true 4 (.one true 5 (.one true 6 (.one true 8 (.one true 9 (.one true 10 (.alt (.one false 7 (.one false 11 (.one true 12 (.one false 13 (.one true 14 (.one false 15 .nil)))))) (.one false 11 (.one false 7 (.one true 12 (.one false 13 (.one true 14 (.one false 15 .nil))))))))))))))))) mixed (by kernel_rfl) ?_; refine sx ?_
    refine s_alt ?_ ?_
    · refine s_yA rfl rfl (by exact yy) ?_ (chk_held Ent.nil)
      refine s_yA rfl rfl (by exact yy) ?_ (chk_held Ent.nil)
      refine sx1 ?_
      refine s_setA (i := i) y rfl rfl (by exact at_) rfl (by omega) ?_ (hk := chk_held Ent.nil)
      refine sx1 ?_
      refine s_setA (i := j) x rfl rfl (by exact at_) rfl (by rw [List.length_set]; omega) ?_ (hk := chk_held Ent.nil)
      refine sxs ?_
      refine s_sub (l' := [(0, .slice (some ad) xs.length c), (2, .int .i64 i), (3, .int .i64 j)]) ?_ (by repeat (first | exact trivial | refine And.intro (by first | exact rfl | exact congrArg some (ci (by omega))) ?_))
      exact key.out
    · refine s_yA rfl rfl (by exact yy) ?_ (chk_held Ent.nil)
      refine s_yA rfl rfl (by exact yy) ?_ (chk_held Ent.nil)
      refine sx1 ?_
      refine s_setA (i := i) y rfl rfl (by exact at_) rfl (by omega) ?_ (hk := chk_held Ent.nil)
      refine sx1 ?_
      refine s_setA (i := j) x rfl rfl (by exact at_) rfl (by rw [List.length_set]; omega) ?_ (hk := chk_held Ent.nil)
      refine sxs ?_
      refine s_sub (l' := [(0, .slice (some ad) xs.length c), (2, .int .i64 i), (3, .int .i64 j)]) ?_ (by repeat (first | exact trivial | refine And.intro (by first | exact rfl | exact congrArg some (ci (by omega))) ?_))
      exact key.out
    rw [show (Value.slice (some ad) xs.length c) = Value.slice (some ad) ms.length c by rw [hl]]
    refine sx ?_
    refine s_rwQ (t := 3) (v' := .int .i64 ((ms.length : Int) - 1 - ((i + 1 : Nat) : Int))) rfl (ci (by omega)) ?_
    refine s_again ⟨i + 1, (xs.set i y).set j x⟩ ⟨by simp only [List.length_set]; exact hl, by simp only; omega, fun k hk => ?_⟩ (by simp only; omega) (he := by exact entq)
    simp only
    have hi2 := hx i (by omega)
    have hj2 := hx j (by omega)
    rw [if_neg (by omega)] at hi2 hj2
    rw [hxi] at hi2
    rw [hyj] at hj2
    by_cases e1 : k = j
    · subst e1
      rw [List.getElem?_set_self (by rw [List.length_set]; omega), if_pos (by omega), show ms.length - 1 - k = i by omega]
      exact hi2
    · rw [List.getElem?_set_ne (Ne.symm e1)]
      by_cases e2 : k = i
      · subst e2
        rw [List.getElem?_set_self (by omega), if_pos (by omega), ← hj]
        exact hj2
      · rw [List.getElem?_set_ne (Ne.symm e2), hx k hk]
        by_cases g : k < i ∨ ms.length ≤ k + i
        · rw [if_pos g, if_pos (by omega)]
        · rw [if_neg g, if_neg (by omega)]
  · have t1 : ¬ (i : Int) < (ms.length : Int) - 1 - (i : Int) := t1
    have e : xs = ms.reverse := rev_end (i := i) hl (by omega) hx
    subst e
    refine sx ?_
    exact s_end0 rfl ⟨rfl, rfl⟩
end Go.Sx
namespace Go.Sx
open Go Go.Proofs
set_option maxRecDepth 10000
variable {w0 : World} {H : List Ck}
/-- A message says something that no later one says. -/
def KeepM (m : MD) (r : List MD) : Prop := ∃ key, hasB (saidR m) key = true ∧ getM r key = none
open Classical in
noncomputable def setlL : List MD → List MD
  | [] => []
  | m :: r => if KeepM m r then m :: setlL r else setlL r
theorem setl_yes {m : MD} {r : List MD} (h : KeepM m r) : setlL (m :: r) = m :: setlL r := by rw [setlL, if_pos h]
theorem setl_no {m : MD} {r : List MD} (h : ¬ KeepM m r) : setlL (m :: r) = setlL r := by rw [setlL, if_neg h]
/-- What is said by messages so far. -/
structure OvSt (r : List MD) (over : List T3) : Prop where
  ov : SepR over
  on : ∀ key, inU over key ↔ getM r key ≠ none
theorem OvSt.nil : OvSt [] [] := ⟨trivial, fun key => by simp [inU, getM]⟩
theorem OvSt.keep {r : List MD} {over : List T3} {m : MD} (h : OvSt r over) : KeepM m r ↔ woR (saidR m) over ≠ [] := by
  rw [Ne, wo_nil h.ov (said_form m) (said_fin m)]
  constructor
  · rintro ⟨key, h1, h2⟩ g
    exact (h.on key).1 (g key h1) h2
  · intro g
    refine Classical.byContradiction fun k => g fun key hk => (h.on key).2 fun e => k ⟨key, hk, e⟩
theorem OvSt.skip {r : List MD} {over : List T3} {m : MD} (h : OvSt r over) (hk : ¬ KeepM m r) : OvSt (m :: r) over := ⟨h.ov, fun key => by
  rw [getM_cons, if_neg (fun g => hk ⟨key, g.2, g.1⟩)]; exact h.on key⟩
theorem OvSt.put {r : List MD} {over c : List T3} {m : MD} (h : OvSt r over) (hc : IsCv (over ++ [saidR m]) c) : OvSt (m :: r) c := ⟨hc.1, over_on h.on hc⟩
theorem qk_said {m : MD} {k : Nat} (h1 : m.lo.length + 1 ≤ k) (h2 : m.hi.length ≤ k) : QK k (saidR m) := by
  unfold saidR
  split
  · exact ⟨by simp only; omega, by simp only [List.length_append, List.length_cons, List.length_nil]; omega⟩
  · split
    · exact ⟨by simp only; omega, by simp only; omega⟩
    · exact ⟨Nat.zero_le _, Nat.zero_le _⟩
abbrev SdG (m : Mg) (H : List Ck) (w0 : World) : Value → List Ck → Prop := fun v H' => ∃ (r : Rg) (a' : Option Addr) (c' : Nat) (xs : Bs), v = .agg r.cells.toArray ∧ r.d = saidR m.d ∧ H' = ob a' c' xs :: H ∧ ∀ H0, RMg w0 H0 m → RRg w0 (ob a' c' xs :: H0) r
theorem msaidG_s {m : Mg} (hm : RMg w0 H m) (hl : m.lo.length ≤ 140737488355327) : FnS Tryz.prog w0 H 45 #[.agg m.cells.toArray] (SdG m H w0) := by
  refine fns_enter Tryz.func45 rfl rfl rfl ?_
  have h1 := hm.lo
  have h2 := hm.hi
  refine sx ?_
  refine s_boxA rfl fun b1 => ?_
  refine sx ?_
  refine s_alloc fun b2 => ?_
  refine sx ?_
  refine s_callV rfl (mmeant_s (m := m)) ?_
  unfold mntV
  by_cases t1 : m.kd = 1
  · have e : saidR m.d = (m.lo, m.lo ++ [0], false) := if_pos (.inl t1)
    rw [if_pos t1]
    refine sx ?_
    refine s_yS rfl rfl rfl (y_neI rfl) ?_
    refine sx ?_
    refine s_inv rfl (psays_s (xs := m.lo) (by exact rby) hl) ?_
    rintro _ _ ⟨a', c', rfl, rfl⟩
    refine ⟨chk_seq, ?_⟩
    refine sx ?_
    exact s_retc rfl rfl (by exact at_) rfl ⟨⟨m.la, m.lc, m.lo, a', c', m.lo ++ [0], false⟩, a', c', m.lo ++ [0], rfl, e.symm, rfl, fun H0 h => ⟨h.lo.tl, RBy.hd⟩⟩ (by exact ent)
  rw [if_neg t1]
  by_cases t2 : m.kd = 2
  · have e : saidR m.d = (m.lo, m.lo ++ [0], false) := if_pos (.inr t2)
    rw [if_pos t2]
    refine sx ?_
    refine s_yS rfl rfl rfl (y_neI rfl) ?_
    refine sx ?_
    refine s_inv rfl (tsays_s (xs := m.lo) (by exact rby) hl) ?_
    rintro _ _ ⟨a', c', rfl, rfl⟩
    refine ⟨chk_seq, ?_⟩
    refine sx ?_
    exact s_retc rfl rfl (by exact at_) rfl ⟨⟨m.la, m.lc, m.lo, a', c', m.lo ++ [0], false⟩, a', c', m.lo ++ [0], rfl, e.symm, rfl, fun H0 h => ⟨h.lo.tl, RBy.hd⟩⟩ (by exact ent)
  rw [if_neg t2]
  have e0 : saidR m.d = if m.kd = 3 then (m.lo, m.hi, false) else t30 := if_neg (fun h => h.elim t1 t2)
  by_cases t3 : m.kd = 3
  · have e : saidR m.d = (m.lo, m.hi, false) := by rw [e0, if_pos t3]
    rw [if_pos t3]
    refine sx ?_
    refine s_yS rfl rfl rfl (y_neI rfl) ?_
    refine sx ?_
    refine s_inv rfl (csays_s (xs := m.lo) (ys := m.hi)) ?_
    rintro _ _ ⟨rfl, rfl⟩
    refine ⟨chk_seq, ?_⟩
    refine sx ?_
    exact s_retc rfl rfl (by exact at_) rfl ⟨⟨m.la, m.lc, m.lo, m.ha, m.hc, m.hi, false⟩, none, 0, [], rfl, e.symm, rfl, fun H0 h => ⟨h.lo.tl, h.hi.tl⟩⟩ (Ent.addNil (by exact ent))
  rw [if_neg t3]
  rw [if_neg t3] at e0
  refine sx ?_
  refine s_yS rfl rfl rfl (y_neN rfl) ?_
  refine sx ?_
  exact s_retc rfl rfl (by exact at_) rfl ⟨rg0, none, 0, [], rfl, e0.symm, rfl, fun H0 h => ⟨RBy.nil, RBy.nil⟩⟩ (Ent.addNil (by exact ent))
structure SeI where
  k : Nat
  oa : Option Addr
  oc : Nat
  os : List Rg
  xa : Option Addr
  xc : Nat
  xs : List Mg
set_option maxHeartbeats 2000000 in
theorem msettle_s {a : Option Addr} {c : Nat} {ms : List Mg} (hx : RMs w0 H a c ms) (hl : ms.length ≤ 549755813888) (hz : ∀ m ∈ ms, m.lo.length ≤ 140737488355327 ∧ m.hi.length ≤ 140737488355328 ∧ m.v.length ≤ 140737488355328) :
    FnS Tryz.prog w0 H 17 #[.slice a ms.length c] (fun v H' => ∃ a' c' ls, v = .slice a' (ls : List Mg).length c' ∧ ls.map Mg.d = setlL (ms.map Mg.d) ∧ H' = ol 35 a' c' ls :: stars oM ls :: H) := by
  refine fns_enter Tryz.func17 rfl rfl rfl ?_
  have hsl := hx.sl
  refine s_kn (Kn.sl hsl) fun l1 => ?_
  simp only [maxLen] at l1
  refine sx ?_
  refine s_loop (fun q : SeI => [(0, .slice a ms.length c), (3, .slice q.oa q.os.length q.oc), (4, .slice q.xa q.xs.length q.xc), (5, .int .i64 ((q.k : Int) - 1))]) (fun q => ol 53 q.oa q.oc q.os :: stars oRs q.os :: ol 35 q.xa q.xc q.xs :: stars oM q.xs :: H)
    (fun q => q.k ≤ ms.length ∧ q.os.length ≤ ms.length - q.k ∧ q.xs.length ≤ ms.length - q.k ∧ OvSt ((ms.drop q.k).map Mg.d) (q.os.map Rg.d) ∧ q.xs.reverse.map Mg.d = setlL ((ms.drop q.k).map Mg.d) ∧ ∀ o ∈ q.os, QK 140737488355328 o.d) (fun q => q.k)
    ⟨ms.length, none, 0, [], none, 0, []⟩ ⟨Nat.le_refl _, Nat.zero_le _, Nat.zero_le _, by rw [List.drop_length]; exact OvSt.nil, by rw [List.drop_length]; rfl, fun o h => by cases h⟩ ?_ (he := ?_)
  · rintro ⟨k, oa, oc, os, xa, xc, xs⟩ ⟨hk, hol, hxl, hov, hxd, hqk⟩
    simp only at hk hol hxl hov hxd hqk ⊢
    refine sx ?_
    refine s_if rfl (fun t1 => ?_) (fun t1 => ?_)
    · have t1 : 0 ≤ (k : Int) - 1 := t1
      obtain ⟨j, rfl⟩ : ∃ j, k = j + 1 := ⟨k - 1, by omega⟩
      obtain ⟨m, hm⟩ := get_lt ms j (by omega)
      have hmm := List.mem_of_getElem? hm
      have hrm := hx.el m hmm
      obtain ⟨z1, z2, z3⟩ := hz m hmm
      have hdr : (ms.drop j).map Mg.d = m.d :: (ms.drop (j + 1)).map Mg.d := by rw [dropG hm, List.map_cons]
      have hms2 : RSl w0 (ol 53 oa oc os :: stars oRs os :: ol 35 xa xc xs :: stars oM xs :: H) a c ms := hsl.tl.tl.tl.tl
      have hrm2 : RMg w0 (ol 53 oa oc os :: stars oRs os :: ol 35 xa xc xs :: stars oM xs :: H) m := hrm.tl.tl.tl.tl
      refine s_rwC (t := 5) (v' := .int .i64 (j : Int)) rfl (ci (by omega)) ?_
      refine sx ?_
      refine s_call rfl (msaidG_s (m := m) hrm2 z1) ?_
      rintro _ _ ⟨r, a', c', ys, rfl, hrd, rfl, hrG⟩
      have hrr := hrG _ hrm2
      refine ⟨chk_seq, ?_⟩
      have hqr : QK 140737488355328 r.d := by rw [hrd]; exact qk_said (m := m.d) (by show m.lo.length + 1 ≤ _; omega) z2
      refine sx ?_
      refine s_alloc fun b6 => ?_
      refine sx ?_
      refine s_call rfl (without_s (r := r) (os := os) hrr.tl RSl.hd.tl.tl (fun o ho => (RRg.st ho).tl.tl.tl) (by omega) hqr (fun o ho => hqk o ho)) ?_
      rintro _ _ ⟨wa, wc, ps, L, rfl, rfl, hps, hpl, _, _⟩
      refine ⟨chk_seq, ?_⟩
      refine sx ?_
      rw [hrd] at hps
      have hke := hov.keep (m := m.d)
      rw [← hps] at hke
      refine s_if rfl (fun t2 => ?_) (fun t2 => ?_)
      · have hkp : KeepM m.d ((ms.drop (j + 1)).map Mg.d) := hke.2 (fun g => by
          have : ps.length = 0 := by rw [← List.length_map (f := Rg.d), g]; rfl
          omega)
        have hms3 : RSl w0 (.star L :: .hb b6 53 r.cells :: ob a' c' ys :: ol 53 oa oc os :: stars oRs os :: ol 35 xa xc xs :: stars oM xs :: H) a c ms := hms2.tl.tl.tl
        have hrm3 : RMg w0 (.star L :: .hb b6 53 r.cells :: ob a' c' ys :: ol 53 oa oc os :: stars oRs os :: ol 35 xa xc xs :: stars oM xs :: H) m := hrm2.tl.tl.tl
        refine sx ?_
        refine s_call rfl (magain_s (m := m) hrm3 (by omega) z2 z3) ?_
        rintro _ _ ⟨m', rfl, hm', rfl⟩
        refine ⟨chk_seq, ?_⟩
        refine sx ?_
        refine s_bsl [m'] rfl rfl fun b30 => ?_
        refine sx ?_
        refine s_app (xs := xs) (ys := [m']) ?_ (hby := by simp only [List.length_cons, List.length_nil]; omega)
        intro xa2 xc2
        refine sx ?_
        refine s_bsl [r] rfl rfl fun b34 => ?_
        refine sx ?_
        refine s_app (xs := os) (ys := [r]) ?_ (hby := by simp only [List.length_cons, List.length_nil]; omega)
        intro oa2 oc2
        refine sx ?_
        have rr : RRg w0 (ob a' c' ys :: H) r := hrG H hrm
        refine s_entL (ol 53 oa2 oc2 (os ++ [r]) :: stars oRs os :: ob a' c' ys :: ol 35 xa2 xc2 (xs ++ [m']) :: stars oM (xs ++ [m']) :: H) ?_ ?_
        · refine Ent.trans (H' := ob m'.la m'.lc m'.lo :: ob m'.ha m'.hc m'.hi :: ob m'.va m'.vc m'.v :: stars oM xs :: ol 53 oa2 oc2 (os ++ [r]) :: stars oRs os :: ob a' c' ys :: ol 35 xa2 xc2 (xs ++ [m']) :: H) (by exact entq) ?_
          exact Ent.trans (stars_snoc (f := oM) (s := m')) (by exact entq)
        have hqa : ∀ q ∈ os ++ [r], QK 140737488355328 q.d := fun q hq => by
          rcases List.mem_append.1 hq with hq | hq
          · exact hqk q hq
          · rw [List.mem_singleton.1 hq]; exact hqr
        refine s_call rfl (pcoverO_s (rs := os ++ [r]) RSl.hd (by simp only [List.length_append, List.length_cons, List.length_nil]; omega) (fun q hq => ?_) hqa) ?_
        · rcases List.mem_append.1 hq with hq | hq
          · exact (RRg.st hq).tl
          · rw [List.mem_singleton.1 hq]
            exact ⟨rr.lo.ent (by exact ent), rr.hi.ent (by exact ent)⟩
        rintro _ _ ⟨na, nc, ns, rfl, rfl, hnl, hcv, hnk⟩
        refine ⟨chk_seq, ?_⟩
        refine sx ?_
        rw [List.map_append, List.map_cons, List.map_nil, hrd] at hcv
        refine s_again ⟨j, na, nc, ns, xa2, xc2, xs ++ [m']⟩ ⟨by simp only; omega, ?_, ?_, ?_, ?_, hnk _ hqa⟩ (by simp only; omega) (he := by exact entq)
        · simp only [List.length_append, List.length_cons, List.length_nil] at hnl ⊢; omega
        · simp only [List.length_append, List.length_cons, List.length_nil]; omega
        · rw [hdr]; exact hov.put hcv
        · rw [hdr, setl_yes hkp, List.reverse_append, List.map_append, ← hxd, ← hm']; rfl
      · have hkn : ¬ KeepM m.d ((ms.drop (j + 1)).map Mg.d) := fun g => hke.1 g (by
          have : ps = [] := List.length_eq_zero_iff.1 (by omega)
          rw [this]; rfl)
        refine sx ?_
        refine s_again ⟨j, oa, oc, os, xa, xc, xs⟩ ⟨by simp only; omega, by simp only; omega, by simp only; omega, ?_, ?_, hqk⟩ (by simp only; omega) (he := by exact entq)
        · rw [hdr]; exact hov.skip hkn
        · rw [hdr, setl_no hkn]; exact hxd
    · have t1 : ¬ 0 ≤ (k : Int) - 1 := t1
      obtain rfl : k = 0 := by omega
      rw [List.drop_zero] at hxd
      refine sx ?_
      refine s_entL (ol 35 xa xc xs :: (ol 53 oa oc os :: stars oRs os :: stars oM xs :: H)) (by exact entq) ?_
      refine s_call rfl (reverse_s (ms := xs) (by omega)) ?_
      rintro _ _ ⟨rfl, rfl⟩
      refine ⟨chk_seq, ?_⟩
      rw [show (Value.slice xa xs.length xc) = Value.slice xa xs.reverse.length xc by rw [List.length_reverse]]
      refine sx ?_
      refine s_ret1 rfl rfl ⟨xa, xc, xs.reverse, rfl, hxd, rfl⟩ ?_
      exact Ent.trans (H' := ol 35 xa xc xs.reverse :: stars oM xs :: H) (by exact entq) (Ent.head (stars_perm (List.reverse_perm xs).symm))
  · exact Ent.trans (stars_nil (f := oM)) (Ent.trans Ent.nilS (Ent.trans (stars_nil (f := oRs)) Ent.nilS))
end Go.Sx

