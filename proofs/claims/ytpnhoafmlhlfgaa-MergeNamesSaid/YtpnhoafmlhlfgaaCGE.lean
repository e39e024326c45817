/- Part of a proof: what messages make of a key, walked. -/
import Derived.Test.YtpnhoafmlhlfgaaCGD
import Derived.Test.YtpnhoafmlhlfgaaCW2j
namespace Go.Sx
open Go Go.Proofs
set_option maxRecDepth 10000
/-- Not an interface. -/
class NiT (P : Program) (T : TypeId) : Prop where
  ok : (match P.underlying T with | some (.interface _) => false | some _ => true | none => false) = true
instance : NiT Try.prog 93 := ⟨by kernel_rfl⟩
section
variable {P : Program} {S : World → Prop} {l : List (Nat × Value)} {d : Option Tmp} {ty : TypeId} {pos : String} {af : Array Edge} {g : Option (Nat × Bool)}
theorem run_taT {T X : TypeId} {v : Value} {w : World} (h : NiT P T) : (Instr.typeAssert (.iface T v) X T true).run P w = .ok (.tuple #[v, .bool true]) w := by
  have h1 := h.ok
  rcases hu : P.underlying T with _ | u
  · rw [hu] at h1; cases h1
  · rw [hu] at h1
    cases u <;> simp_all [Instr.typeAssert, run_underlying hu]
theorem run_taF {T U X : TypeId} {v z : Value} {w : World} (h : NiT P T) (hz : ∀ w, (zeroValue T).run P w = .ok z w) (hne : U ≠ T) : (Instr.typeAssert (.iface U v) X T true).run P w = .ok (.tuple #[z, .bool false]) w := by
  have h1 := h.ok
  rcases hu : P.underlying T with _ | u
  · rw [hu] at h1; cases h1
  · rw [hu] at h1
    cases u <;> simp_all [Instr.typeAssert, run_underlying hu]
theorem run_taN {T X : TypeId} {z : Value} {w : World} (h : NiT P T) (hz : ∀ w, (zeroValue T).run P w = .ok z w) : (Instr.typeAssert .nilIface X T true).run P w = .ok (.tuple #[z, .bool false]) w := by
  have h1 := h.ok
  rcases hu : P.underlying T with _ | u
  · rw [hu] at h1; cases h1
  · rw [hu] at h1
    cases u <;> simp_all [Instr.typeAssert, run_underlying hu]
theorem y_taT {x : Operand} {T X : TypeId} [h : NiT P T] {v : Value} (hx : ev l x = some (.iface T v)) : Y P S ⟨d, .typeAssert x X T true, ty, pos, af, g⟩ l (.tuple #[v, .bool true]) := .mk fun w _ ρ hρ => by
  simp [execOp, hρ _ _ hx, run_taT (w := w) (X := X) (v := v) h]
theorem y_taF {x : Operand} {T U X : TypeId} [h : NiT P T] {v z : Value} [hz : ZeT P T z] (hx : ev l x = some (.iface U v)) (hne : U ≠ T) : Y P S ⟨d, .typeAssert x X T true, ty, pos, af, g⟩ l (.tuple #[z, .bool false]) := .mk fun w _ ρ hρ => by
  simp [execOp, hρ _ _ hx, run_taF (w := w) (X := X) (v := v) h hz.run hne]
theorem y_taN {x : Operand} {T X : TypeId} [h : NiT P T] {z : Value} [hz : ZeT P T z] (hx : ev l x = some .nilIface) : Y P S ⟨d, .typeAssert x X T true, ty, pos, af, g⟩ l (.tuple #[z, .bool false]) := .mk fun w _ ρ hρ => by
  simp [execOp, hρ _ _ hx, run_taN (w := w) (X := X) h hz.run]
end
section
variable {S : World → Prop} {l : List (Nat × Value)} {d : Option Tmp} {ty : TypeId} {pos : String} {af : Array Edge} {g : Option (Nat × Bool)}
abbrev putV0 : Value := .agg #[.slice none 0 0, .slice none 0 0]
theorem y_taP {x : Operand} {X : TypeId} {m : Mg} (hk : m.kd ≠ 1) (hx : ev l x = some (mntV m)) : Y Try.prog S ⟨d, .typeAssert x X 93 true, ty, pos, af, g⟩ l (.tuple #[putV0, .bool false]) := by
  unfold mntV at hx
  rw [if_neg hk] at hx
  split at hx
  · exact y_taF hx (by decide)
  · split at hx
    · exact y_taF hx (by decide)
    · exact y_taN hx
end
variable {w0 : World} {H : List Ck}
/-- The value that is told. -/
def valM : Option (Option Bs) → Bs
  | some (some v) => v
  | _ => []
def isM : Option (Option Bs) → Bool
  | some (some _) => true
  | _ => false
set_option maxHeartbeats 2000000 in
theorem mget_s {a a2 : Option Addr} {c c2 : Nat} {ms : List Mg} {key : Bs} (hx : RMs w0 H a c ms) (hy : RBy w0 H a2 c2 key) (hz : ∀ m ∈ ms, m.lo.length ≤ 140737488355327 ∧ m.v.length ≤ 140737488355328) :
    FnS Try.prog w0 H 48 #[.slice a ms.length c, .slice a2 key.length c2] (fun v H' => ∃ va vc, v = .tuple #[.bool (getM (ms.map Mg.d) key).isSome, .bool (isM (getM (ms.map Mg.d) key)), .slice va (valM (getM (ms.map Mg.d) key)).length vc] ∧ H' = ob va vc (valM (getM (ms.map Mg.d) key)) :: H) := by
  refine fns_enter Try.func48 rfl rfl rfl ?_
  have hms := hx.sl
  refine s_kn (Kn.sl hms) fun l1 => ?_
  simp only [maxLen] at l1
  refine sx ?_
  refine s_loop (fun k : Nat => [(0, .slice a ms.length c), (1, .slice a2 key.length c2), (7, .int .i64 ((k : Int) - 1))]) (fun _ => H) (fun k => k ≤ ms.length ∧ getM ((ms.drop k).map Mg.d) key = none) (fun k => k) ms.length ⟨Nat.le_refl _, by rw [List.drop_length]; rfl⟩ ?_
  rintro k ⟨hk, hg⟩
  refine sx ?_
  refine s_if rfl (fun t1 => ?_) (fun t1 => ?_)
  · obtain ⟨j, rfl⟩ : ∃ j, k = j + 1 := ⟨k - 1, by omega⟩
    obtain ⟨m, hm⟩ := get_lt ms j (by omega)
    have hrm := hx.el m (List.mem_of_getElem? hm)
    obtain ⟨z1, z2⟩ := hz m (List.mem_of_getElem? hm)
    have hdm : getM ((ms.drop j).map Mg.d) key = if hasB (saidR m.d) key = true then some (if m.kd = 1 then some m.v else none) else none := by
      rw [dropG hm, List.map_cons, getM, hg]
    have hall : getM ((ms.drop j).map Mg.d) key ≠ none → getM (ms.map Mg.d) key = getM ((ms.drop j).map Mg.d) key := fun h => by
      conv => lhs; rw [← List.take_append_drop j ms, List.map_append, getM_app]
      cases hq : getM ((ms.drop j).map Mg.d) key with
      | none => exact absurd hq h
      | some o => rfl
    refine s_rwC (t := 7) (v' := .int .i64 (j : Int)) rfl (ci (by omega)) ?_
    refine sx ?_
    refine s_call rfl (msaid_s (m := m) (by exact rmg) z1) ?_
    rintro _ _ ⟨r, a', c', xs, rfl, hrd, rfl, hrr⟩
    refine ⟨chk_seq, ?_⟩
    refine sx ?_
    refine s_callV rfl (ohas_s (r := r) (key := key) hrr (by exact rby)) ?_
    rw [hrd]
    refine sx ?_
    refine s_cond rfl (fun t2 => ?_) (fun t2 => ?_)
    · have t2' : ¬ hasB (saidR m.d) key = true := by simpa using t2
      refine sx ?_
      refine s_again j ⟨by omega, by rw [hdm, if_neg t2']⟩ (by omega)
    · have t2' : hasB (saidR m.d) key = true := by simpa using t2
      rw [if_pos t2'] at hdm
      have hall := hall (by rw [hdm]; simp)
      rw [hdm] at hall
      rw [hall]
      refine sx ?_
      refine s_callV rfl (mmeant_s (m := m)) ?_
      by_cases hk1 : m.kd = 1
      · rw [if_pos hk1]
        rw [show mntV m = .iface 93 (.agg #[.slice m.la m.lo.length m.lc, .slice m.va m.v.length m.vc]) by unfold mntV; rw [if_pos hk1]]
        refine s_yS rfl rfl rfl (y_taT rfl) ?_
        refine sx ?_
        refine s_alloc fun b8 => ?_
        refine sx ?_
        have hmv : RBy w0 H m.va m.vc m.v := hrm.v
        refine s_call rfl (mcopied_s (xs := m.v) (by exact rby) z2) ?_
        rintro _ _ ⟨a1, rfl, rfl⟩
        refine ⟨chk_seq, ?_⟩
        refine sx ?_
        exact s_ret3 rfl rfl rfl rfl ⟨a1, m.v.length, rfl, rfl⟩ (by exact ent)
      · rw [if_neg hk1]
        refine s_yS rfl rfl rfl (y_taP hk1 rfl) ?_
        refine sx ?_
        refine s_alloc fun b8 => ?_
        refine sx ?_
        exact s_ret3 rfl rfl rfl rfl ⟨none, 0, rfl, rfl⟩ (Ent.trans (show Ent _ H by exact ent) Ent.nilS)
  · obtain rfl : k = 0 := by omega
    rw [List.drop_zero] at hg
    rw [hg]
    refine sx ?_
    exact s_ret3 rfl rfl rfl rfl ⟨none, 0, rfl, rfl⟩ (show Ent H (ob none 0 [] :: H) from Ent.nilS)
end Go.Sx
