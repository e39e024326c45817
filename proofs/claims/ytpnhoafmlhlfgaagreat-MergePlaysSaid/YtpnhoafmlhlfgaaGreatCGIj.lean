/- Part of a proof: several parts of a walk, one behind the other. -/
import Derived.Test.YtpnhoafmlhlfgaaGreatCQCj
import Derived.Test.YtpnhoafmlhlfgaaGreatCKB
import Derived.Test.YtpnhoafmlhlfgaaGreatCGDj
namespace Go.Sx
open Go Go.Proofs
set_option maxRecDepth 10000
section
variable {P : Program} {S : World → Prop} {l : List (Nat × Value)} {d : Option Tmp} {ty : TypeId} {pos : String} {af : Array Edge} {g : Option (Nat × Bool)}
end
variable {w0 : World} {H : List Ck}
end Go.Sx
namespace Go.Sx
open Go Go.Proofs
set_option maxRecDepth 10000
variable {w0 : World} {H : List Ck}
end Go.Sx
namespace Go.Sx
open Go Go.Proofs
set_option maxRecDepth 10000
variable {w0 : World} {H : List Ck}
end Go.Sx
namespace Go.Sx
open Go Go.Proofs
set_option maxRecDepth 10000
variable {w0 : World} {H : List Ck}
theorem q_ret3 {fn : Func} {R : Value → World → Prop} {P : Program} {n : Nat} {l : List (Nat × Value)} {w : World} {t u x : Tmp} {v v' v2 : Value} (hr : fn.results = #[.tmp t, .tmp u, .tmp x]) (hl : look l t = some v) (hl' : look l u = some v') (hl2 : look l x = some v2) (h : R (.tuple #[v, v', v2]) w) :
    QJ n dx0 (bodyPost P fn (RetR R)) .ret l w := .mk fun a ha =>
  ⟨ha.defers, .tuple #[v, v', v2], by simp [results, hr, Array.getD_eq_getD_getElem?, ha.has _ _ hl, ha.has _ _ hl', ha.has _ _ hl2], _, rfl, h⟩
theorem s_ret3 {fn : Func} {R : Value → List Ck → Prop} {P : Program} {n : Nat} {l : List (Nat × Value)} {H H' : List Ck} {t u x : Tmp} {v v' v2 : Value} (hr : fn.results = #[.tmp t, .tmp u, .tmp x]) (hl : look l t = some v) (hl' : look l u = some v') (hl2 : look l x = some v2) (h : R (.tuple #[v, v', v2]) H') (he : Ent H H' := by exact ent) :
    SQ n dx0 (bodyPost P fn (RetR (RS w0 R))) .ret l w0 H := .mk fun _ hs => q_ret3 hr hl hl' hl2 ⟨H', h, hs.ent he⟩
end Go.Sx
namespace Go.Sx
open Go Go.Proofs
set_option maxRecDepth 10000
variable {w0 : World} {H : List Ck}
end Go.Sx
namespace Go.Sx
open Go Go.Proofs
set_option maxRecDepth 10000
/-- Not an interface. -/
class NiT (P : Program) (T : TypeId) : Prop where
  ok : (match P.underlying T with | some (.interface _) => false | some _ => true | none => false) = true
instance : NiT Tryz.prog 106 := ⟨by kernel_rfl⟩
section
variable {P : Program} {S : World → Prop} {l : List (Nat × Value)} {d : Option Tmp} {ty : TypeId} {pos : String} {af : Array Edge} {g : Option (Nat × Bool)}
theorem run_taT {T X : TypeId} {v : Value} {w : World} (h : NiT P T) : (Instr.typeAssert (.iface T v) X T true).run P w = .ok (.tuple #[v, .bool true]) w := by
  have h1 := h.ok
  rcases hu : P.underlying T with _ | u
  · rw [hu] at h1; cases h1
  · rw [hu] at h1
    cases u <;> simp_all [Instr.typeAssert, run_underlying hu]
theorem run_taF {T U X : TypeId} {v z : Value} {w : World} (h : NiT P T) (hz : ∀ w, (zeroValue T).run P w = .ok z w) (hne : U ≠ T) : (Instr.typeAssert (.iface U v) X T true).run P w = .ok (.tuple #[z, .bool false]) w := by
  have h1 := h.ok
  rcases hu : P.underlying T with _ | u
  · rw [hu] at h1; cases h1
  · rw [hu] at h1
    cases u <;> simp_all [Instr.typeAssert, run_underlying hu]
theorem run_taN {T X : TypeId} {z : Value} {w : World} (h : NiT P T) (hz : ∀ w, (zeroValue T).run P w = .ok z w) : (Instr.typeAssert .nilIface X T true).run P w = .ok (.tuple #[z, .bool false]) w := by
  have h1 := h.ok
  rcases hu : P.underlying T with _ | u
  · rw [hu] at h1; cases h1
  · rw [hu] at h1
    cases u <;> simp_all [Instr.typeAssert, run_underlying hu]
theorem y_taT {x : Operand} {T X : TypeId} [h : NiT P T] {v : Value} (hx : ev l x = some (.iface T v)) : Y P S ⟨d, .typeAssert x X T true, ty, pos, af, g⟩ l (.tuple #[v, .bool true]) := .mk fun w _ ρ hρ => by
  simp [execOp, hρ _ _ hx, run_taT (w := w) (X := X) (v := v) h]
theorem y_taF {x : Operand} {T U X : TypeId} [h : NiT P T] {v z : Value} [hz : ZeT P T z] (hx : ev l x = some (.iface U v)) (hne : U ≠ T) : Y P S ⟨d, .typeAssert x X T true, ty, pos, af, g⟩ l (.tuple #[z, .bool false]) := .mk fun w _ ρ hρ => by
  simp [execOp, hρ _ _ hx, run_taF (w := w) (X := X) (v := v) h hz.run hne]
theorem y_taN {x : Operand} {T X : TypeId} [h : NiT P T] {z : Value} [hz : ZeT P T z] (hx : ev l x = some .nilIface) : Y P S ⟨d, .typeAssert x X T true, ty, pos, af, g⟩ l (.tuple #[z, .bool false]) := .mk fun w _ ρ hρ => by
  simp [execOp, hρ _ _ hx, run_taN (w := w) (X := X) h hz.run]
end
section
variable {S : World → Prop} {l : List (Nat × Value)} {d : Option Tmp} {ty : TypeId} {pos : String} {af : Array Edge} {g : Option (Nat × Bool)}
abbrev putV0 : Value := .agg #[.slice none 0 0, .slice none 0 0]
theorem y_taP {x : Operand} {X : TypeId} {m : Mg} (hk : m.kd ≠ 1) (hx : ev l x = some (mntV m)) : Y Tryz.prog S ⟨d, .typeAssert x X 106 true, ty, pos, af, g⟩ l (.tuple #[putV0, .bool false]) := by
  unfold mntV at hx
  rw [if_neg hk] at hx
  split at hx
  · exact y_taF hx (by decide)
  · split at hx
    · exact y_taF hx (by decide)
    · exact y_taN hx
end
variable {w0 : World} {H : List Ck}
/-- The value that is told. -/
def valM : Option (Option Bs) → Bs
  | some (some v) => v
  | _ => []
def isM : Option (Option Bs) → Bool
  | some (some _) => true
  | _ => false
set_option maxHeartbeats 2000000 in
theorem mget_s {a a2 : Option Addr} {c c2 : Nat} {ms : List Mg} {key : Bs} (hx : RMs w0 H a c ms) (hy : RBy w0 H a2 c2 key) (hz : ∀ m ∈ ms, m.lo.length ≤ 140737488355327 ∧ m.v.length ≤ 140737488355328) :
    FnS Tryz.prog w0 H 47 #[.slice a ms.length c, .slice a2 key.length c2] (fun v H' => ∃ va vc, v = .tuple #[.bool (getM (ms.map Mg.d) key).isSome, .bool (isM (getM (ms.map Mg.d) key)), .slice va (valM (getM (ms.map Mg.d) key)).length vc] ∧ H' = ob va vc (valM (getM (ms.map Mg.d) key)) :: H) := by
  refine fns_enter Tryz.func47 rfl rfl rfl ?_
  have hms := hx.sl
  refine s_kn (Kn.sl hms) fun l1 => ?_
  simp only [maxLen] at l1
  refine sx ?_
  refine s_loop (fun k : Nat => [(0, .slice a ms.length c), (1, .slice a2 key.length c2), (7, .int .i64 ((k : Int) - 1))]) (fun _ => H) (fun k => k ≤ ms.length ∧ getM ((ms.drop k).map Mg.d) key = none) (fun k => k) ms.length ⟨Nat.le_refl _, by rw [List.drop_length]; rfl⟩ ?_
  rintro k ⟨hk, hg⟩
  refine sx ?_
  refine s_if rfl (fun t1 => ?_) (fun t1 => ?_)
  · obtain ⟨j, rfl⟩ : ∃ j, k = j + 1 := ⟨k - 1, by omega⟩
    obtain ⟨m, hm⟩ := get_lt ms j (by omega)
    have hrm := hx.el m (List.mem_of_getElem? hm)
    obtain ⟨z1, z2⟩ := hz m (List.mem_of_getElem? hm)
    have hdm : getM ((ms.drop j).map Mg.d) key = if hasB (saidR m.d) key = true then some (if m.kd = 1 then some m.v else none) else none := by
      rw [dropG hm, List.map_cons, getM, hg]
    have hall : getM ((ms.drop j).map Mg.d) key ≠ none → getM (ms.map Mg.d) key = getM ((ms.drop j).map Mg.d) key := fun h => by
      conv => lhs; rw [← List.take_append_drop j ms, List.map_append, getM_app]
      cases hq : getM ((ms.drop j).map Mg.d) key with
      | none => exact absurd hq h
      | some o => rfl
    refine s_rwC (t := 7) (v' := .int .i64 (j : Int)) rfl (ci (by omega)) ?_
    refine sx ?_
    refine s_call rfl (msaid_s (m := m) (by exact rmg) z1) ?_
    rintro _ _ ⟨r, a', c', xs, rfl, hrd, rfl, hrr⟩
    refine ⟨chk_seq, ?_⟩
    refine sx ?_
    refine s_callV rfl (ohas_s (r := r) (key := key) hrr (by exact rby)) ?_
    rw [hrd]
    refine sx ?_
    refine s_cond rfl (fun t2 => ?_) (fun t2 => ?_)
    · have t2' : ¬ hasB (saidR m.d) key = true := by simpa using t2
      refine sx ?_
      refine s_again j ⟨by omega, by rw [hdm, if_neg t2']⟩ (by omega)
    · have t2' : hasB (saidR m.d) key = true := by simpa using t2
      rw [if_pos t2'] at hdm
      have hall := hall (by rw [hdm]; simp)
      rw [hdm] at hall
      rw [hall]
      refine sx ?_
      refine s_callV rfl (mmeant_s (m := m)) ?_
      by_cases hk1 : m.kd = 1
      · rw [if_pos hk1]
        rw [show mntV m = .iface 106 (.agg #[.slice m.la m.lo.length m.lc, .slice m.va m.v.length m.vc]) by unfold mntV; rw [if_pos hk1]]
        refine s_yS rfl rfl rfl (y_taT rfl) ?_
        refine sx ?_
        refine s_alloc fun b8 => ?_
        refine sx ?_
        have hmv : RBy w0 H m.va m.vc m.v := hrm.v
        refine s_call rfl (mcopied_s (xs := m.v) (by exact rby) z2) ?_
        rintro _ _ ⟨a1, rfl, rfl⟩
        refine ⟨chk_seq, ?_⟩
        refine sx ?_
        exact s_ret3 rfl rfl rfl rfl ⟨a1, m.v.length, rfl, rfl⟩ (by exact ent)
      · rw [if_neg hk1]
        refine s_yS rfl rfl rfl (y_taP hk1 rfl) ?_
        refine sx ?_
        refine s_alloc fun b8 => ?_
        refine sx ?_
        exact s_ret3 rfl rfl rfl rfl ⟨none, 0, rfl, rfl⟩ (Ent.trans (show Ent _ H by exact ent) Ent.nilS)
  · obtain rfl : k = 0 := by omega
    rw [List.drop_zero] at hg
    rw [hg]
    refine sx ?_
    exact s_ret3 rfl rfl rfl rfl ⟨none, 0, rfl, rfl⟩ (show Ent H (ob none 0 [] :: H) from Ent.nilS)
end Go.Sx
namespace Go.Sx
open Go Go.Proofs
set_option maxRecDepth 10000
variable {w0 : World} {H : List Ck}
end Go.Sx
namespace Go.Sx
open Go Go.Proofs
set_option maxRecDepth 10000
variable {w0 : World} {H : List Ck}
/-- A message says something that no later one says. -/
def KeepM (m : MD) (r : List MD) : Prop := ∃ key, hasB (saidR m) key = true ∧ getM r key = none
open Classical in
/-- What is said by messages so far. -/
structure OvSt (r : List MD) (over : List T3) : Prop where
  ov : SepR over
  on : ∀ key, inU over key ↔ getM r key ≠ none
theorem OvSt.nil : OvSt [] [] := ⟨trivial, fun key => by simp [inU, getM]⟩
theorem OvSt.keep {r : List MD} {over : List T3} {m : MD} (h : OvSt r over) : KeepM m r ↔ woR (saidR m) over ≠ [] := by
  rw [Ne, wo_nil h.ov (said_form m) (said_fin m)]
  constructor
  · rintro ⟨key, h1, h2⟩ g
    exact (h.on key).1 (g key h1) h2
  · intro g
    refine Classical.byContradiction fun k => g fun key hk => (h.on key).2 fun e => k ⟨key, hk, e⟩
theorem OvSt.skip {r : List MD} {over : List T3} {m : MD} (h : OvSt r over) (hk : ¬ KeepM m r) : OvSt (m :: r) over := ⟨h.ov, fun key => by
  rw [getM_cons, if_neg (fun g => hk ⟨key, g.2, g.1⟩)]; exact h.on key⟩
theorem OvSt.put {r : List MD} {over c : List T3} {m : MD} (h : OvSt r over) (hc : IsCv (over ++ [saidR m]) c) : OvSt (m :: r) c := ⟨hc.1, over_on h.on hc⟩
theorem qk_said {m : MD} {k : Nat} (h1 : m.lo.length + 1 ≤ k) (h2 : m.hi.length ≤ k) : QK k (saidR m) := by
  unfold saidR
  split
  · exact ⟨by simp only; omega, by simp only [List.length_append, List.length_cons, List.length_nil]; omega⟩
  · split
    · exact ⟨by simp only; omega, by simp only; omega⟩
    · exact ⟨Nat.zero_le _, Nat.zero_le _⟩
abbrev SdG (m : Mg) (H : List Ck) (w0 : World) : Value → List Ck → Prop := fun v H' => ∃ (r : Rg) (a' : Option Addr) (c' : Nat) (xs : Bs), v = .agg r.cells.toArray ∧ r.d = saidR m.d ∧ H' = ob a' c' xs :: H ∧ ∀ H0, RMg w0 H0 m → RRg w0 (ob a' c' xs :: H0) r
theorem msaidG_s {m : Mg} (hm : RMg w0 H m) (hl : m.lo.length ≤ 140737488355327) : FnS Tryz.prog w0 H 51 #[.agg m.cells.toArray] (SdG m H w0) := by
  refine fns_enter Tryz.func51 rfl rfl rfl ?_
  have h1 := hm.lo
  have h2 := hm.hi
  refine sx ?_
  refine s_boxA rfl fun b1 => ?_
  refine sx ?_
  refine s_alloc fun b2 => ?_
  refine sx ?_
  refine s_callV rfl (mmeant_s (m := m)) ?_
  unfold mntV
  by_cases t1 : m.kd = 1
  · have e : saidR m.d = (m.lo, m.lo ++ [0], false) := if_pos (.inl t1)
    rw [if_pos t1]
    refine sx ?_
    refine s_yS rfl rfl rfl (y_neI rfl) ?_
    refine sx ?_
    refine s_inv rfl (psays_s (xs := m.lo) (by exact rby) hl) ?_
    rintro _ _ ⟨a', c', rfl, rfl⟩
    refine ⟨chk_seq, ?_⟩
    refine sx ?_
    exact s_retc rfl rfl (by exact at_) rfl ⟨⟨m.la, m.lc, m.lo, a', c', m.lo ++ [0], false⟩, a', c', m.lo ++ [0], rfl, e.symm, rfl, fun H0 h => ⟨h.lo.tl, RBy.hd⟩⟩ (by exact ent)
  rw [if_neg t1]
  by_cases t2 : m.kd = 2
  · have e : saidR m.d = (m.lo, m.lo ++ [0], false) := if_pos (.inr t2)
    rw [if_pos t2]
    refine sx ?_
    refine s_yS rfl rfl rfl (y_neI rfl) ?_
    refine sx ?_
    refine s_inv rfl (tsays_s (xs := m.lo) (by exact rby) hl) ?_
    rintro _ _ ⟨a', c', rfl, rfl⟩
    refine ⟨chk_seq, ?_⟩
    refine sx ?_
    exact s_retc rfl rfl (by exact at_) rfl ⟨⟨m.la, m.lc, m.lo, a', c', m.lo ++ [0], false⟩, a', c', m.lo ++ [0], rfl, e.symm, rfl, fun H0 h => ⟨h.lo.tl, RBy.hd⟩⟩ (by exact ent)
  rw [if_neg t2]
  have e0 : saidR m.d = if m.kd = 3 then (m.lo, m.hi, false) else t30 := if_neg (fun h => h.elim t1 t2)
  by_cases t3 : m.kd = 3
  · have e : saidR m.d = (m.lo, m.hi, false) := by rw [e0, if_pos t3]
    rw [if_pos t3]
    refine sx ?_
    refine s_yS rfl rfl rfl (y_neI rfl) ?_
    refine sx ?_
    refine s_inv rfl (csays_s (xs := m.lo) (ys := m.hi)) ?_
    rintro _ _ ⟨rfl, rfl⟩
    refine ⟨chk_seq, ?_⟩
    refine sx ?_
    exact s_retc rfl rfl (by exact at_) rfl ⟨⟨m.la, m.lc, m.lo, m.ha, m.hc, m.hi, false⟩, none, 0, [], rfl, e.symm, rfl, fun H0 h => ⟨h.lo.tl, h.hi.tl⟩⟩ (Ent.addNil (by exact ent))
  rw [if_neg t3]
  rw [if_neg t3] at e0
  refine sx ?_
  refine s_yS rfl rfl rfl (y_neN rfl) ?_
  refine sx ?_
  exact s_retc rfl rfl (by exact at_) rfl ⟨rg0, none, 0, [], rfl, e0.symm, rfl, fun H0 h => ⟨RBy.nil, RBy.nil⟩⟩ (Ent.addNil (by exact ent))
end Go.Sx
namespace Go.Sx
open Go
theorem nodup_len : ∀ {l m : List Bs}, l.Nodup → (∀ x ∈ l, x ∈ m) → l.length ≤ m.length
  | [], m, _, _ => Nat.zero_le _
  | x :: l, m, hn, hs => by
    have hx := hs x (by simp)
    have hn := List.nodup_cons.1 hn
    have := nodup_len (l := l) (m := m.erase x) hn.2 fun y hy => (List.mem_erase_of_ne (fun e => hn.1 (by rw [← e]; exact hy))).2 (hs y (by simp [hy]))
    rw [List.length_erase_of_mem hx] at this
    have := List.length_pos_of_mem hx
    simp only [List.length_cons]
    omega
theorem lo_fo {d : T3} (h : ¬ emR (foR d) = true) : (foR d).1 = d.1 := by
  unfold foR at h ⊢
  split
  · rename_i g; rw [if_pos g] at h; exact absurd emR_t30 h
  · split <;> rfl
theorem lo_me {a b : T3} (h : ¬ emR (meR a b) = true) : (meR a b).1 = a.1 ∨ (meR a b).1 = b.1 := by
  unfold meR at h ⊢
  split
  · rename_i g; rw [if_pos g] at h; exact absurd emR_t30 h
  · rename_i g
    rw [if_neg g] at h
    rw [lo_fo h]
    simp only
    split
    · exact .inr rfl
    · exact .inl rfl
theorem lo_mi1 {a b : T3} (h : ¬ emR (miR a b).1 = true) : (miR a b).1.1 = a.1 ∨ (miR a b).1.1 = [] := by
  unfold miR at h ⊢
  split
  · rename_i g; rw [if_pos g] at h; exact .inl (lo_fo h)
  · rename_i g; rw [if_neg g] at h; exact lo_me h
theorem lo_mi2 {a b : T3} (h : ¬ emR (miR a b).2 = true) : (miR a b).2.1 = a.1 ∨ (miR a b).2.1 = b.2.1 := by
  unfold miR at h ⊢
  split
  · rename_i g; rw [if_pos g] at h; exact absurd emR_t30 h
  · rename_i g
    rw [if_neg g] at h
    simp only at h ⊢
    split
    · rename_i k; rw [if_pos k] at h; exact absurd emR_t30 h
    · rename_i k; rw [if_neg k] at h; exact lo_me h
theorem me_em {a b : T3} (h : emR a = true) : emR (meR a b) = true := by
  unfold meR
  rw [if_pos (by rw [h]; rfl)]
  exact emR_t30
theorem wo_em : ∀ {l : List T3} {r : T3}, emR r = true → woR r l = []
  | [], r, h => by rw [woR, if_pos h]
  | x :: l, r, h => by rw [woR, if_pos (me_em h)]; exact wo_em h
theorem wo_lo : ∀ {l : List T3} {r p : T3}, p ∈ woR r l → p.1 = r.1 ∨ p.1 = [] ∨ ∃ x ∈ l, p.1 = x.2.1
  | [], r, p, h => by
    unfold woR at h
    split at h
    · cases h
    · rw [List.mem_singleton.1 h]; exact .inl rfl
  | x :: l, r, p, h => by
    unfold woR at h
    split at h
    · rcases wo_lo h with g | g | ⟨y, hy, g⟩
      · exact .inl g
      · exact .inr (.inl g)
      · exact .inr (.inr ⟨y, by simp [hy], g⟩)
    · rcases List.mem_append.1 h with h | h
      · split at h
        · cases h
        · rename_i k
          rw [List.mem_singleton.1 h]
          exact (lo_mi1 k).imp id .inl
      · by_cases k : emR (miR r x).2 = true
        · rw [wo_em k] at h; cases h
        · rcases wo_lo h with g | g | ⟨y, hy, g⟩
          · rw [g]
            rcases lo_mi2 k with e | e
            · exact .inl e
            · exact .inr (.inr ⟨x, by simp, e⟩)
          · exact .inr (.inl g)
          · exact .inr (.inr ⟨y, by simp [hy], g⟩)
theorem mi2_ge {a b : T3} {key : Bs} (h : hasB (miR a b).2 key = true) : b.2.2 = false ∧ cmp b.2.1 key ≤ 0 := by
  unfold miR at h
  split at h
  · exact absurd h has_t30
  · simp only at h
    split at h
    · exact absurd h has_t30
    · rename_i k
      exact ⟨by simpa using k, has_ge.1 (has_me.1 h).2⟩
theorem wo_ne : ∀ {l : List T3} {r p : T3}, p ∈ woR r l → ¬ emR p = true
  | [], r, p, h => by
    unfold woR at h
    split at h
    · cases h
    · rename_i k; rw [List.mem_singleton.1 h]; exact k
  | x :: l, r, p, h => by
    unfold woR at h
    split at h
    · exact wo_ne h
    · rcases List.mem_append.1 h with h | h
      · split at h
        · cases h
        · rename_i k; rw [List.mem_singleton.1 h]; exact k
      · exact wo_ne h
theorem wo_nd : ∀ {l : List T3} {r : T3}, SepR l → ((woR r l).map fun d => d.1).Nodup
  | [], r, _ => by unfold woR; split <;> simp
  | x :: l, r, hs => by
    unfold woR
    split
    · exact wo_nd hs.tail
    · split
      · exact wo_nd hs.tail
      · rename_i k
        rw [List.singleton_append, List.map_cons, List.nodup_cons]
        refine ⟨fun h => ?_, wo_nd hs.tail⟩
        obtain ⟨p, hp, e⟩ := List.mem_map.1 h
        have h1 := mi_low (ne_has k) hs.head.2
        have h2 : inU (woR (miR r x).2 l) p.1 := ⟨p, hp, ne_has (wo_ne hp)⟩
        have h3 := mi2_ge ((wo_in hs.tail).1 h2).1
        rw [e] at h3
        exact hs.head.2 (emR_iff.2 ⟨h3.1, le_tr h3.2 h1⟩)
/-- Where messages' ranges begin and end. -/
def edg (r : List MD) : List Bs := [] :: r.flatMap fun m => [(saidR m).1, (saidR m).2.1]
theorem edg_len (r : List MD) : (edg r).length = 2 * r.length + 1 := by
  unfold edg
  rw [List.length_cons]
  congr 1
  induction r with
  | nil => rfl
  | cons m r ih => rw [List.flatMap_cons, List.length_append, ih]; simp only [List.length_cons, List.length_nil]; omega
theorem edg_mono {m : MD} {r : List MD} {x : Bs} (h : x ∈ edg r) : x ∈ edg (m :: r) := by
  unfold edg at *
  rcases List.mem_cons.1 h with h | h
  · exact List.mem_cons.2 (.inl h)
  · refine List.mem_cons.2 (.inr ?_)
    rw [List.flatMap_cons]; exact List.mem_append_right _ h
theorem edg_lo (m : MD) (r : List MD) : (saidR m).1 ∈ edg (m :: r) := by simp [edg]
theorem edg_hi (m : MD) (r : List MD) : (saidR m).2.1 ∈ edg (m :: r) := by simp [edg]
theorem sep_hi {c : List T3} {d : T3} (hs : SepR c) (hd : d ∈ c) (hf : Fin3 d) : ¬ inU c d.2.1 := by
  rintro ⟨y, hy, hk⟩
  obtain ⟨hn, hp⟩ := sepR_iff.1 hs
  have hk := hasB_iff.1 hk
  obtain ⟨s, t, rfl⟩ := List.append_of_mem hd
  obtain ⟨p1, p2, p3⟩ := List.pairwise_append.1 hp
  rcases List.mem_append.1 hy with hy | hy
  · have h1 := p3 y hy d (by simp)
    have h2 := hk.2.resolve_left (by rw [h1.1]; decide)
    have h3 := ne_has (hn d (by simp)).2
    have h4 := (hasB_iff.1 h3).2.resolve_left (by rw [show d.2.2 = false from hf]; decide)
    have h5 : cmp d.2.1 d.1 < 0 := lt_tr h2 (by have := h1.2; omega)
    have h6 : cmp d.2.1 d.2.1 < 0 := lt_tr h5 (by omega)
    rw [cmp_self] at h6
    omega
  · rcases List.mem_cons.1 hy with rfl | hy
    · have h2 := hk.2.resolve_left (by rw [show y.2.2 = false from hf]; decide)
      rw [cmp_self] at h2
      omega
    · have h1 := (List.pairwise_cons.1 p2).1 y hy
      have h2 := lt_tr h1.2 hk.1
      rw [cmp_self] at h2
      omega
theorem edge_top (l : List T3) {lo hi : Bs} (h : cmp lo hi < 0) : ∃ t, cmp lo t ≤ 0 ∧ cmp t hi < 0 ∧ ∀ x ∈ l, cmp x.2.1 hi < 0 → cmp x.2.1 t ≤ 0 := by
  induction l with
  | nil => exact ⟨lo, by rw [cmp_self]; omega, h, fun x hx => by cases hx⟩
  | cons y l ih =>
    obtain ⟨t, h1, h2, h3⟩ := ih
    by_cases g : cmp y.2.1 hi < 0 ∧ ¬ cmp y.2.1 t ≤ 0
    · have g2 := nle g.2
      refine ⟨y.2.1, le_tr h1 (by omega), g.1, fun x hx hh => ?_⟩
      rcases List.mem_cons.1 hx with rfl | hx
      · rw [cmp_self]; omega
      · exact le_tr (h3 x hx hh) (by omega)
    · refine ⟨t, h1, h2, fun x hx hh => ?_⟩
      rcases List.mem_cons.1 hx with rfl | hx
      · exact Classical.byContradiction fun k => g ⟨hh, k⟩
      · exact h3 x hx hh
theorem cv_hi {l c : List T3} (hc : IsCv l c) (hl : ∀ x ∈ l, Fin3 x) {d : T3} (hd : d ∈ c) : ∃ x ∈ l, d.2.1 = x.2.1 := by
  have hf := cv_fin hc hl d hd
  have hn := (sepR_iff.1 hc.1).1 d hd
  have h4 := (hasB_iff.1 (ne_has hn.2)).2.resolve_left (by rw [show d.2.2 = false from hf]; decide)
  obtain ⟨t, h1, h2, h3⟩ := edge_top l h4
  obtain ⟨x, hx, hk⟩ := (hc.2 t).1 ⟨d, hd, hasB_iff.2 ⟨h1, .inr h2⟩⟩
  have hk := hasB_iff.1 hk
  have hxf : x.2.2 = false := hl x hx
  have hk2 := hk.2.resolve_left (by rw [hxf]; decide)
  have g1 : ¬ cmp x.2.1 d.2.1 < 0 := fun g => by
    have := lt_tr hk2 (h3 x hx g)
    rw [cmp_self] at this
    omega
  have g2 : ¬ cmp d.2.1 x.2.1 < 0 := fun g => sep_hi hc.1 hd hf ((hc.2 _).2 ⟨x, hx, hasB_iff.2 ⟨le_tr hk.1 (by omega), .inr g⟩⟩)
  have := cmp_anti d.2.1 x.2.1
  exact ⟨x, hx, (cmp_eq _ _).1 (by omega)⟩
/-- What is gone begins at edges, each elsewhere. -/
structure GnL (r : List MD) (over gone : List T3) : Prop where
  fo : ∀ o ∈ over, Fin3 o
  nd : (gone.map fun d => d.1).Nodup
  ge : ∀ g ∈ gone, g.1 ∈ edg r
  oe : ∀ o ∈ over, o.2.1 ∈ edg r
theorem GnL.nil : GnL [] [] [] := ⟨fun o h => (by cases h), List.nodup_nil, fun o h => (by cases h), fun o h => (by cases h)⟩
theorem GnL.len {r : List MD} {over gone : List T3} (h : GnL r over gone) : gone.length ≤ 2 * r.length + 1 := by
  have := nodup_len h.nd (m := edg r) (fun x hx => by obtain ⟨g, hg, rfl⟩ := List.mem_map.1 hx; exact h.ge g hg)
  rw [List.length_map, edg_len] at this
  exact this
theorem GnL.skip {r : List MD} {over gone : List T3} {m : MD} (h : GnL r over gone) : GnL (m :: r) over gone := ⟨h.fo, h.nd, fun g hg => edg_mono (h.ge g hg), fun o ho => edg_mono (h.oe o ho)⟩
theorem GnL.put {r : List MD} {over gone c : List T3} {m : MD} (h : GnL r over gone) (hc : IsCv (over ++ [saidR m]) c) : GnL (m :: r) c gone := by
  have hf : ∀ x ∈ over ++ [saidR m], Fin3 x := fun x hx => by
    rcases List.mem_append.1 hx with hx | hx
    · exact h.fo x hx
    · rw [List.mem_singleton.1 hx]; exact said_fin m
  refine ⟨cv_fin hc hf, h.nd, fun g hg => edg_mono (h.ge g hg), fun o ho => ?_⟩
  obtain ⟨x, hx, e⟩ := cv_hi hc hf ho
  rw [e]
  rcases List.mem_append.1 hx with hx | hx
  · exact edg_mono (h.oe x hx)
  · rw [List.mem_singleton.1 hx]; exact edg_hi m r
theorem GnL.gone {r : List MD} {over gn c : List T3} {puts : List PD} {m : MD} (h : GnL r over gn) (hs : MnSt r over gn puts) (hc : IsCv (over ++ [saidR m]) c) : GnL (m :: r) c (gn ++ woR (saidR m) over) := by
  have hp := h.put hc
  refine ⟨hp.fo, ?_, fun g hg => ?_, hp.oe⟩
  · rw [List.map_append]
    refine List.nodup_append.2 ⟨h.nd, wo_nd hs.ov, fun x hx y hy e => ?_⟩
    obtain ⟨g, hg, rfl⟩ := List.mem_map.1 hx
    obtain ⟨p, hp', rfl⟩ := List.mem_map.1 hy
    have h1 : inU gn g.1 := ⟨g, hg, ne_has (hs.gf g hg).1.2⟩
    have h2 := (hs.gn g.1).1 h1
    have h3 : inU (woR (saidR m) over) p.1 := ⟨p, hp', ne_has (wo_ne hp')⟩
    have h4 := ((wo_in hs.ov).1 h3).2
    have e : g.1 = p.1 := e
    exact h4 ((hs.on _).2 (by rw [← e, h2]; simp))
  · rcases List.mem_append.1 hg with hg | hg
    · exact edg_mono (h.ge g hg)
    · rcases wo_lo hg with e | e | ⟨x, hx, e⟩
      · rw [e]; exact edg_lo m r
      · rw [e]; simp [edg]
      · rw [e]; exact edg_mono (h.oe x hx)
theorem qk_wo {k : Nat} : ∀ {l : List T3} {r : T3}, QK k r → (∀ x ∈ l, QK k x) → ∀ p ∈ woR r l, QK k p
  | [], r, hr, _, p, h => by
    unfold woR at h
    split at h
    · cases h
    · rw [List.mem_singleton.1 h]; exact hr
  | x :: l, r, hr, hl, p, h => by
    have hm := qk_mi hr (hl x (by simp))
    have hl2 : ∀ y ∈ l, QK k y := fun y hy => hl y (by simp [hy])
    unfold woR at h
    split at h
    · exact qk_wo hr hl2 p h
    · rcases List.mem_append.1 h with h | h
      · split at h
        · cases h
        · rw [List.mem_singleton.1 h]; exact hm.1
      · exact qk_wo hm.2 hl2 p h
end Go.Sx

