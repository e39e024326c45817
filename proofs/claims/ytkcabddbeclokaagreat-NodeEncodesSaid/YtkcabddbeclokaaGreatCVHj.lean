/- Part of a proof: several parts of a walk, one behind the other. -/
import Derived.Test.YtkcabddbeclokaaGreatCVF
namespace Go.Sx
open Go Go.Proofs
set_option maxRecDepth 10000
variable {w0 : World} {H : List Ck}
open Classical in
noncomputable def decNo (size : Int) (xs : Bs) : Option ((List Int × List Bs) × List MD) := if h : sizedB size = true ∧ ∃ p : (List Int × List Bs) × List MD, IsN size xs p.1 p.2 then some (Classical.choose h.2) else none
noncomputable def decND (size : Int) (xs : Bs) : (List Int × List Bs) × List MD := (decNo size xs).getD (([], []), [])
noncomputable def decNE (size : Int) (xs : Bs) : Int := if sizedB size = false then 1 else if (decNo size xs).isSome then 0 else 84
theorem isN_sized {size : Int} {xs : Bs} {d : List Int × List Bs} {ms : List MD} (h : IsN size xs d ms) : sizedB size = true := (chkK_0 (chkN_0 h.1).1).1
theorem decNo_is {size : Int} {xs : Bs} {d : List Int × List Bs} {ms : List MD} (h : IsN size xs d ms) : decNo size xs = some (d, ms) := by
  have g : sizedB size = true ∧ ∃ p : (List Int × List Bs) × List MD, IsN size xs p.1 p.2 := ⟨isN_sized h, ⟨(d, ms), h⟩⟩
  rw [decNo, dif_pos g]
  obtain ⟨e1, e2⟩ := h.uniq (Classical.choose_spec g.2)
  rw [e1, e2]
theorem decNo_no {size : Int} {xs : Bs} (h : ∀ d ms, ¬ IsN size xs d ms) : decNo size xs = none := dif_neg fun ⟨_, _, hp⟩ => h _ _ hp
theorem decNo_some {size : Int} {xs : Bs} {p : (List Int × List Bs) × List MD} (h : decNo size xs = some p) : IsN size xs p.1 p.2 := by
  unfold decNo at h
  split at h
  · rename_i g
    injection h with h
    rw [← h]
    exact Classical.choose_spec g.2
  · cases h
theorem decNE_0 {size : Int} {xs : Bs} {d : List Int × List Bs} {ms : List MD} (h : IsN size xs d ms) : decNE size xs = 0 ∧ decND size xs = (d, ms) := by
  have := decNo_is h
  exact ⟨by rw [decNE, if_neg (by rw [isN_sized h]; decide), this]; rfl, by rw [decND, this]; rfl⟩
theorem decNE_1 {size : Int} {xs : Bs} (h : sizedB size = false) : decNE size xs = 1 ∧ decND size xs = (([], []), []) := by
  have : decNo size xs = none := dif_neg fun g => by rw [h] at g; cases g.1
  exact ⟨by rw [decNE, if_pos h], by rw [decND, this]; rfl⟩
theorem decNE_84 {size : Int} {xs : Bs} (hs : sizedB size = true) (h : ∀ d ms, ¬ IsN size xs d ms) : decNE size xs = 84 ∧ decND size xs = (([], []), []) := by
  have := decNo_no h
  exact ⟨by rw [decNE, if_neg (by rw [hs]; decide), this]; rfl, by rw [decND, this]; rfl⟩
abbrev DndR (size : Int) (xs : Bs) (H : List Ck) : Value → List Ck → Prop := fun v H' => ∃ n : Nd, v = .tuple #[.agg n.cells.toArray, .int .i64 (decNE size xs)] ∧ (n.k.d, n.md) = decND size xs ∧ H' = oN n H
theorem dndR_1 {size : Int} {xs : Bs} (h : sizedB size = false) : DndR size xs H (.tuple #[.agg nd0.cells.toArray, .int .i64 1]) (oN nd0 H) := ⟨nd0, by rw [(decNE_1 h).1], by rw [(decNE_1 h).2]; rfl, rfl⟩
theorem dndR_84 {size : Int} {xs : Bs} (hs : sizedB size = true) (h : ∀ d ms, ¬ IsN size xs d ms) : DndR size xs H (.tuple #[.agg nd0.cells.toArray, .int .i64 84]) (oN nd0 H) := ⟨nd0, by rw [(decNE_84 hs h).1], by rw [(decNE_84 hs h).2]; rfl, rfl⟩
theorem dndR_0 {size : Int} {xs : Bs} {n : Nd} (h : IsN size xs n.k.d n.md) : DndR size xs H (.tuple #[.agg n.cells.toArray, .int .i64 0]) (oN n H) := ⟨n, by rw [(decNE_0 h).1], by rw [(decNE_0 h).2], rfl⟩
theorem nbeq_s {a a' : Option Addr} {c c' : Nat} {xs ys : Bs} (ha : RBy w0 H a c xs) (hb : RBy w0 H a' c' ys) : FnV Tryz.prog w0 H 35 #[.slice a xs.length c, .slice a' ys.length c'] (.bool (decide (xs = ys))) := by
  refine fns_enter Tryz.func35 rfl rfl rfl ?_
  refine sx ?_
  exact s_ret1 rfl rfl ⟨rfl, rfl⟩
theorem ndecode_s {size : Int} {a : Option Addr} {c : Nat} {xs : Bs} (hx : RBy w0 H a c xs) (hl : xs.length ≤ 4294967296) : FnS Tryz.prog w0 H 13 #[.int .i64 size, .slice a xs.length c] (DndR size xs H) := by
  refine fns_enter Tryz.func13 rfl rfl rfl ?_
  refine sx ?_
  refine s_alloc fun b4 => ?_
  refine sx ?_
  refine s_callV rfl nsized_s ?_
  refine sx ?_
  refine s_cond rfl (fun t1 => ?_) (fun t1 => ?_)
  · refine sx ?_
    exact s_retcv rfl rfl rfl (by exact at_) rfl (dndR_1 (by simpa using t1)) ((Ent.tl Ent.refl).trans hnilN)
  have hs : sizedB size = true := by simpa using t1
  refine sx ?_
  refine s_call rfl (nread_s (size := size) (xs := xs) (by exact rby) hl) ?_
  rintro _ _ ⟨n, ok, rfl, his, hI, hsum, rfl⟩
  refine ⟨chk_seq, ?_⟩
  refine sx ?_
  refine s_alloc fun b6 => ?_
  refine sx ?_
  have hrn : RNd w0 (.hb b6 28 n.cells :: oN n (.hb b4 28 [.slice none 0 0, .slice none 0 0, .slice none 0 0] :: H)) n := RNd.oN.tl
  refine s_call rfl (nencode_s (n := n) (size := size) hrn hI (by omega)) ?_
  rintro _ _ ⟨a8, c8, rfl, rfl⟩
  refine ⟨chk_seq, ?_⟩
  refine sx ?_
  cases ok
  · have hno : ∀ d ms, ¬ IsN size xs d ms := fun d ms g => by cases (his d ms g).1
    refine sx ?_
    exact s_retcv rfl rfl rfl (by exact at_) rfl (dndR_84 hs hno) ((Ent.tl (Ent.tl (Ent.tl (Ent.tl (Ent.tl (Ent.tl Ent.refl)))))).trans hnilN)
  refine sx ?_
  refine s_lifn rfl (fun t2 => ?_) (fun t2 => ?_)
  · have hno : ∀ d ms, ¬ IsN size xs d ms := fun d ms g => by
      obtain ⟨_, h1, h2⟩ := his d ms g
      rw [h1, h2] at t2
      exact t2 g.1
    refine sx ?_
    exact s_retcv rfl rfl rfl (by exact at_) rfl (dndR_84 hs hno) ((Ent.tl (Ent.tl (Ent.tl (Ent.tl (Ent.tl (Ent.tl Ent.refl)))))).trans hnilN)
  have e0 : encNR size n.k.d n.md = encN n.k.d n.md := if_pos t2
  rw [e0]
  refine sx ?_
  refine s_callV rfl (nbeq_s (xs := encN n.k.d n.md) (ys := xs) (by exact rby) (by exact rby)) ?_
  refine sx ?_
  refine s_ifn rfl (fun t3 => ?_) (fun t3 => ?_)
  · have hno : ∀ d ms, ¬ IsN size xs d ms := fun d ms g => by
      obtain ⟨_, h1, h2⟩ := his d ms g
      rw [h1, h2] at t3
      exact t3 g.2
    refine sx ?_
    exact s_retcv rfl rfl rfl (by exact at_) rfl (dndR_84 hs hno) ((Ent.tl (Ent.tl (Ent.tl (Ent.tl (Ent.tl (Ent.tl Ent.refl)))))).trans hnilN)
  refine sx ?_
  exact s_retcv rfl rfl rfl (by exact at_) rfl (dndR_0 ⟨t2, t3⟩) (Ent.tl (Ent.tl (Ent.head (Ent.head (Ent.head (Ent.tl Ent.refl))))))
end Go.Sx
namespace Go.Sx
open Go Go.Proofs
set_option maxRecDepth 10000
variable {w0 : World} {H : List Ck}
theorem decD_len {size : Int} {xs : Bs} : (decD size xs).1.length ≤ 65536 := by
  unfold decD decK
  split
  · cases e : readK xs with
    | none => exact Nat.zero_le _
    | some d =>
      by_cases g : chkK size d = 0
      · have : ((some d).bind fun d => if chkK size d = 0 then some d else none) = some d := if_pos g
        rw [this]
        obtain ⟨hs, ⟨hf, h2, hp⟩, hy, hR, hB⟩ := chkK_0 g
        exact pg_bd hp
      · have : ((some d).bind fun d => if chkK size d = 0 then some d else none) = none := if_neg g
        rw [this]
        exact Nat.zero_le _
  · exact Nat.zero_le _
theorem srcM_sum {xs : Bs} (h2 : (srcM xs).2.2 = false) (h3 : (srcM xs).2.1.length = 0) : xs.length = 4 + sumM (srcM xs).1 := by
  unfold srcM at h2 h3 ⊢
  have h1 := loopS_ok _ _ _ h2
  have hb : ∀ (k : Nat) (out : List MD) (s : SrcB), (loopS k out s).2.2 = false → s.2 = false := by
    intro k
    induction k with
    | zero => intro out s h; exact h
    | succ k ih =>
      intro out s h
      rw [loopS] at h
      split at h
      · exact h
      · rename_i g; simpa using g
  have h4 := numS_ok (k := 4) (s := (xs, false)) (hb _ _ _ h2)
  have h5 : sumM ([] : List MD) = 0 := rfl
  simp only at h4
  omega
end Go.Sx
