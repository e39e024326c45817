/- Part of a proof: several parts of a walk, one behind the other. -/
import Derived.Test.YtkcabddbeclokaaCVF
namespace Go.Sx
open Go Go.Proofs
set_option maxRecDepth 10000
variable {w0 : World} {H : List Ck}
open Classical in
noncomputable def decNo (size : Int) (xs : Bs) : Option ((List Int × List Bs) × List MD) := if h : sizedB size = true ∧ ∃ p : (List Int × List Bs) × List MD, IsN size xs p.1 p.2 then some (Classical.choose h.2) else none
noncomputable def decND (size : Int) (xs : Bs) : (List Int × List Bs) × List MD := (decNo size xs).getD (([], []), [])
noncomputable def decNE (size : Int) (xs : Bs) : Int := if sizedB size = false then 1 else if (decNo size xs).isSome then 0 else 84
theorem isN_sized {size : Int} {xs : Bs} {d : List Int × List Bs} {ms : List MD} (h : IsN size xs d ms) : sizedB size = true := (chkK_0 (chkN_0 h.1).1).1
theorem decNo_is {size : Int} {xs : Bs} {d : List Int × List Bs} {ms : List MD} (h : IsN size xs d ms) : decNo size xs = some (d, ms) := by
  have g : sizedB size = true ∧ ∃ p : (List Int × List Bs) × List MD, IsN size xs p.1 p.2 := ⟨isN_sized h, ⟨(d, ms), h⟩⟩
  rw [decNo, dif_pos g]
  obtain ⟨e1, e2⟩ := h.uniq (Classical.choose_spec g.2)
  rw [e1, e2]
theorem decNo_no {size : Int} {xs : Bs} (h : ∀ d ms, ¬ IsN size xs d ms) : decNo size xs = none := dif_neg fun ⟨_, _, hp⟩ => h _ _ hp
theorem decNo_some {size : Int} {xs : Bs} {p : (List Int × List Bs) × List MD} (h : decNo size xs = some p) : IsN size xs p.1 p.2 := by
  unfold decNo at h
  split at h
  · rename_i g
    injection h with h
    rw [← h]
    exact Classical.choose_spec g.2
  · cases h
theorem decNE_0 {size : Int} {xs : Bs} {d : List Int × List Bs} {ms : List MD} (h : IsN size xs d ms) : decNE size xs = 0 ∧ decND size xs = (d, ms) := by
  have := decNo_is h
  exact ⟨by rw [decNE, if_neg (by rw [isN_sized h]; decide), this]; rfl, by rw [decND, this]; rfl⟩
theorem decNE_1 {size : Int} {xs : Bs} (h : sizedB size = false) : decNE size xs = 1 ∧ decND size xs = (([], []), []) := by
  have : decNo size xs = none := dif_neg fun g => by rw [h] at g; cases g.1
  exact ⟨by rw [decNE, if_pos h], by rw [decND, this]; rfl⟩
theorem decNE_84 {size : Int} {xs : Bs} (hs : sizedB size = true) (h : ∀ d ms, ¬ IsN size xs d ms) : decNE size xs = 84 ∧ decND size xs = (([], []), []) := by
  have := decNo_no h
  exact ⟨by rw [decNE, if_neg (by rw [hs]; decide), this]; rfl, by rw [decND, this]; rfl⟩
abbrev DndR (size : Int) (xs : Bs) (H : List Ck) : Value → List Ck → Prop := fun v H' => ∃ n : Nd, v = .tuple #[.agg n.cells.toArray, .int .i64 (decNE size xs)] ∧ (n.k.d, n.md) = decND size xs ∧ H' = oN n H
theorem dndR_1 {size : Int} {xs : Bs} (h : sizedB size = false) : DndR size xs H (.tuple #[.agg nd0.cells.toArray, .int .i64 1]) (oN nd0 H) := ⟨nd0, by rw [(decNE_1 h).1], by rw [(decNE_1 h).2]; rfl, rfl⟩
theorem dndR_84 {size : Int} {xs : Bs} (hs : sizedB size = true) (h : ∀ d ms, ¬ IsN size xs d ms) : DndR size xs H (.tuple #[.agg nd0.cells.toArray, .int .i64 84]) (oN nd0 H) := ⟨nd0, by rw [(decNE_84 hs h).1], by rw [(decNE_84 hs h).2]; rfl, rfl⟩
theorem dndR_0 {size : Int} {xs : Bs} {n : Nd} (h : IsN size xs n.k.d n.md) : DndR size xs H (.tuple #[.agg n.cells.toArray, .int .i64 0]) (oN n H) := ⟨n, by rw [(decNE_0 h).1], by rw [(decNE_0 h).2], rfl⟩
theorem nbeq_s {a a' : Option Addr} {c c' : Nat} {xs ys : Bs} (ha : RBy w0 H a c xs) (hb : RBy w0 H a' c' ys) : FnV Try.prog w0 H 40 #[.slice a xs.length c, .slice a' ys.length c'] (.bool (decide (xs = ys))) := by
  refine fns_enter Try.func40 rfl rfl rfl ?_
  refine sx ?_
  exact s_ret1 rfl rfl ⟨rfl, rfl⟩
theorem ndecode_s {size : Int} {a : Option Addr} {c : Nat} {xs : Bs} (hx : RBy w0 H a c xs) (hl : xs.length ≤ 4294967296) : FnS Try.prog w0 H 12 #[.int .i64 size, .slice a xs.length c] (DndR size xs H) := by
  refine fns_enter Try.func12 rfl rfl rfl ?_
  refine sx ?_
  refine s_alloc fun b4 => ?_
  refine sx ?_
  refine s_callV rfl nsized_s ?_
  refine sx ?_
  refine s_cond rfl (fun t1 => ?_) (fun t1 => ?_)
  · refine sx ?_
    exact s_retcv rfl rfl rfl (by exact at_) rfl (dndR_1 (by simpa using t1)) ((Ent.tl Ent.refl).trans hnilN)
  have hs : sizedB size = true := by simpa using t1
  refine sx ?_
  refine s_call rfl (nread_s (size := size) (xs := xs) (by exact rby) hl) ?_
  rintro _ _ ⟨n, ok, rfl, his, hI, hsum, rfl⟩
  refine ⟨chk_seq, ?_⟩
  refine sx ?_
  refine s_alloc fun b6 => ?_
  refine sx ?_
  have hrn : RNd w0 (.hb b6 39 n.cells :: oN n (.hb b4 39 [.slice none 0 0, .slice none 0 0, .slice none 0 0] :: H)) n := RNd.oN.tl
  refine s_call rfl (nencode_s (n := n) (size := size) hrn hI (by omega)) ?_
  rintro _ _ ⟨a8, c8, rfl, rfl⟩
  refine ⟨chk_seq, ?_⟩
  refine sx ?_
  cases ok
  · have hno : ∀ d ms, ¬ IsN size xs d ms := fun d ms g => by cases (his d ms g).1
    refine sx ?_
    exact s_retcv rfl rfl rfl (by exact at_) rfl (dndR_84 hs hno) ((Ent.tl (Ent.tl (Ent.tl (Ent.tl (Ent.tl (Ent.tl Ent.refl)))))).trans hnilN)
  refine sx ?_
  refine s_lifn rfl (fun t2 => ?_) (fun t2 => ?_)
  · have hno : ∀ d ms, ¬ IsN size xs d ms := fun d ms g => by
      obtain ⟨_, h1, h2⟩ := his d ms g
      rw [h1, h2] at t2
      exact t2 g.1
    refine sx ?_
    exact s_retcv rfl rfl rfl (by exact at_) rfl (dndR_84 hs hno) ((Ent.tl (Ent.tl (Ent.tl (Ent.tl (Ent.tl (Ent.tl Ent.refl)))))).trans hnilN)
  have e0 : encNR size n.k.d n.md = encN n.k.d n.md := if_pos t2
  rw [e0]
  refine sx ?_
  refine s_callV rfl (nbeq_s (xs := encN n.k.d n.md) (ys := xs) (by exact rby) (by exact rby)) ?_
  refine sx ?_
  refine s_ifn rfl (fun t3 => ?_) (fun t3 => ?_)
  · have hno : ∀ d ms, ¬ IsN size xs d ms := fun d ms g => by
      obtain ⟨_, h1, h2⟩ := his d ms g
      rw [h1, h2] at t3
      exact t3 g.2
    refine sx ?_
    exact s_retcv rfl rfl rfl (by exact at_) rfl (dndR_84 hs hno) ((Ent.tl (Ent.tl (Ent.tl (Ent.tl (Ent.tl (Ent.tl Ent.refl)))))).trans hnilN)
  refine sx ?_
  exact s_retcv rfl rfl rfl (by exact at_) rfl (dndR_0 ⟨t2, t3⟩) (Ent.tl (Ent.tl (Ent.head (Ent.head (Ent.head (Ent.tl Ent.refl))))))
end Go.Sx
namespace Go.Sx
open Go Go.Proofs
set_option maxRecDepth 10000
variable {w0 : World} {H : List Ck}
set_option maxHeartbeats 1000000 in
theorem rkids_s {a : Option Addr} {c : Nat} {xs : Bs} (hx : RBy w0 H a c xs) (hl : xs.length ≤ 140737488355328) : FnV Try.prog w0 H 42 #[.slice a xs.length c] (.int .i64 (optI (kidsB xs))) := by
  refine fns_enter Try.func42 rfl rfl rfl ?_
  refine s_kn (Kn.by hx) fun l1 => ?_
  simp only [maxLen] at l1
  refine sx ?_
  refine s_if rfl (fun t1 => ?_) (fun t1 => ?_)
  · rw [kidsB, if_pos (by omega)]
    refine sx ?_
    exact s_ret1 rfl rfl ⟨rfl, rfl⟩
  rw [kidsB, if_neg (by omega)]
  have g0 := by8_lt xs 0
  have g1 := by8_lt xs 1
  have hwd : w16 xs = by8 xs 0 * 256 + by8 xs 1 := rfl
  simp only [by8] at g0 g1 hwd
  refine sx ?_
  refine sx ?_; refine s_dr (.one true 0 (.one true 1 (.one true 2 (.one true 3 (.one true 4 (.one true 5 (.one true 6 (.one true 7 (.one true 8 (.one true 9 (.one true 10 .nil))))))))))) mixed (by kernel_rfl) ?_; refine sx ?_
  refine s_rwC (t := 3) (v' := .int .i64 ((w16 xs : Nat) : Int)) rfl (ci (by omega)) ?_
  have hw := w16_lt xs
  refine sx ?_
  refine s_loop (fun m : Nat × Nat => [(0, .slice a xs.length c), (3, .int .i64 (w16 xs : Int)), (4, .int .i64 (m.2 : Int)), (5, .int .i64 (m.1 : Int))]) (fun _ => H) (fun m => 1 ≤ m.1 ∧ m.2 ≤ xs.length + 300000 ∧ kidsL xs (w16 xs - 1) (2 + 4 * w16 xs) = kidsL xs (w16 xs - m.1) m.2) (fun m => w16 xs - m.1) (1, 2 + 4 * w16 xs) ⟨Nat.le_refl _, by simp only; omega, rfl⟩ ?_
  rintro ⟨i, p⟩ ⟨hi, hp, he⟩
  simp only at hi hp he ⊢
  refine sx ?_
  refine s_if rfl (fun t2 => ?_) (fun t2 => ?_)
  · obtain ⟨k, hk⟩ : ∃ k, w16 xs - i = k + 1 := ⟨w16 xs - i - 1, by omega⟩
    rw [hk, kidsL] at he
    refine sx ?_
    refine s_if rfl (fun t3 => ?_) (fun t3 => ?_)
    · rw [if_pos (by omega)] at he
      rw [he]
      refine sx ?_
      exact s_ret1 rfl rfl ⟨rfl, rfl⟩
    rw [if_neg (by omega)] at he
    have hwp := w16_lt (xs.drop p)
    have g2 := by8_lt (xs.drop p) 0
    have g3 := by8_lt (xs.drop p) 1
    have hwq : w16 (xs.drop p) = by8 (xs.drop p) 0 * 256 + by8 (xs.drop p) 1 := rfl
    simp only [by8_drop, Nat.add_zero] at g2 g3 hwq
    refine sx ?_
    refine sx ?_; refine s_dr (.one true 0 (.one true 1 (.one true 2 (.one true 3 (.one true 4 (.one true 5 (.one true 6 (.one true 7 (.one true 8 (.one true 9 (.one true 10 (.one true 11 (.one true 12 (.one true 13 (.one true 14 (.one true 15 (.one true 16 .nil))))))))))))))))) mixed (by kernel_rfl) ?_; refine sx ?_
    refine s_rwQ (t := 4) (v' := .int .i64 ((p + 2 + w16 (xs.drop p) : Nat) : Int)) rfl (ci (by omega)) ?_
    refine s_again (i + 1, p + 2 + w16 (xs.drop p)) ⟨by simp only; omega, by simp only; omega, ?_⟩ (by simp only; omega)
    simp only
    rw [he]
    congr 1
    omega
  · have hk : w16 xs - i = 0 := by omega
    rw [hk, kidsL] at he
    rw [he]
    refine sx ?_
    refine s_if rfl (fun t3 => ?_) (fun t3 => ?_)
    · rw [if_pos (by omega)]
      refine sx ?_
      exact s_ret1 rfl rfl ⟨rfl, rfl⟩
    · rw [if_neg (by omega)]
      refine sx ?_
      exact s_ret1 rfl rfl ⟨rfl, rfl⟩
theorem decD_len {size : Int} {xs : Bs} : (decD size xs).1.length ≤ 65536 := by
  unfold decD decK
  split
  · cases e : readK xs with
    | none => exact Nat.zero_le _
    | some d =>
      by_cases g : chkK size d = 0
      · have : ((some d).bind fun d => if chkK size d = 0 then some d else none) = some d := if_pos g
        rw [this]
        obtain ⟨hs, ⟨hf, h2, hp⟩, hy, hR, hB⟩ := chkK_0 g
        exact pg_bd hp
      · have : ((some d).bind fun d => if chkK size d = 0 then some d else none) = none := if_neg g
        rw [this]
        exact Nat.zero_le _
  · exact Nat.zero_le _
theorem srcM_sum {xs : Bs} (h2 : (srcM xs).2.2 = false) (h3 : (srcM xs).2.1.length = 0) : xs.length = 4 + sumM (srcM xs).1 := by
  unfold srcM at h2 h3 ⊢
  have h1 := loopS_ok _ _ _ h2
  have hb : ∀ (k : Nat) (out : List MD) (s : SrcB), (loopS k out s).2.2 = false → s.2 = false := by
    intro k
    induction k with
    | zero => intro out s h; exact h
    | succ k ih =>
      intro out s h
      rw [loopS] at h
      split at h
      · exact h
      · rename_i g; simpa using g
  have h4 := numS_ok (k := 4) (s := (xs, false)) (hb _ _ _ h2)
  have h5 : sumM ([] : List MD) = 0 := rfl
  simp only at h4
  omega
set_option maxHeartbeats 1000000 in
theorem rndecode_s {size : Int} {a : Option Addr} {c : Nat} {xs : Bs} (hx : RBy w0 H a c xs) (hl : xs.length ≤ 4294967296) : FnS Try.prog w0 H 13 #[.int .i64 size, .slice a xs.length c] (DndR size xs H) := by
  refine fns_enter Try.func13 rfl rfl rfl ?_
  refine s_kn (Kn.by hx) fun l1 => ?_
  simp only [maxLen] at l1
  refine sx ?_
  refine s_alloc fun b4 => ?_
  refine sx ?_
  refine s_callV rfl rnsized_s ?_
  refine sx ?_
  refine s_cond rfl (fun t1 => ?_) (fun t1 => ?_)
  · refine sx ?_
    exact s_retcv rfl rfl rfl (by exact at_) rfl (dndR_1 (by simpa using t1)) ((Ent.tl Ent.refl).trans hnilN)
  have hs : sizedB size = true := by simpa using t1
  refine sx ?_
  refine s_callV rfl (rkids_s (by exact rby) (by omega)) ?_
  have hkb : ∀ d ms, IsN size xs d ms → kidsB xs = some (bytesK d) ∧ bytesK d + 4 ≤ xs.length := fun d ms g => by
    have h1 := isN_kids g.1
    have h2 := encK_len d
    have h3 := congrArg List.length g.2
    rw [encN, List.length_append, h2, layM_len] at h3
    have h4 : bytesM ms = 4 + sumM ms := rfl
    rw [g.2] at h1
    exact ⟨h1, by omega⟩
  cases hk : kidsB xs with
  | none =>
    have hno : ∀ d ms, ¬ IsN size xs d ms := fun d ms g => by
      have := (hkb d ms g).1
      rw [hk] at this
      cases this
    simp only [optI]
    refine sx ?_
    exact s_retcv rfl rfl rfl (by exact at_) rfl (dndR_84 hs hno) ((Ent.tl Ent.refl).trans hnilN)
  | some p =>
  have hp : p ≤ xs.length := kidsB_le hk
  simp only [optI]
  have hpl : (xs.take p).length = p := by rw [List.length_take]; omega
  have hdl : (xs.drop p).length = xs.length - p := List.length_drop
  have hK : ∀ d ms, IsN size xs d ms → xs.take p = encK d ∧ decE size (xs.take p) = 0 ∧ decD size (xs.take p) = d ∧ srcM (xs.drop p) = (ms, ([], false)) := fun d ms g => by
    have h1 := (hkb d ms g).1
    rw [hk] at h1
    injection h1 with h1
    have h2 := encK_len d
    have h3 : xs.take p = encK d := by
      rw [← g.2, encN, h1, ← h2]
      exact List.take_left
    have h4 := dec_back (chkN_0 g.1).1
    have h5 : xs.drop p = layM ms := by
      rw [← g.2, encN, h1, ← h2]
      exact List.drop_left
    refine ⟨h3, by rw [h3]; exact h4.1, by rw [h3]; exact h4.2, ?_⟩
    rw [h5]
    exact srcM_enc (chkN_canon g.1) (isN_len g.1)
  refine sx ?_
  refine s_rw (t := 29) (v' := .slice a (xs.take p).length c) rfl (by rw [hpl]) ?_
  refine s_call rfl (rdecode_s (size := size) (xs := xs.take p) (RBy.take (by exact rby) (by omega)) (by omega)) ?_
  rintro _ _ ⟨k, rfl, hkd, rfl⟩
  refine ⟨chk_seq, ?_⟩
  have hkI : ∀ n ∈ k.ps, I64 n := fun n hn => by
    have : n ∈ k.d.1 := hn
    rw [hkd] at this
    have := decD_I64 n this
    constructor <;> omega
  generalize hee : decE size (xs.take p) = e at hK ⊢
  refine sx ?_
  refine s_alloc fun b8 => ?_
  refine sx ?_
  refine s_rw (t := 36) (v' := .slice (Sx.sl a c p 1) (xs.drop p).length (c - p)) rfl (by rw [hdl]) ?_
  refine s_call rfl (rread7_s (xs := xs.drop p) (RBy.drop (by exact rby) (by omega)) (by omega)) ?_
  rintro _ _ ⟨ma, mc, ms, q, rfl, hmd, hq, hrest, hst, rfl⟩
  refine ⟨chk_seq, ?_⟩
  have hsum : (srcM (xs.drop p)).2.2 = false → q = (xs.drop p).length → sumM (ms.map Mg.d) ≤ 4294967296 := fun h1 h2 => by
    have h3 : (srcM (xs.drop p)).2.1.length = 0 := by rw [hrest, List.length_drop]; omega
    have := srcM_sum h1 h3
    rw [hmd]
    omega
  have hM : ∀ d ms', IsN size xs d ms' → (srcM (xs.drop p)).2.2 = false ∧ q = (xs.drop p).length ∧ ms.map Mg.d = ms' := fun d ms' g => by
    have h1 := (hK d ms' g).2.2.2
    rw [h1] at hmd hrest
    simp only at hmd hrest
    have h2 := congrArg List.length hrest
    rw [List.length_drop] at h2
    simp only [List.length_nil] at h2
    exact ⟨by rw [h1], by omega, hmd⟩
  have hkl : k.ps.length ≤ 65536 := by
    have := decD_len (size := size) (xs := xs.take p)
    rw [← hkd] at this
    exact this
  generalize (srcM (xs.drop p)).2.2 = bad at hsum hM ⊢
  refine sx ?_
  refine s_lifn rfl (fun t2 => ?_) (fun t2 => ?_)
  · have hno : ∀ d ms, ¬ IsN size xs d ms := fun d ms g => t2 (hK d ms g).2.1
    refine sx ?_
    exact s_retcv rfl rfl rfl (by exact at_) rfl (dndR_84 hs hno) ((Ent.tl (Ent.tl (Ent.tl (Ent.tl (Ent.tl Ent.refl))))).trans hnilN)
  cases bad
  rotate_left
  · have hno : ∀ d ms, ¬ IsN size xs d ms := fun d ms g => by cases (hM d ms g).1
    refine sx ?_
    exact s_retcv rfl rfl rfl (by exact at_) rfl (dndR_84 hs hno) ((Ent.tl (Ent.tl (Ent.tl (Ent.tl (Ent.tl Ent.refl))))).trans hnilN)
  refine sx ?_
  refine s_ifn rfl (fun t3 => ?_) (fun t3 => ?_)
  · have hno : ∀ d ms, ¬ IsN size xs d ms := fun d ms g => by
      have := (hM d ms g).2.1
      omega
    refine sx ?_
    exact s_retcv rfl rfl rfl (by exact at_) rfl (dndR_84 hs hno) ((Ent.tl (Ent.tl (Ent.tl (Ent.tl (Ent.tl Ent.refl))))).trans hnilN)
  have hsum := hsum rfl (by omega)
  refine sx ?_
  refine s_rw (t := 58) (v' := .agg (Nd.cells ⟨k, ma, mc, ms⟩).toArray) rfl rfl ?_
  refine s_alloc fun b13 => ?_
  refine sx ?_
  refine s_entL (.hb b13 39 (Nd.cells ⟨k, ma, mc, ms⟩) :: oN ⟨k, ma, mc, ms⟩ (.hb b4 39 [.slice none 0 0, .slice none 0 0, .slice none 0 0] :: H)) (by first | exact entq | exact ent) ?_
  have hrn : RNd w0 (.hb b13 39 (Nd.cells ⟨k, ma, mc, ms⟩) :: oN ⟨k, ma, mc, ms⟩ (.hb b4 39 [.slice none 0 0, .slice none 0 0, .slice none 0 0] :: H)) ⟨k, ma, mc, ms⟩ := RNd.oN.tl
  refine s_call rfl (rnencode_s (n := ⟨k, ma, mc, ms⟩) (size := size) hrn (by show k.ps.length * 8 ≤ _; omega) (by show sumM (ms.map Mg.d) ≤ _; omega)) ?_
  rintro _ _ ⟨a8, c8, rfl, rfl⟩
  refine ⟨chk_seq, ?_⟩
  refine sx ?_
  refine s_lifn rfl (fun t4 => ?_) (fun t4 => ?_)
  · have hno : ∀ d ms, ¬ IsN size xs d ms := fun d ms' g => by
      have h1 := (hK d ms' g).2.2.1
      have h2 := (hM d ms' g).2.2
      rw [← hkd] at h1
      apply t4
      show chkN size k.d (ms.map Mg.d) = 0
      rw [h1, h2]
      exact g.1
    refine sx ?_
    exact s_retcv rfl rfl rfl (by exact at_) rfl (dndR_84 hs hno) ((Ent.tl (Ent.tl (Ent.tl (Ent.tl (Ent.tl (Ent.tl Ent.refl)))))).trans hnilN)
  have e0 : encNR size (Nd.k ⟨k, ma, mc, ms⟩).d (Nd.md ⟨k, ma, mc, ms⟩) = encN k.d (ms.map Mg.d) := if_pos t4
  rw [e0]
  refine sx ?_
  refine s_ifn rfl (fun t5 => ?_) (fun t5 => ?_)
  · have hno : ∀ d ms, ¬ IsN size xs d ms := fun d ms' g => by
      have h1 := (hK d ms' g).2.2.1
      have h2 := (hM d ms' g).2.2
      rw [← hkd] at h1
      rw [h1, h2] at t5
      exact t5 g.2
    refine sx ?_
    exact s_retcv rfl rfl rfl (by exact at_) rfl (dndR_84 hs hno) ((Ent.tl (Ent.tl (Ent.tl (Ent.tl (Ent.tl (Ent.tl Ent.refl)))))).trans hnilN)
  refine sx ?_
  exact s_retcv rfl rfl rfl (by exact at_) rfl (dndR_0 (n := ⟨k, ma, mc, ms⟩) ⟨t4, t5⟩) (Ent.tl (Ent.tl (Ent.head (Ent.head (Ent.head (Ent.tl Ent.refl))))))
end Go.Sx
