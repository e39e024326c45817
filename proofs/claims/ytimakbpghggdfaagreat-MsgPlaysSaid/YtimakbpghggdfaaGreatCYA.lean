/- Part of a proof: the document's Says, Get, Encode, Decode, Copy, Range, Within, walked. -/
import Derived.Test.YtimakbpghggdfaaGreatCZMj
namespace Go.Sx
open Go Go.Proofs
set_option maxRecDepth 10000
variable {w0 : World} {H : List Ck}
theorem rcopy7_s {m : Mg} (hm : RMg w0 H m) (h1 : m.lo.length ≤ 140737488355328) (h2 : m.hi.length ≤ 140737488355328) (h3 : m.v.length ≤ 140737488355328) : FnS Tryz.prog w0 H 127 #[.agg m.cells.toArray] (fun v H' => ∃ m' : Mg, v = .agg m'.cells.toArray ∧ m'.d = m.d ∧ H' = oM m' ++ H) := by
  refine fns_enter Tryz.func127 rfl rfl rfl ?_
  have hlo := hm.lo
  have hhi := hm.hi
  have hv := hm.v
  refine sx ?_
  refine s_boxA rfl fun b1 => ?_
  refine sx ?_
  refine s_alloc fun b2 => ?_
  refine sx ?_
  refine s_call rfl (qcopy0_s (xs := m.lo) (by exact rby) h1) ?_
  rintro _ _ ⟨la, rfl, rfl⟩
  refine ⟨chk_seq, ?_⟩
  refine sx ?_
  refine s_call rfl (qcopy0_s (xs := m.hi) (by exact rby) h2) ?_
  rintro _ _ ⟨ha, rfl, rfl⟩
  refine ⟨chk_seq, ?_⟩
  refine sx ?_
  refine s_call rfl (qcopy0_s (xs := m.v) (by exact rby) h3) ?_
  rintro _ _ ⟨va, rfl, rfl⟩
  refine ⟨chk_seq, ?_⟩
  refine sx ?_
  exact s_retc rfl rfl (by exact at_) rfl ⟨⟨m.st, m.kd, la, m.lo.length, m.lo, ha, m.hi.length, m.hi, va, m.v.length, m.v⟩, rfl, rfl, rfl⟩ (by exact ent)
theorem rsays_s {m : Mg} {a : Option Addr} {c : Nat} {key : Bs} (hm : RMg w0 H m) (hk : RBy w0 H a c key) : FnV Tryz.prog w0 H 124 #[.agg m.cells.toArray, .slice a key.length c] (.bool (hasB (saidR m.d) key)) := by
  refine fns_enter Tryz.func124 rfl rfl rfl ?_
  have hlo := hm.lo
  have hhi := hm.hi
  have one : m.kd = 1 ∨ m.kd = 2 → hasB (saidR m.d) key = decide (m.lo = key) := fun h => by
    rw [Bool.eq_iff_iff, decide_eq_true_iff, said_one h, has_one]; exact eq_comm
  refine sx ?_
  refine s_boxA rfl fun b2 => ?_
  refine sx ?_
  refine s_if rfl (fun t1 => ?_) (fun t1 => ?_)
  · refine sx ?_
    refine s_if rfl (fun _ => ?_) (fun g => absurd t1 g)
    refine sx ?_
    refine s_callV rfl (qsame_s (xs := m.lo) (ys := key) hlo.tl hk.tl) ?_
    refine sx ?_
    exact s_ret1 rfl rfl ⟨by rw [one (.inl t1)], rfl⟩
  refine sx ?_
  refine s_if rfl (fun t2 => ?_) (fun t2 => ?_)
  · refine sx ?_
    refine s_callV rfl (qsame_s (xs := m.lo) (ys := key) hlo.tl hk.tl) ?_
    refine sx ?_
    exact s_ret1 rfl rfl ⟨by rw [one (.inr t2)], rfl⟩
  refine sx ?_
  refine s_if rfl (fun t3 => ?_) (fun t3 => ?_)
  · have h3 : hasB (saidR m.d) key = (!decide (cmp key m.lo < 0) && decide (cmp key m.hi < 0)) := by
      rw [said_cut (m := m.d) t3]; unfold hasB; rw [Bool.false_or]
    refine sx ?_
    refine s_callV rfl (qless_s (xs := key) (ys := m.lo) hk.tl hlo.tl) ?_
    refine sx ?_
    refine s_callV rfl (qless_s (xs := key) (ys := m.hi) hk.tl hhi.tl) ?_
    refine sx ?_
    refine s_lifn rfl (fun t4 => ?_) (fun t4 => ?_)
    · refine sx ?_
      exact s_ret1 rfl rfl ⟨by rw [h3, decide_eq_false t4, Bool.not_false, Bool.true_and], rfl⟩
    · refine sx ?_
      exact s_ret1 rfl rfl ⟨by rw [h3, decide_eq_true t4]; rfl, rfl⟩
  · have : saidR m.d = t30 := by unfold saidR; rw [if_neg (fun g => g.elim t1 t2), if_neg t3]
    refine sx ?_
    refine s_ret1 rfl rfl ⟨?_, rfl⟩
    rw [this]
    rw [Bool.eq_false_iff.2 (has_em (key := key) emR_t30)]
set_option maxHeartbeats 2000000 in
theorem rget7_s {a a2 : Option Addr} {c c2 : Nat} {ms : List Mg} {key : Bs} (hx : RMs w0 H a c ms) (hy : RBy w0 H a2 c2 key) (hz : ∀ m ∈ ms, m.v.length ≤ 140737488355328) :
    FnS Tryz.prog w0 H 92 #[.slice a ms.length c, .slice a2 key.length c2] (fun v H' => ∃ va vc, v = .tuple #[.bool (getM (ms.map Mg.d) key).isSome, .bool (isM (getM (ms.map Mg.d) key)), .slice va (valM (getM (ms.map Mg.d) key)).length vc] ∧ H' = ob va vc (valM (getM (ms.map Mg.d) key)) :: H) := by
  refine fns_enter Tryz.func92 rfl rfl rfl ?_
  have hms := hx.sl
  refine s_kn (Kn.sl hms) fun l1 => ?_
  simp only [maxLen] at l1
  refine sx ?_
  refine s_loop (fun k : Nat => [(0, .slice a ms.length c), (1, .slice a2 key.length c2), (7, .int .i64 ((k : Int) - 1))]) (fun _ => H) (fun k => k ≤ ms.length ∧ getM ((ms.drop k).map Mg.d) key = none) (fun k => k) ms.length ⟨Nat.le_refl _, by rw [List.drop_length]; rfl⟩ ?_
  rintro k ⟨hk, hg⟩
  refine sx ?_
  refine s_if rfl (fun t1 => ?_) (fun t1 => ?_)
  · have t1 : 0 ≤ (k : Int) - 1 := t1
    obtain ⟨j, rfl⟩ : ∃ j, k = j + 1 := ⟨k - 1, by omega⟩
    obtain ⟨m, hm⟩ := get_lt ms j (by omega)
    have hrm := hx.el m (List.mem_of_getElem? hm)
    have z2 := hz m (List.mem_of_getElem? hm)
    have hdm : getM ((ms.drop j).map Mg.d) key = if hasB (saidR m.d) key = true then some (if m.kd = 1 then some m.v else none) else none := by
      rw [dropG hm, List.map_cons, getM, hg]
    have hall : getM ((ms.drop j).map Mg.d) key ≠ none → getM (ms.map Mg.d) key = getM ((ms.drop j).map Mg.d) key := fun h => by
      conv => lhs; rw [← List.take_append_drop j ms, List.map_append, getM_app]
      cases hq : getM ((ms.drop j).map Mg.d) key with
      | none => exact absurd hq h
      | some o => rfl
    refine s_rwC (t := 7) (v' := .int .i64 (j : Int)) rfl (ci (by omega)) ?_
    refine sx ?_
    refine s_callV rfl (rsays_s (m := m) (key := key) hrm hy) ?_
    refine sx ?_
    cases hh : hasB (saidR m.d) key
    · rw [if_neg (by rw [hh]; decide)] at hdm
      refine sx ?_
      refine s_again j ⟨by omega, hdm⟩ (by omega)
    · rw [if_pos hh] at hdm
      have hall := hall (by rw [hdm]; simp)
      rw [hdm] at hall
      rw [hall]
      refine sx ?_
      refine s_if rfl (fun t2 => ?_) (fun t2 => ?_)
      · rw [if_pos t2]
        have hmv := hrm.v
        refine sx ?_
        refine s_call rfl (qcopy_s (xs := m.v) hmv z2) ?_
        rintro _ _ ⟨a1, rfl, rfl⟩
        refine ⟨chk_seq, ?_⟩
        refine sx ?_
        exact s_ret3 rfl rfl rfl rfl ⟨a1, m.v.length, rfl, rfl⟩
      · rw [if_neg t2]
        refine sx ?_
        exact s_ret3 rfl rfl rfl rfl ⟨none, 0, rfl, rfl⟩ Ent.nilS
  · have t1 : ¬ 0 ≤ (k : Int) - 1 := t1
    obtain rfl : k = 0 := by omega
    rw [List.drop_zero] at hg
    rw [hg]
    refine sx ?_
    exact s_ret3 rfl rfl rfl rfl ⟨none, 0, rfl, rfl⟩ (show Ent H (ob none 0 [] :: H) from Ent.nilS)
theorem rencode7_s {size : Int} {a : Option Addr} {c : Nat} {ms : List Mg} (hx : RMs w0 H a c ms) (hb : sumM (ms.map Mg.d) ≤ 35184372088832) :
    FnS Tryz.prog w0 H 99 #[.int .i64 size, .slice a ms.length c] (fun v H' => ∃ a' c', v = .tuple #[.slice a' (encL size (ms.map Mg.d)).length c', .int .i64 (chkM size (ms.map Mg.d))] ∧ H' = ob a' c' (encL size (ms.map Mg.d)) :: H) := by
  refine fns_enter Tryz.func99 rfl rfl rfl ?_
  refine sx ?_
  refine s_callV rfl (rmcheck_s hx) ?_
  refine sx ?_
  refine s_ifn rfl (fun t1 => ?_) (fun t1 => ?_)
  · refine sx ?_
    rw [encL, if_neg t1]
    refine s_ret2 rfl rfl rfl ⟨none, 0, rfl, rfl⟩ Ent.nilS
  rw [encL, if_pos t1, t1]
  refine sx ?_
  refine s_call rfl (rlay_s hx (chkM_canon t1) hb) ?_
  rintro _ _ ⟨a', c', rfl, rfl⟩
  refine ⟨chk_seq, ?_⟩
  refine sx ?_
  exact s_ret2 rfl rfl rfl ⟨a', c', rfl, rfl⟩
set_option maxHeartbeats 2000000 in
theorem rdecode7_s {size : Int} {a : Option Addr} {c : Nat} {xs : Bs} (hx : RBy w0 H a c xs) (hl : xs.length ≤ 140737488355328) : FnS Tryz.prog w0 H 100 #[.int .i64 size, .slice a xs.length c] (DcmR size xs H) := by
  refine fns_enter Tryz.func100 rfl rfl rfl ?_
  have stp : StopAt 1 := trivial
  refine sxs ?_
  clear stp
  refine s_cut (ι := Bool) (fun t => [(0, .int .i64 size), (1, .slice a xs.length c), (23, .bool t)]) (fun _ => H) (fun t => t = !sizedB size) ?_ ?_
  · refine sx ?_
    refine s_lifn rfl (fun t1 => ?_) (fun t1 => ?_)
    · refine sx ?_
      refine s_lifn rfl (fun t2 => ?_) (fun t2 => ?_)
      · refine sx ?_
        refine s_lifn rfl (fun t3 => ?_) (fun t3 => ?_)
        · refine sx ?_
          refine s_mid (!decide (size = 4096)) ?_
          simp [sizedB, t1, t2, t3]
        · refine sx ?_
          refine s_mid false ?_
          simp [sizedB, t3]
      · refine sx ?_
        refine s_mid false ?_
        simp [sizedB, t2]
    · refine sx ?_
      refine s_mid false ?_
      simp [sizedB, t1]
  rintro _ rfl
  cases hs : sizedB size
  · have e1 : decME size xs = 1 := by rw [decME, if_pos hs]
    have e2 : decM size xs = none := by rw [decM, if_neg (by rw [hs]; simp)]
    refine sx ?_
    exact s_ret2 rfl rfl rfl ⟨none, 0, [], by rw [e1]; rfl, by rw [e2]; rfl, rfl⟩ nilM
  refine sx ?_
  refine s_call rfl (rread7_s hx hl) ?_
  rintro _ _ ⟨oa, oc, ms, p, rfl, hms, hp, hdr, _, rfl⟩
  refine ⟨chk_seq, ?_⟩
  have hrm : RMs w0 (ol 35 oa oc ms :: stars oM ms :: H) oa oc ms := RMs.stG
  have hpl : (srcM xs).2.1.length = xs.length - p := by rw [hdr, List.length_drop]
  have bad : decM size xs = none → DcmR size xs H (.tuple #[.slice none 0 0, .int .i64 73]) (ol 35 none 0 ([] : List Mg) :: stars oM ([] : List Mg) :: H) := fun h => ⟨none, 0, [], by rw [decME, if_neg (by rw [hs]; decide), h]; rfl, by rw [h]; rfl, rfl⟩
  refine sx ?_
  refine s_callV rfl (rmcheck_s (size := size) (ms := ms) hrm) ?_
  rw [hms]
  cases hb : (srcM xs).2.2
  · refine sx ?_
    refine s_lifn rfl (fun t4 => ?_) (fun t4 => ?_)
    · have h := bad (by rw [decM, if_neg]; rintro ⟨_, _, g, _⟩; omega)
      refine sx ?_
      exact s_ret2 rfl rfl rfl h (Ent.trans (H' := H) (Ent.tl (Ent.tl Ent.refl)) nilM)
    · refine sx ?_
      refine s_ifn rfl (fun t5 => ?_) (fun t5 => ?_)
      · have h := bad (by rw [decM, if_neg]; rintro ⟨_, _, _, g⟩; exact t5 g)
        refine sx ?_
        exact s_ret2 rfl rfl rfl h (Ent.trans (H' := H) (Ent.tl (Ent.tl Ent.refl)) nilM)
      · have e : decM size xs = some (srcM xs).1 := by rw [decM, if_pos ⟨hs, hb, by omega, t5⟩]
        refine sx ?_
        exact s_ret2 rfl rfl rfl ⟨oa, oc, ms, by rw [decME, if_neg (by rw [hs]; decide), e]; rfl, by rw [e]; exact hms, rfl⟩
  · have h := bad (by rw [decM, if_neg]; rintro ⟨_, g, _⟩; rw [hb] at g; cases g)
    refine sx ?_
    exact s_ret2 rfl rfl rfl h (Ent.trans (H' := H) (Ent.tl (Ent.tl Ent.refl)) nilM)
/-- The keys of which a message says something. -/
theorem rrange7_s {m : Mg} (hm : RMg w0 H m) (h1 : m.lo.length ≤ 140737488355327) (h2 : m.hi.length ≤ 140737488355328) : FnS Tryz.prog w0 H 129 #[.agg m.cells.toArray] (fun v H' => ∃ (r : Rg) (L : List Ck), v = .agg r.cells.toArray ∧ r.d = foR (saidR m.d) ∧ H' = .star L :: H ∧ ∀ H0, RMg w0 H0 m → RRg w0 (.star L :: H0) r) := by
  refine fns_enter Tryz.func129 rfl rfl rfl ?_
  have hlo := hm.lo
  have hhi := hm.hi
  have hone : m.kd = 1 ∨ m.kd = 2 → foR (saidR m.d) = (m.lo, m.lo ++ [0], false) := fun h => by
    have h3 : ¬ emR (saidR m.d) = true := fun g => has_em g (key := m.lo) (by rw [said_one h, has_one])
    rw [(said_form m.d).resolve_right h3, said_one h]
  refine sx ?_
  refine s_boxA rfl fun b1 => ?_
  refine sx ?_
  refine s_alloc fun b2 => ?_
  refine sx ?_
  refine s_if rfl (fun t1 => ?_) (fun t1 => ?_)
  · refine sx ?_
    refine s_if rfl (fun _ => ?_) (fun g => absurd t1 g)
    refine sx ?_; refine s_drR (.hb b2 53 [.slice none 0 0, .slice none 0 0, .bool false]) (by exact rm) (.one true 0 (.one true 1 (.one true 2 (.one true 3 (.one false 4 (.one true 5 (.one false 6 .nil))))))) mixed (by kernel_rfl) ?_; refine sx ?_
    refine s_call rfl (qnext_s (xs := m.lo) hlo.tl.tl h1) ?_
    rintro _ _ ⟨na, nc, rfl, rfl⟩
    refine ⟨chk_held (Ent.tl (Ent.tl Ent.refl)), ?_⟩
    refine sx ?_
    exact s_retc rfl rfl (by exact at_) rfl ⟨⟨m.la, m.lc, m.lo, na, nc, m.lo ++ [0], false⟩, [ob na nc (m.lo ++ [0])], rfl, (hone (.inl t1)).symm, rfl, fun H0 h => ⟨h.lo.tl, RBy.ent (H' := ob na nc (m.lo ++ [0]) :: H0) RBy.hd (Ent.open Ent.refl)⟩⟩ (Ent.trans (H' := ob na nc (m.lo ++ [0]) :: H) (by exact ent) (Ent.star Ent.refl))
  refine sx ?_
  refine s_if rfl (fun t2 => ?_) (fun t2 => ?_)
  · skip
    refine sx ?_; refine s_drR (.hb b2 53 [.slice none 0 0, .slice none 0 0, .bool false]) (by exact rm) (.one true 0 (.one true 1 (.one true 2 (.one true 3 (.one false 4 (.one true 5 (.one false 6 .nil))))))) mixed (by kernel_rfl) ?_; refine sx ?_
    refine s_call rfl (qnext_s (xs := m.lo) hlo.tl.tl h1) ?_
    rintro _ _ ⟨na, nc, rfl, rfl⟩
    refine ⟨chk_held (Ent.tl (Ent.tl Ent.refl)), ?_⟩
    refine sx ?_
    exact s_retc rfl rfl (by exact at_) rfl ⟨⟨m.la, m.lc, m.lo, na, nc, m.lo ++ [0], false⟩, [ob na nc (m.lo ++ [0])], rfl, (hone (.inr t2)).symm, rfl, fun H0 h => ⟨h.lo.tl, RBy.ent (H' := ob na nc (m.lo ++ [0]) :: H0) RBy.hd (Ent.open Ent.refl)⟩⟩ (Ent.trans (H' := ob na nc (m.lo ++ [0]) :: H) (by exact ent) (Ent.star Ent.refl))
  refine sx ?_
  refine s_if rfl (fun t3 => ?_) (fun t3 => ?_)
  · refine sx ?_
    refine s_rw (t := 20) (v' := .agg (Rg.cells ⟨m.la, m.lc, m.lo, m.ha, m.hc, m.hi, false⟩).toArray) rfl rfl ?_
    refine s_call rfl (qform_s (r := ⟨m.la, m.lc, m.lo, m.ha, m.hc, m.hi, false⟩) ⟨hlo.tl.tl, hhi.tl.tl⟩ ⟨by show m.lo.length ≤ _; omega, h2⟩) ?_
    rintro _ _ ⟨r, rfl, hrd, rfl⟩
    refine ⟨chk_seq, ?_⟩
    refine sx ?_
    have e : r.d = foR (saidR m.d) := by rw [hrd, said_cut (m := m.d) t3]
    have hrr : ∀ H0, RRg w0 (oR r :: H0) r := fun H0 => rrg
    exact s_retc rfl rfl (by exact at_) rfl ⟨r, [oR r], rfl, e, rfl, fun H0 _ => ⟨(hrr H0).lo.ent (Ent.open Ent.refl), (hrr H0).hi.ent (Ent.open Ent.refl)⟩⟩ (Ent.trans (H' := oR r :: H) (by exact ent) (Ent.star Ent.refl))
  · have e : saidR m.d = t30 := by unfold saidR; rw [if_neg (fun g => g.elim t1 t2), if_neg t3]
    refine sx ?_
    exact s_retc rfl rfl (by exact at_) rfl ⟨rg0, [], rfl, by rw [e]; unfold foR; rw [if_pos emR_t30], rfl, fun H0 _ => ⟨RBy.nil, RBy.nil⟩⟩ (Ent.trans (H' := H) (by exact ent) Ent.star0)
end Go.Sx

