/- Part of a proof: several parts of a walk, one behind the other. -/
import Derived.Test.YtimakbpghggdfaaGreatCPF
import Derived.Test.YtimakbpghggdfaaGreatCO2j
namespace Go.Sx
open Go Go.Proofs
set_option maxRecDepth 10000
variable {w0 : World} {H : List Ck}
theorem bends_s {K lc wc : Nat} {sf : List Value} {la wa : Option Addr} {ls : List SB} {ws : List St} (hl : ls.length ≤ 3000000000000) (hsm : ∀ s ∈ ls, s.xs.length ≤ 140737488355000) (hsame : ls.map SB.xs = ws.map St.xs) :
    FnS Tryz.prog w0 (.hb K 69 (.slice la ls.length lc :: .slice wa ws.length wc :: sf) :: ol 24 la lc ls :: fam 5 ls :: ol 9 wa wc ws :: H) 68 #[.pointer (some ⟨K, 0, none⟩)]
      (fun v H' => v = .bool true ∧ H' = .hb K 69 (.slice la ls.length lc :: .slice wa ws.length wc :: sf) :: H) := by
  have hwl : ws.length = ls.length := by
    have := congrArg List.length hsame
    simpa using this.symm
  refine fns_enter Tryz.func68 rfl rfl rfl ?_
  refine sx ?_
  refine s_loop (fun i : Nat => [(0, .pointer (some ⟨K, 0, none⟩)), (3, .int .i64 i)]) (fun i => .hb K 69 (.slice la ls.length lc :: .slice wa ws.length wc :: sf) :: ol 24 la lc ls :: fam 5 ls :: ol 9 wa wc ws :: H)
    (fun i => i ≤ ls.length) (fun i => ls.length - i) 0 (Nat.zero_le _) ?_
  intro i hi
  refine sx ?_
  refine s_if rfl (fun t1 => ?_) (fun t1 => ?_)
  · obtain ⟨s, hs⟩ := get_lt ls i (by omega)
    obtain ⟨t, ht⟩ := get_lt ws i (by omega)
    have hst : s.xs = t.xs := by
      have h1 := congrArg (fun l => l[i]?) hsame
      simpa [hs, ht] using h1
    have r1 : RBy w0 (.hb K 69 (.slice la ls.length lc :: .slice wa ws.length wc :: sf) :: ol 24 la lc ls :: fam 5 ls :: ol 9 wa wc ws :: H) s.a s.c s.xs := (fam_by (List.mem_of_getElem? hs)).tl.tl
    have r2 : RSl w0 (.hb K 69 (.slice la ls.length lc :: .slice wa ws.length wc :: sf) :: ol 24 la lc ls :: fam 5 ls :: ol 9 wa wc ws :: H) wa wc ws := RSl.hd.tl.tl.tl
    have r3 : RSl w0 (.hb K 69 (.slice la ls.length lc :: .slice wa ws.length wc :: sf) :: ol 24 la lc ls :: fam 5 ls :: ol 9 wa wc ws :: H) la lc ls := RSl.hd.tl
    refine sx ?_; refine s_dr (.one true 0 (.one true 1 (.one true 2 (.one true 3 (.one true 4 (.one true 5 (.one true 6 (.one true 7 (.one true 8 (.one true 9 (.one true 10 (.one true 11 (.one true 12 (.one true 13 (.one true 14 (.one true 15 .nil)))))))))))))))) mixed (by kernel_rfl) ?_; refine sx ?_
    refine sx ?_
    refine s_cF rfl (by simp [hst]) ?_
    refine sx ?_
    exact s_again (i + 1) (by omega) (by omega)
  refine sx ?_
  refine s_call rfl (round_s (by' := 1) ⟨by decide, by decide⟩ hl hsm) ?_
  rintro _ _ ⟨rfl, l1, hl1, rfl⟩
  refine ⟨chk_seq, ?_⟩
  have e1 : l1.length = ls.length := (flat_hd hl1).1
  have hs1 : ∀ s ∈ l1, s.xs.length ≤ 140737488355000 := fun s h => by
    have h1 : hd4 s ∈ ls.map hd4 := hl1 ▸ List.mem_map_of_mem h
    obtain ⟨t, h2, h3⟩ := List.mem_map.1 h1
    have h4 := hsm t h2
    have h5 : t.xs.length = s.xs.length := congrArg (fun x => x.2.2) h3
    omega
  have hr := round_s (w0 := w0) (H := ol 9 wa wc ws :: H) (K := K) (by' := 200) (lc := lc) (sf := sf) (v4 := .slice wa ws.length wc) (la := la) (ls := l1) ⟨by decide, by decide⟩ (by omega) hs1
  rw [e1] at hr
  refine sx ?_
  refine s_call rfl hr ?_
  rintro _ _ ⟨rfl, l2, hl2, rfl⟩
  refine ⟨chk_seq, ?_⟩
  refine sx ?_
  refine s_ret1 rfl rfl ⟨rfl, rfl⟩ ?_
  exact Ent.head (Ent.tl (Ent.tl (Ent.tl Ent.refl)))
/-- A book as it must be. -/
structure Ob.Ok (B : Ob) (n : Nat) : Prop where
  same : B.ls.map SB.xs = B.ws.map St.xs
  len : B.ls.length ≤ n
  small : ∀ s ∈ B.ls, s.xs.length ≤ 140737488355000
theorem Ob.Ok.wlen {B : Ob} {n : Nat} (h : B.Ok n) : B.ws.length = B.ls.length := by
  have := congrArg List.length h.same
  simpa using this.symm
abbrev HoldR (B : Ob) (n : Nat) (s : SB) (H : List Ck) : Value → List Ck → Prop := fun _ H' => ∃ B' : Ob, H' = B'.ck :: H ∧ B'.k = B.k ∧ B'.sf = B.sf ∧ B'.Ok n ∧ (∀ t ∈ B.ls, t ∈ B'.ls) ∧ s ∈ B'.ls
theorem holdB_s {B : Ob} {n : Nat} {a a2 : Option Addr} {c c2 : Nat} {xs : Bs} (hB : B.Ok n) (hn : n ≤ 2999999999000) (hx : xs.length ≤ 140737488355000) (hy : RBy w0 H a2 c2 xs) :
    FnS Tryz.prog w0 (ob a c xs :: B.ck :: H) 93 #[.pointer (some ⟨B.k, 0, none⟩), .slice a xs.length c, .slice a2 xs.length c2] (HoldR B (n + 1) ⟨a, c, xs⟩ H) := by
  have hl := hB.len
  have hw := hB.wlen
  refine (hold_s ⟨by omega, by omega⟩ hy).mono ?_
  rintro v H' ⟨la, lc, wa, wc, rfl⟩
  refine ⟨_, rfl, rfl, rfl, ⟨?_, ?_, ?_⟩, fun t h => List.mem_append_left _ h, List.mem_append_right _ (List.mem_singleton.2 rfl)⟩
  · simp only [List.map_append, hB.same, List.map_cons, List.map_nil]
  · simp only [List.length_append, List.length_cons, List.length_nil]; omega
  · intro s hs
    simp only [List.mem_append, List.mem_singleton] at hs
    rcases hs with hs | rfl
    · exact hB.small s hs
    · exact hx
end Go.Sx
namespace Go.Sx
open Go Go.Proofs
set_option maxRecDepth 10000
variable {w0 : World} {H : List Ck}
theorem qcmp_s {a a' : Option Addr} {c c' : Nat} {xs ys : Bs} (ha : RBy w0 H a c xs) (hb : RBy w0 H a' c' ys) : FnV Tryz.prog w0 H 120 #[.slice a xs.length c, .slice a' ys.length c'] (.int .i64 (cmp xs ys)) := by
  refine fns_enter Tryz.func120 rfl rfl rfl ?_
  refine s_kn (Kn.by ha) fun l1 => s_kn (Kn.by hb) fun l2 => ?_
  simp only [maxLen] at l1 l2
  have hc := cmp_common xs ys
  refine sx ?_
  refine s_loop (fun k : Nat => [(0, .slice a xs.length c), (1, .slice a' ys.length c'), (5, .int .i64 ((min xs.length ys.length : Nat) : Int)), (6, .int .i64 k)]) (fun _ => H) (fun k => k ≤ xs.length ∧ k ≤ ys.length ∧ ∀ i, i < k → xs.getD i 0 = ys.getD i 0) (fun k => xs.length - k) 0 ⟨Nat.zero_le _, Nat.zero_le _, fun i hi => absurd hi (Nat.not_lt_zero _)⟩ ?_
  rintro k ⟨h1, h2, h3⟩
  refine sx ?_
  refine s_if rfl (fun t1 => ?_) (fun t1 => ?_)
  · refine sx ?_; refine s_dr (.one true 0 (.one true 1 (.one true 2 (.one true 3 (.one true 4 (.one true 5 (.one true 6 (.one true 7 (.one true 8 .nil))))))))) mixed (by kernel_rfl) ?_; refine sx ?_
    refine s_if rfl (fun t2 => ?_) (fun t2 => ?_)
    · have hne : xs.getD k 0 ≠ ys.getD k 0 := fun e => by rw [e] at t2; exact absurd t2 (by simp)
      have hk := common_eq xs ys k (by omega) (by omega) h3 (.inr (.inr hne))
      refine sx ?_
      refine s_ret1 rfl rfl ⟨?_, rfl⟩
      rw [hc, hk, if_neg (by omega), if_neg (by omega), if_neg]
      rintro (h | h)
      · omega
      · exact absurd (UInt8.lt_asymm h) (by simpa [UInt8.lt_iff_toNat_lt] using t2)
    refine sx ?_; refine s_dr (.one true 0 (.one true 1 (.one true 2 (.one true 3 (.one true 4 (.one true 5 (.one true 6 (.one true 7 (.one true 8 .nil))))))))) mixed (by kernel_rfl) ?_; refine sx ?_
    refine s_if rfl (fun t3 => ?_) (fun t3 => ?_)
    · have hne : xs.getD k 0 ≠ ys.getD k 0 := fun e => by rw [e] at t3; exact absurd t3 (by simp)
      have hk := common_eq xs ys k (by omega) (by omega) h3 (.inr (.inr hne))
      refine sx ?_
      refine s_ret1 rfl rfl ⟨?_, rfl⟩
      rw [hc, hk, if_neg (by omega), if_neg (by omega), if_pos (.inr (by simpa [UInt8.lt_iff_toNat_lt] using t3))]
    · have he : xs.getD k 0 = ys.getD k 0 := by
        apply UInt8.toNat_inj.1
        simp only [UInt8.lt_iff_toNat_lt] at t2 t3
        omega
      refine sx ?_
      refine s_again (k + 1) ⟨by omega, by omega, fun i hi => ?_⟩ (by omega)
      rcases Nat.lt_or_eq_of_le (Nat.lt_succ_iff.1 hi) with h | rfl
      · exact h3 i h
      · exact he
  have hk := common_eq xs ys k (by omega) (by omega) h3 (by omega)
  refine sx ?_
  refine s_if rfl (fun t2 => ?_) (fun t2 => ?_)
  · refine sx ?_
    refine s_ret1 rfl rfl ⟨?_, rfl⟩
    rw [hc, hk, if_neg (by omega), if_pos (by omega)]
  refine sx ?_
  refine s_if rfl (fun t3 => ?_) (fun t3 => ?_)
  · refine sx ?_
    refine s_ret1 rfl rfl ⟨?_, rfl⟩
    rw [hc, hk, if_neg (by omega), if_neg (by omega), if_pos (.inl (by omega))]
  · refine sx ?_
    refine s_ret1 rfl rfl ⟨?_, rfl⟩
    rw [hc, hk, if_pos (by omega)]
theorem qless_s {a a' : Option Addr} {c c' : Nat} {xs ys : Bs} (ha : RBy w0 H a c xs) (hb : RBy w0 H a' c' ys) : FnV Tryz.prog w0 H 121 #[.slice a xs.length c, .slice a' ys.length c'] (.bool (decide (cmp xs ys < 0))) := by
  refine fns_enter Tryz.func121 rfl rfl rfl ?_
  refine sx ?_
  refine s_callV rfl (qcmp_s ha hb) ?_
  refine sx ?_
  exact s_ret1 rfl rfl ⟨rfl, rfl⟩
theorem qcopy_s {a : Option Addr} {c : Nat} {xs : Bs} (ha : RBy w0 H a c xs) (hx : xs.length ≤ 140737488355328) : FnS Tryz.prog w0 H 123 #[.slice a xs.length c] (fun v H' => ∃ a' , v = .slice a' xs.length xs.length ∧ H' = ob a' xs.length xs :: H) := by
  refine fns_enter Tryz.func123 rfl rfl rfl ?_
  refine sx ?_
  refine s_make rfl rfl (by omega) fun b => ?_
  refine sx ?_
  refine s_copy rfl rfl ?_ (ys := xs) (hk0 := by simp)
  have e : xs.take (List.replicate xs.length (0 : UInt8)).length ++ (List.replicate xs.length (0 : UInt8)).drop xs.length = xs := by simp
  rw [e]
  refine sx ?_
  exact s_ret1 rfl rfl ⟨_, rfl, rfl⟩
theorem qempty_s {r : Rg} (hr : RRg w0 H r) : FnV Tryz.prog w0 H 130 #[.agg r.cells.toArray] (.bool (emR r.d)) := by
  have h1 := hr.lo
  have h2 := hr.hi
  obtain ⟨la, lc, lo, ha, hc, hi, all⟩ := r
  have hx := cmp_anti lo hi
  refine fns_enter Tryz.func130 rfl rfl rfl ?_
  refine sx ?_
  refine s_boxA rfl fun b => ?_
  refine sx ?_
  refine s_callV rfl (qcmp_s (by exact rby) (by exact rby)) ?_
  refine sx ?_
  cases all
  · refine sx ?_
    refine s_ret1 rfl rfl ⟨?_, rfl⟩
    simp only [emR, Bool.not_false, Bool.true_and]
    congr 1
    exact decide_eq_decide.2 (by omega)
  · refine sx ?_
    exact s_ret1 rfl rfl ⟨by simp [emR], rfl⟩
def hasB (d : T3) (key : Bs) : Bool := !decide (cmp key d.1 < 0) && (d.2.2 || decide (cmp key d.2.1 < 0))
theorem qhas_s {r : Rg} {a : Option Addr} {c : Nat} {key : Bs} (hr : RRg w0 H r) (ha : RBy w0 H a c key) : FnV Tryz.prog w0 H 122 #[.agg r.cells.toArray, .slice a key.length c] (.bool (hasB r.d key)) := by
  have h1 := hr.lo
  have h2 := hr.hi
  obtain ⟨la, lc, lo, ha', hc, hi, all⟩ := r
  refine fns_enter Tryz.func122 rfl rfl rfl ?_
  refine sx ?_
  refine s_boxA rfl fun b => ?_
  refine sx ?_
  refine s_callV rfl (qless_s (xs := key) (ys := lo) (by exact rby) (by exact rby)) ?_
  refine sx ?_
  refine s_callV rfl (qless_s (xs := key) (ys := hi) (by exact rby) (by exact rby)) ?_
  refine sx ?_
  refine s_lifn rfl (fun t1 => ?_) (fun t1 => ?_)
  · cases all
    · refine sx ?_
      exact s_ret1 rfl rfl ⟨by simp [hasB, t1], rfl⟩
    · refine sx ?_
      exact s_ret1 rfl rfl ⟨by simp [hasB, t1], rfl⟩
  · refine sx ?_
    exact s_ret1 rfl rfl ⟨by simp [hasB, t1], rfl⟩
theorem qform_s {r : Rg} (hr : RRg w0 H r) (hl : r.lo.length ≤ 140737488355328 ∧ r.hi.length ≤ 140737488355328) : FnS Tryz.prog w0 H 157 #[.agg r.cells.toArray] (FoR (foR r.d) H) := by
  have h1 := hr.lo
  have h2 := hr.hi
  obtain ⟨la, lc, lo, ha, hc, hi, all⟩ := r
  simp only at h1 h2 hl
  refine fns_enter Tryz.func157 rfl rfl rfl ?_
  refine sx ?_
  refine s_boxA rfl fun b1 => ?_
  refine sx ?_
  refine s_alloc fun b2 => ?_
  refine sx ?_
  refine s_callV rfl (qempty_s (r := ⟨la, lc, lo, ha, hc, hi, all⟩) (by exact rrg)) ?_
  refine sx ?_
  refine s_cond rfl (fun t1 => ?_) (fun t1 => ?_)
  · refine sx ?_
    refine s_retc rfl rfl (by exact at_) rfl ⟨rg0, rfl, by rw [foR, if_pos t1], rfl⟩ ?_
    exact Ent.trans (H' := H) (by exact ent) hnilR
  cases all
  · refine sx ?_
    refine sx ?_; refine s_drR (.hb b2 53 _) (by exact rm) (.one true 0 (.one true 1 (.one true 3 (.one true 4 (.one false 2 (.one false 5 (.one true 6 (.one false 7 .nil)))))))) mixed (by kernel_rfl) ?_; refine sx ?_
    refine s_call rfl (qcopy_s (xs := lo) (by exact rby) (by omega)) ?_
    rintro _ _ ⟨a5, rfl, rfl⟩
    refine ⟨chk_held (by exact ent), ?_⟩
    refine sx ?_
    refine s_call rfl (qcopy_s (xs := hi) (by exact rby) (by omega)) ?_
    rintro _ _ ⟨a4, rfl, rfl⟩
    refine ⟨chk_held (by exact ent), ?_⟩
    refine sx ?_
    refine s_retc rfl rfl (by exact at_) rfl ⟨⟨a5, lo.length, lo, a4, hi.length, hi, false⟩, rfl, by rw [foR, if_neg (by rw [t1]; simp), if_neg (by simp)], rfl⟩ ?_
    exact Ent.oR (by exact rm) (by exact rm) (by exact ent)
  · refine sx ?_
    refine s_call rfl (qcopy_s (xs := lo) (by exact rby) (by omega)) ?_
    rintro _ _ ⟨a5, rfl, rfl⟩
    refine ⟨chk_seq, ?_⟩
    refine sx ?_
    refine s_retc rfl rfl (by exact at_) rfl ⟨⟨a5, lo.length, lo, none, 0, [], true⟩, rfl, by rw [foR, if_neg (by rw [t1]; simp), if_pos rfl], rfl⟩ ?_
    refine Ent.trans ?_ (Ent.head Ent.nilS |>.trans (Ent.oR (r := ⟨a5, lo.length, lo, none, 0, [], true⟩) Rm.hd Rm.hd Ent.refl))
    exact ent
/-- What both have, as the document says it. -/
def rmeR (a b : T3) : T3 := foR (if cmp a.1 b.1 < 0 then b.1 else a.1, if (a.2.2 && b.2.2) = true then [] else if a.2.2 = true then b.2.1 else if b.2.2 = true then a.2.1 else if cmp b.2.1 a.2.1 < 0 then b.2.1 else a.2.1, a.2.2 && b.2.2)
theorem emR_mono {lo lo' hi hi' : Bs} (h : cmp hi lo ≤ 0) (h1 : cmp lo lo' ≤ 0) (h2 : cmp hi' hi ≤ 0) : emR (lo', hi', false) = true := by
  have := (cmp_lt_trans hi' lo lo' (cmp_lt_trans hi' hi lo h2 h).1 h1).1
  simp [emR, this]
theorem cmp_self (x : Bs) : cmp x x = 0 := (cmp_eq x x).2 rfl
theorem foR_em {d : T3} (h : emR d = true) : foR d = t30 := by rw [foR, if_pos h]
theorem rmeR_eq (a b : T3) : rmeR a b = meR a b := by
  obtain ⟨alo, ahi, aal⟩ := a
  obtain ⟨blo, bhi, bal⟩ := b
  have e1 : (0 < cmp blo alo) ↔ (cmp alo blo < 0) := by have := cmp_anti alo blo; omega
  have l1 : cmp alo (if cmp alo blo < 0 then blo else alo) ≤ 0 := by split <;> rename_i h <;> first | omega | rw [cmp_self]; omega
  have l2 : cmp blo (if cmp alo blo < 0 then blo else alo) ≤ 0 := by
    have := cmp_anti alo blo
    split <;> rename_i h
    · rw [cmp_self]; omega
    · omega
  have h1 : cmp (if cmp bhi ahi < 0 then bhi else ahi) ahi ≤ 0 := by split <;> rename_i h <;> first | omega | rw [cmp_self]; omega
  have h2 : cmp (if cmp bhi ahi < 0 then bhi else ahi) bhi ≤ 0 := by
    have := cmp_anti ahi bhi
    split <;> rename_i h
    · rw [cmp_self]; omega
    · omega
  have hrf : ∀ x : Bs, cmp x x ≤ 0 := fun x => by rw [cmp_self]; omega
  unfold meR rmeR
  simp only [e1]
  generalize (if cmp alo blo < 0 then blo else alo) = lo at *
  by_cases h : (emR (alo, ahi, aal) || emR (blo, bhi, bal)) = true
  · rw [if_pos h]
    rw [Bool.or_eq_true] at h
    apply foR_em
    rcases h with h | h
    · simp only [emR, Bool.and_eq_true, Bool.not_eq_true', decide_eq_true_eq] at h
      obtain ⟨h3, h4⟩ := h
      subst h3
      cases bal
      · simpa using emR_mono h4 l1 h1
      · simpa using emR_mono h4 l1 (hrf ahi)
    · simp only [emR, Bool.and_eq_true, Bool.not_eq_true', decide_eq_true_eq] at h
      obtain ⟨h3, h4⟩ := h
      subst h3
      cases aal
      · simpa using emR_mono h4 l2 h2
      · simpa using emR_mono h4 l2 (hrf bhi)
  · rw [if_neg h]
    cases aal <;> cases bal
    · simp [beR]
    · simp [beR]
    · simp [beR]
    · simp [beR, foR, emR]
theorem qmeet_s {r q : Rg} (hr : RRg w0 H r) (hq : RRg w0 H q) (hl : r.lo.length ≤ 140737488355328 ∧ r.hi.length ≤ 140737488355328) (hl' : q.lo.length ≤ 140737488355328 ∧ q.hi.length ≤ 140737488355328) : FnS Tryz.prog w0 H 128 #[.agg r.cells.toArray, .agg q.cells.toArray] (FoR (meR r.d q.d) H) := by
  have h1 := hr.lo
  have h2 := hr.hi
  have h3 := hq.lo
  have h4 := hq.hi
  obtain ⟨la, lc, lo, ha, hc, hi, al⟩ := r
  obtain ⟨la', lc', lo', ha', hc', hi', al'⟩ := q
  simp only at h1 h2 h3 h4 hl hl'
  refine fns_enter Tryz.func128 rfl rfl rfl ?_
  refine sx ?_
  refine s_boxA rfl fun b2 => ?_
  refine sx ?_
  refine s_boxA rfl fun b3 => ?_
  refine sx ?_
  refine s_alloc fun b4 => ?_
  refine sx ?_
  refine s_callV rfl (qless_s (xs := lo) (ys := lo') (by exact rby) (by exact rby)) ?_
  refine sx ?_
  refine s_if rfl (fun t1 => ?_) (fun t1 => ?_)
  · cases al
    · cases al'
      · refine sx ?_
        refine s_callV rfl (qless_s (xs := hi') (ys := hi) (by exact rby) (by exact rby)) ?_
        refine sx ?_
        refine s_if rfl (fun t2 => ?_) (fun t2 => ?_)
        · refine sx ?_
          refine s_rw (t := 55) (v' := .agg (Rg.cells ⟨la', lc', lo', ha', hc', hi', false⟩).toArray) rfl rfl ?_
          refine s_call rfl (qform_s (r := ⟨la', lc', lo', ha', hc', hi', false⟩) ⟨by exact rby, by exact rby⟩ (by constructor <;> first | exact hl.1 | exact hl.2 | exact hl'.1 | exact hl'.2 | exact Nat.zero_le _)) ?_
          rintro _ _ ⟨x, rfl, hx, rfl⟩
          refine ⟨chk_seq, ?_⟩
          refine sx ?_
          refine s_retc rfl rfl (by exact at_) rfl ⟨x, rfl, ?_, rfl⟩ (by exact ent)
          rw [hx, ← rmeR_eq]
          simp [rmeR, t1, t2]
        · refine sx ?_
          refine s_rw (t := 55) (v' := .agg (Rg.cells ⟨la', lc', lo', ha, hc, hi, false⟩).toArray) rfl rfl ?_
          refine s_call rfl (qform_s (r := ⟨la', lc', lo', ha, hc, hi, false⟩) ⟨by exact rby, by exact rby⟩ (by constructor <;> first | exact hl.1 | exact hl.2 | exact hl'.1 | exact hl'.2 | exact Nat.zero_le _)) ?_
          rintro _ _ ⟨x, rfl, hx, rfl⟩
          refine ⟨chk_seq, ?_⟩
          refine sx ?_
          refine s_retc rfl rfl (by exact at_) rfl ⟨x, rfl, ?_, rfl⟩ (by exact ent)
          rw [hx, ← rmeR_eq]
          simp [rmeR, t1, t2]
      · refine sx ?_
        refine s_rw (t := 42) (v' := .agg (Rg.cells ⟨la', lc', lo', ha, hc, hi, false⟩).toArray) rfl rfl ?_
        refine s_call rfl (qform_s (r := ⟨la', lc', lo', ha, hc, hi, false⟩) ⟨by exact rby, by exact rby⟩ (by constructor <;> first | exact hl.1 | exact hl.2 | exact hl'.1 | exact hl'.2 | exact Nat.zero_le _)) ?_
        rintro _ _ ⟨x, rfl, hx, rfl⟩
        refine ⟨chk_seq, ?_⟩
        refine sx ?_
        refine s_retc rfl rfl (by exact at_) rfl ⟨x, rfl, ?_, rfl⟩ (by exact ent)
        rw [hx, ← rmeR_eq]
        simp [rmeR, t1]
    · cases al'
      · refine sx ?_
        refine s_rw (t := 34) (v' := .agg (Rg.cells ⟨la', lc', lo', ha', hc', hi', false⟩).toArray) rfl rfl ?_
        refine s_call rfl (qform_s (r := ⟨la', lc', lo', ha', hc', hi', false⟩) ⟨by exact rby, by exact rby⟩ (by constructor <;> first | exact hl.1 | exact hl.2 | exact hl'.1 | exact hl'.2 | exact Nat.zero_le _)) ?_
        rintro _ _ ⟨x, rfl, hx, rfl⟩
        refine ⟨chk_seq, ?_⟩
        refine sx ?_
        refine s_retc rfl rfl (by exact at_) rfl ⟨x, rfl, ?_, rfl⟩ (by exact ent)
        rw [hx, ← rmeR_eq]
        simp [rmeR, t1]
      · refine sx ?_
        refine s_rw (t := 26) (v' := .agg (Rg.cells ⟨la', lc', lo', none, 0, [], true⟩).toArray) rfl rfl ?_
        refine s_call rfl (qform_s (r := ⟨la', lc', lo', none, 0, [], true⟩) ⟨by exact rby, by exact rby⟩ (by constructor <;> first | exact hl.1 | exact hl.2 | exact hl'.1 | exact hl'.2 | exact Nat.zero_le _)) ?_
        rintro _ _ ⟨x, rfl, hx, rfl⟩
        refine ⟨chk_seq, ?_⟩
        refine sx ?_
        refine s_retc rfl rfl (by exact at_) rfl ⟨x, rfl, ?_, rfl⟩ (by exact ent)
        rw [hx, ← rmeR_eq]
        simp [rmeR, t1]
  · cases al
    · cases al'
      · refine sx ?_
        refine s_callV rfl (qless_s (xs := hi') (ys := hi) (by exact rby) (by exact rby)) ?_
        refine sx ?_
        refine s_if rfl (fun t2 => ?_) (fun t2 => ?_)
        · refine sx ?_
          refine s_rw (t := 55) (v' := .agg (Rg.cells ⟨la, lc, lo, ha', hc', hi', false⟩).toArray) rfl rfl ?_
          refine s_call rfl (qform_s (r := ⟨la, lc, lo, ha', hc', hi', false⟩) ⟨by exact rby, by exact rby⟩ (by constructor <;> first | exact hl.1 | exact hl.2 | exact hl'.1 | exact hl'.2 | exact Nat.zero_le _)) ?_
          rintro _ _ ⟨x, rfl, hx, rfl⟩
          refine ⟨chk_seq, ?_⟩
          refine sx ?_
          refine s_retc rfl rfl (by exact at_) rfl ⟨x, rfl, ?_, rfl⟩ (by exact ent)
          rw [hx, ← rmeR_eq]
          simp [rmeR, t1, t2]
        · refine sx ?_
          refine s_rw (t := 55) (v' := .agg (Rg.cells ⟨la, lc, lo, ha, hc, hi, false⟩).toArray) rfl rfl ?_
          refine s_call rfl (qform_s (r := ⟨la, lc, lo, ha, hc, hi, false⟩) ⟨by exact rby, by exact rby⟩ (by constructor <;> first | exact hl.1 | exact hl.2 | exact hl'.1 | exact hl'.2 | exact Nat.zero_le _)) ?_
          rintro _ _ ⟨x, rfl, hx, rfl⟩
          refine ⟨chk_seq, ?_⟩
          refine sx ?_
          refine s_retc rfl rfl (by exact at_) rfl ⟨x, rfl, ?_, rfl⟩ (by exact ent)
          rw [hx, ← rmeR_eq]
          simp [rmeR, t1, t2]
      · refine sx ?_
        refine s_rw (t := 42) (v' := .agg (Rg.cells ⟨la, lc, lo, ha, hc, hi, false⟩).toArray) rfl rfl ?_
        refine s_call rfl (qform_s (r := ⟨la, lc, lo, ha, hc, hi, false⟩) ⟨by exact rby, by exact rby⟩ (by constructor <;> first | exact hl.1 | exact hl.2 | exact hl'.1 | exact hl'.2 | exact Nat.zero_le _)) ?_
        rintro _ _ ⟨x, rfl, hx, rfl⟩
        refine ⟨chk_seq, ?_⟩
        refine sx ?_
        refine s_retc rfl rfl (by exact at_) rfl ⟨x, rfl, ?_, rfl⟩ (by exact ent)
        rw [hx, ← rmeR_eq]
        simp [rmeR, t1]
    · cases al'
      · refine sx ?_
        refine s_rw (t := 34) (v' := .agg (Rg.cells ⟨la, lc, lo, ha', hc', hi', false⟩).toArray) rfl rfl ?_
        refine s_call rfl (qform_s (r := ⟨la, lc, lo, ha', hc', hi', false⟩) ⟨by exact rby, by exact rby⟩ (by constructor <;> first | exact hl.1 | exact hl.2 | exact hl'.1 | exact hl'.2 | exact Nat.zero_le _)) ?_
        rintro _ _ ⟨x, rfl, hx, rfl⟩
        refine ⟨chk_seq, ?_⟩
        refine sx ?_
        refine s_retc rfl rfl (by exact at_) rfl ⟨x, rfl, ?_, rfl⟩ (by exact ent)
        rw [hx, ← rmeR_eq]
        simp [rmeR, t1]
      · refine sx ?_
        refine s_rw (t := 26) (v' := .agg (Rg.cells ⟨la, lc, lo, none, 0, [], true⟩).toArray) rfl rfl ?_
        refine s_call rfl (qform_s (r := ⟨la, lc, lo, none, 0, [], true⟩) ⟨by exact rby, by exact rby⟩ (by constructor <;> first | exact hl.1 | exact hl.2 | exact hl'.1 | exact hl'.2 | exact Nat.zero_le _)) ?_
        rintro _ _ ⟨x, rfl, hx, rfl⟩
        refine ⟨chk_seq, ?_⟩
        refine sx ?_
        refine s_retc rfl rfl (by exact at_) rfl ⟨x, rfl, ?_, rfl⟩ (by exact ent)
        rw [hx, ← rmeR_eq]
        simp [rmeR, t1]
end Go.Sx

