/- Part of a proof: BranchKeys, walked. -/
import Derived.Test.YtolnmecncilpeaaCQ5
import Derived.Test.YtolnmecncilpeaaCQ6
import Derived.Test.YtolnmecncilpeaaCBF
namespace Go.Sx
open Go Go.Proofs
set_option maxRecDepth 10000
variable {w0 : World} {H : List Ck}
theorem chl_mono {ks : List Bs} {x y : Bs} (h : cmp x y ≤ 0) : chl ks x ≤ chl ks y :=
  chl_ge (fun j k hj hk => by
    have h1 := chl_no hj hk
    have := le_tr (x := k) (y := x) (z := y) (by omega) h
    omega) (chl_len ks x)
theorem cvN_fold (d : List Int × List Bs) (w : T3) : ∀ n, ((List.range n).map (spR d w)).foldl (fun a r => if emR r = true then a else cvS a r) [] = cvN d w n
  | 0 => rfl
  | n + 1 => by
    rw [List.range_succ, List.map_append, List.foldl_append, cvN_fold d w n]
    rfl
theorem cvR_flt (S : List T3) : cvR (S.filter fun r => !emR r) = S.foldl (fun a r => if emR r = true then a else cvS a r) [] := by
  rw [cvR, List.foldl_filter]
  congr 1
  funext a r
  cases emR r <;> rfl
theorem cov_all {d : List Int × List Bs} {w : T3} {xs : List Rg} (hr : risK d.2 = true) (h1 : 1 ≤ d.2.length) (h2 : d.2.length + 1 = d.1.length) (hl : xs.length = d.1.length) (hx : ∀ (n : Nat) (x : Rg), xs[n]? = some x → x.d = spR d w n) :
    cvR ((byR xs.length (xs.filter fun r => !emR r.d)).map Rg.d) = neL (foR w) := by
  have hS : xs.map Rg.d = (List.range d.1.length).map (spR d w) := by
    apply List.ext_getElem?
    intro n
    rw [List.getElem?_map, List.getElem?_map]
    rcases Nat.lt_or_ge n xs.length with h | h
    · obtain ⟨x, hn⟩ := get_lt xs n h
      rw [hn, List.getElem?_range (by omega)]
      simp [hx n x hn]
    · rw [List.getElem?_eq_none h, List.getElem?_eq_none (by simp; omega)]
      rfl
  have hp : xs.Pairwise (fun x y => emR x.d = false → emR y.d = false → cmp x.lo y.lo ≤ 0) := by
    rw [List.pairwise_iff_getElem]
    intro i j hi hj hij e1 e2
    have a1 := hx i _ (List.getElem?_eq_getElem hi)
    have a2 := hx j _ (List.getElem?_eq_getElem hj)
    have b1 := ne_has (d := xs[i].d) (by rw [e1]; decide)
    have b2 := ne_has (d := xs[j].d) (by rw [e2]; decide)
    rw [a1, sp_has hr (by omega)] at b1
    rw [a2, sp_has hr (by omega)] at b2
    rw [← a1] at b1
    rw [← a2] at b2
    rcases Int.lt_or_le 0 (cmp xs[i].lo xs[j].lo) with h | h
    · have := cmp_anti xs[i].lo xs[j].lo
      have := chl_mono (ks := d.2) (x := xs[j].lo) (y := xs[i].lo) (by omega)
      have c1 : chl d.2 xs[i].lo = i := b1.2
      have c2 : chl d.2 xs[j].lo = j := b2.2
      omega
    · exact h
  have hq : (xs.filter fun r => !emR r.d).Pairwise (fun x y => cmp x.lo y.lo ≤ 0) := by
    refine List.Pairwise.imp_of_mem ?_ (hp.filter _)
    intro x y hx hy h
    have e1 := (List.mem_filter.1 hx).2
    have e2 := (List.mem_filter.1 hy).2
    exact h (by simpa using e1) (by simpa using e2)
  have hf : (xs.filter fun r => !emR r.d).map Rg.d = (xs.map Rg.d).filter fun r => !emR r := by
    rw [List.filter_map]
    rfl
  rw [byR_id _ _ hq, hf, cvR_flt, hS, cvN_fold, cvN_all hr h1 h2]
theorem cov_one (r : Rg) : cvR ((byR [r].length ([r].filter fun r => !emR r.d)).map Rg.d) = neL (foR r.d) := by
  have hq : ([r].filter fun r => !emR r.d).Pairwise (fun x y => cmp x.lo y.lo ≤ 0) := List.Pairwise.filter _ (by simp)
  rw [byR_id _ _ hq, neL, emR_fo]
  cases h : emR r.d
  · simp [h, cvR, cvS]
  · simp [h, cvR]
theorem bspan_ok {k : Kd} {r : Rg} {i : Nat} (hk : RKd w0 H k) (hr : RRg w0 H r) (hkl : ∀ p ∈ k.ks, p.xs.length ≤ 140737488355328) (hl : r.lo.length ≤ 140737488355328 ∧ r.hi.length ≤ 140737488355328) (hp : k.ps.length ≤ 140737488355328) (h : spOk k.d i) :
    FnS Try.prog w0 H 19 #[.agg k.cells.toArray, .agg r.cells.toArray, .int .i64 i] (fun v H' => ∃ x : Rg, v = .tuple #[.agg x.cells.toArray, .int .i64 0] ∧ x.d = spR k.d r.d i ∧ H' = oR x :: H) := by
  have h3 : (i : Int) < (k.ps.length : Int) := h.2.2
  refine FnS.mono (bspan_s (i := (i : Int)) hk hr ⟨by omega, by omega⟩ hkl hl) ?_
  rintro v H' ⟨x, rfl, hx, rfl⟩
  rw [if_pos h] at hx ⊢
  exact ⟨x, rfl, hx, rfl⟩
structure KyI where
  i : Nat
  a : Option Addr
  c : Nat
  xs : List Rg
  L : List Ck
def kyN (k : Kd) (r : Rg) (key : Bs) (i : Nat) : Nat := if hasB r.d key = true ∧ chl k.keys key < i then 1 else 0
set_option maxHeartbeats 1000000 in
theorem bkeys_s {k : Kd} {r : Rg} {size : Int} {a : Option Addr} {c : Nat} {key : Bs} (hk : RKd w0 H k) (hkI : ∀ n ∈ k.ps, I64 n) (hr : RRg w0 H r) (hl : r.lo.length ≤ 140737488355328 ∧ r.hi.length ≤ 140737488355328) (ha : RBy w0 H a c key) :
    FnV Try.prog w0 H 8 #[.int .i64 size, .agg k.cells.toArray, .agg r.cells.toArray, .slice a key.length c] (.bool true) := by
  refine fns_enter Try.func8 rfl rfl rfl ?_
  refine s_kn (Kn.kp hk) fun l1 => s_kn (Kn.kk hk) fun l2 => ?_
  simp only [maxLen] at l1 l2
  have hkd : k.d.2.length = k.ks.length := by simp
  have hkp : k.d.1.length = k.ps.length := rfl
  refine sx ?_
  refine s_boxA rfl fun b5 => ?_
  refine sx ?_
  refine s_boxA rfl fun b6 => ?_
  refine sx ?_
  refine s_callV rfl alive_s ?_
  refine sx ?_
  refine s_callV rfl (bcheck_s (k := k) (by exact rkd) hkI) ?_
  refine sx ?_
  refine s_ifn rfl (fun t1 => ?_) (fun t1 => ?_)
  · refine sx ?_
    exact s_ret1 rfl rfl ⟨rfl, rfl⟩
  obtain ⟨c1, ⟨c2, c3, c4⟩, c5, c6, c7⟩ := chkK_0 t1
  have hpg := pg_bd c4
  have hsz := sizedB_bd c1
  have hkb : ∀ x ∈ k.d.2, x.length ≤ 140737488355328 := fun x hx => by
    have := (c5 x hx).2
    omega
  have hkl : ∀ p ∈ k.ks, p.xs.length ≤ 140737488355328 := fun p hp => hkb p.xs (List.mem_map.2 ⟨p, hp, rfl⟩)
  refine sx ?_
  refine s_loop (fun m : KyI => [(3, .slice a key.length c), (5, .pointer (some ⟨b5, 0, none⟩)), (6, .pointer (some ⟨b6, 0, none⟩)), (9, .bool true), (10, .slice m.a m.xs.length m.c), (11, .int .i64 (kyN k r key m.i : Nat)), (12, .int .i64 m.i)])
    (fun m => ol 38 m.a m.c m.xs :: .star m.L :: .hb b6 38 r.cells :: .hb b5 31 k.cells :: H)
    (fun m => m.i ≤ k.ps.length ∧ m.xs.length = m.i ∧ (∀ (n : Nat) (x : Rg), m.xs[n]? = some x → x.d = spR k.d r.d n) ∧ ∀ x ∈ m.xs, oR x ∈ m.L) (fun m => k.ps.length - m.i) ⟨0, none, 0, [], []⟩ ⟨Nat.zero_le _, rfl, fun n x h => by simp at h, fun x h => by cases h⟩ ?_ (h0 := by
      refine ⟨rfl, rfl, rfl, rfl, rfl, congrArg some (ci (by simp [kyN])), rfl, trivial⟩) (he := Ent.trans (Ent.trans (by exact ent) (Ent.star (L := []) Ent.refl)) Ent.nilS)
  rintro ⟨i, a1, c1', xs, L⟩ ⟨hi, hxl, hxd, hxm⟩
  simp only at hi hxl hxd hxm ⊢
  refine sx ?_
  refine s_if rfl (fun t2 => ?_) (fun t2 => ?_)
  · have hok : spOk k.d i := ⟨by omega, by omega, by omega⟩
    refine sx ?_
    refine s_call rfl (bspan_ok (k := k) (r := r) (i := i) (by exact rkd) (by exact rrg) hkl hl (by omega) hok) ?_
    rintro _ _ ⟨x, rfl, hx, rfl⟩
    refine ⟨chk_seq, ?_⟩
    refine sx ?_
    refine s_alloc fun b13 => ?_
    refine sx ?_
    refine s_callV rfl (qhas_s (r := x) (key := key) (by exact rrg) (by exact rby)) ?_
    have hh : hasB x.d key = true ↔ hasB r.d key = true ∧ chl k.keys key = i := by
      rw [hx]
      exact sp_has c6 (by omega)
    refine sx ?_
    have hxd2 : ∀ (n : Nat) (y : Rg), (xs ++ [x])[n]? = some y → y.d = spR k.d r.d n := by
      intro n y hy
      rcases Nat.lt_or_ge n xs.length with h | h
      · rw [List.getElem?_append_left h] at hy
        exact hxd n y hy
      · have h9 := (List.getElem?_eq_some_iff.1 hy).1
        simp only [List.length_append, List.length_cons, List.length_nil] at h9
        rw [List.getElem?_append_right h] at hy
        rw [List.mem_singleton.1 (List.mem_of_getElem? hy), hx, show n = i by omega]
    have hxm2 : ∀ y ∈ xs ++ [x], oR y ∈ oR x :: L := by
      intro y hy
      rcases List.mem_append.1 hy with h | h
      · exact List.mem_cons_of_mem _ (hxm y h)
      · rw [List.mem_singleton.1 h]
        exact List.mem_cons_self ..
    refine s_lsp rfl (fun t3 => ?_) (fun t3 => ?_)
    · obtain ⟨h1, h2⟩ := hh.1 t3
      have k1 : kyN k r key i = 0 := if_neg (by rintro ⟨_, g⟩; omega)
      have k2 : kyN k r key (i + 1) = 1 := if_pos ⟨h1, by omega⟩
      refine sx ?_
      refine s_callV rfl (bchild_s (k := k) (key := key) (by exact rkd) (by exact rby)) ?_
      refine sx ?_
      refine s_ifn rfl (fun t4 => absurd (by omega) t4) (fun t4 => ?_)
      refine sx ?_
      refine s_cond rfl (fun t5 => ?_) (fun t5 => absurd t3 (by rw [t5]; simp))
      refine sx ?_
      refine s_bsl [x] rfl rfl fun b1 => ?_
      refine sx ?_
      refine s_app ?_
      intro a4 c4
      refine sx ?_
      refine s_rwQ (t := 11) (v' := .int .i64 (kyN k r key (i + 1) : Nat)) rfl (ci (by rw [k1, k2]; rfl)) ?_
      refine s_again ⟨i + 1, a4, c4, xs ++ [x], oR x :: L⟩ ⟨by simp only; omega, by simp only [List.length_append, List.length_cons, List.length_nil]; omega, hxd2, hxm2⟩ (by simp only; omega) (he := ?_)
      refine Ent.cons (by exact rm) ?_
      refine Ent.trans (H' := oR x :: .star L :: .hb b6 38 r.cells :: .hb b5 31 k.cells :: H) (by exact ent) ?_
      exact Ent.star (Ent.head (Ent.open Ent.refl))
    · have k1 : kyN k r key (i + 1) = kyN k r key i := by
        have h9 : ¬ (hasB r.d key = true ∧ chl k.keys key = i) := fun g => by
          rw [hh.2 g] at t3
          cases t3
        unfold kyN
        by_cases g : hasB r.d key = true ∧ chl k.keys key < i
        · rw [if_pos g, if_pos ⟨g.1, by omega⟩]
        · rw [if_neg g, if_neg]
          rintro ⟨g1, g2⟩
          by_cases g3 : chl k.keys key = i
          · exact h9 ⟨g1, g3⟩
          · exact g ⟨g1, by omega⟩
      refine sx ?_
      refine s_cond rfl (fun t5 => absurd t5 (by rw [t3]; simp)) (fun t5 => ?_)
      refine sx ?_
      refine s_bsl [x] rfl rfl fun b1 => ?_
      refine sx ?_
      refine s_app ?_
      intro a4 c4
      refine sx ?_
      refine s_rwQ (t := 11) (v' := .int .i64 (kyN k r key (i + 1) : Nat)) rfl (ci (by rw [k1])) ?_
      refine s_again ⟨i + 1, a4, c4, xs ++ [x], oR x :: L⟩ ⟨by simp only; omega, by simp only [List.length_append, List.length_cons, List.length_nil]; omega, hxd2, hxm2⟩ (by simp only; omega) (he := ?_)
      refine Ent.cons (by exact rm) ?_
      refine Ent.trans (H' := oR x :: .star L :: .hb b6 38 r.cells :: .hb b5 31 k.cells :: H) (by exact ent) ?_
      exact Ent.star (Ent.head (Ent.open Ent.refl))
  obtain rfl : i = k.ps.length := by omega
  have hB : B3 140737488355328 r.d := hl
  have hxr : ∀ x ∈ xs, RRg w0 (ol 38 a1 c1' xs :: .star L :: .hb b6 38 r.cells :: .hb b5 31 k.cells :: H) x := fun x h => RRg.tl (RRg.ent (RRg.oR (H := [])) (Ent.mem' (hxm x h)))
  have hxb : ∀ x ∈ xs, x.lo.length ≤ 140737488355328 ∧ x.hi.length ≤ 140737488355328 := fun x h => by
    obtain ⟨n, hn⟩ := List.mem_iff_getElem?.1 h
    have h1 : B3 140737488355328 x.d := by
      rw [hxd n x hn]
      exact spR_len hB hkb
    exact h1
  have hcv := cov_all (w := r.d) c6 (by omega) c2 (hxl.trans rfl) hxd
  refine sx ?_
  refine s_callV rfl (qhas_s (r := r) (key := key) (by exact rrg) (by exact rby)) ?_
  refine sx ?_
  refine s_call rfl (cover_s (rs := xs) (by exact rsl) (by omega) hxr hxb) ?_
  rintro _ _ ⟨a2, c2', os, L2, rfl, rfl, hos, ro, rro⟩
  refine ⟨chk_seq, ?_⟩
  rw [hcv] at hos
  refine sx ?_
  refine s_bsl [r] rfl rfl fun b69 => ?_
  refine sx ?_
  refine s_call rfl (cover_s (rs := [r]) (by exact rsl) (by simp) (fun x h => by rw [List.mem_singleton.1 h]; exact rrg) (fun x h => by rw [List.mem_singleton.1 h]; exact hl)) ?_
  rintro _ _ ⟨a3, c3', ps, L3, rfl, rfl, hps, rp, rrp⟩
  refine ⟨chk_seq, ?_⟩
  rw [cov_one] at hps
  have hd : os.map Rg.d = ps.map Rg.d := hos.trans hps.symm
  have hlen : os.length = ps.length := by have := congrArg List.length hd; simpa using this
  refine sx ?_
  refine s_rwC (t := 19) (v' := .bool true) rfl (by rw [hlen]; simp) ?_
  have rro2 : ∀ o ∈ os, RRg w0 (.star L3 :: ol 38 (some ⟨b69, 0, none⟩) 1 [r] :: .star L2 :: ol 38 a1 c1' xs :: .star L :: .hb b6 38 r.cells :: .hb b5 31 k.cells :: H) o := fun o h => (rro o h).tl.tl
  have rrp2 : ∀ o ∈ ps, RRg w0 (.star L3 :: ol 38 (some ⟨b69, 0, none⟩) 1 [r] :: .star L2 :: ol 38 a1 c1' xs :: .star L :: .hb b6 38 r.cells :: .hb b5 31 k.cells :: H) o := fun o h => rrp o h
  have ro2 : RSl w0 (.star L3 :: ol 38 (some ⟨b69, 0, none⟩) 1 [r] :: .star L2 :: ol 38 a1 c1' xs :: .star L :: .hb b6 38 r.cells :: .hb b5 31 k.cells :: H) a2 c2' os := ro.tl.tl
  have rp2 : RSl w0 (.star L3 :: ol 38 (some ⟨b69, 0, none⟩) 1 [r] :: .star L2 :: ol 38 a1 c1' xs :: .star L :: .hb b6 38 r.cells :: .hb b5 31 k.cells :: H) a3 c3' ps := rp
  refine s_loop (fun n : Nat => [(9, .bool true), (11, .int .i64 (kyN k r key k.ps.length : Nat)), (16, .bool (hasB r.d key)), (17, .slice a2 os.length c2'), (18, .slice a3 ps.length c3'), (19, .bool true), (20, .int .i64 n)]) (fun _ => .star L3 :: ol 38 (some ⟨b69, 0, none⟩) 1 [r] :: .star L2 :: ol 38 a1 c1' xs :: .star L :: .hb b6 38 r.cells :: .hb b5 31 k.cells :: H) (fun n => n ≤ os.length) (fun n => os.length - n) 0 (Nat.zero_le _) ?_
  intro n hn
  refine s_kn (Kn.sl ro2) fun l3 => ?_
  simp only [maxLen] at l3
  refine sx ?_
  refine s_lif rfl (fun t3 => ?_) (fun t3 => ?_)
  · refine sx ?_
    obtain ⟨⟨xla, xlc, xlo, xha, xhc, xhi, xal⟩, ho⟩ := get_lt os n (by omega)
    obtain ⟨⟨yla, ylc, ylo, yha, yhc, yhi, yal⟩, hp⟩ := get_lt ps n (by omega)
    have he : Rg.d ⟨xla, xlc, xlo, xha, xhc, xhi, xal⟩ = Rg.d ⟨yla, ylc, ylo, yha, yhc, yhi, yal⟩ := by
      have h1 : (os.map Rg.d)[n]? = (ps.map Rg.d)[n]? := by rw [hd]
      rw [List.getElem?_map, List.getElem?_map, ho, hp] at h1
      exact Option.some.inj h1
    have rx := rro2 _ (List.mem_of_getElem? ho)
    have ry := rrp2 _ (List.mem_of_getElem? hp)
    refine sx ?_; refine s_dr (.one true 0 (.one true 1 (.one true 2 (.one true 3 (.one true 4 (.one true 5 (.one true 6 (.one true 7 (.one false 8 (.one true 9 .nil)))))))))) mixed (by kernel_rfl) ?_; refine sx ?_
    refine s_callV rfl (sameRange_t (r := ⟨xla, xlc, xlo, xha, xhc, xhi, xal⟩) (t := ⟨yla, ylc, ylo, yha, yhc, yhi, yal⟩) rx ry he) ?_
    refine sx ?_
    exact s_again (n + 1) (by omega) (by omega)
  refine sx ?_
  have hk1 : kyN k r key k.ps.length ≤ 1 := by unfold kyN; split <;> omega
  have hk2 : hasB r.d key = decide (kyN k r key k.ps.length = 1) := by
    have h9 := chl_len k.keys key
    rw [List.length_map] at h9
    unfold kyN
    cases hb : hasB r.d key
    · simp
    · rw [if_pos ⟨rfl, by omega⟩]
      rfl
  have hk3 : (hasB r.d key == decide (((kyN k r key k.ps.length : Nat) : Int) = 1)) = true := by
    rw [hk2, beq_iff_eq, decide_eq_decide]
    omega
  refine s_rw (t := 104) (v' := .bool true) rfl (by rw [hk3]) ?_
  refine s_rw (t := 103) (v' := .bool true) rfl (by rw [hk3]) ?_
  refine sx ?_
  refine s_ret1 rfl rfl ⟨?_, rfl⟩
  exact congrArg Value.bool (decide_eq_true (by omega))
end Go.Sx
