/- Part of a proof: the law BranchSpans, walked. -/
import Derived.Test.YtolnmecncilpeaaCBE
import Derived.Test.YtolnmecncilpeaaCBA
namespace Go.Sx
open Go Go.Proofs
set_option maxRecDepth 10000
variable {w0 : World} {H : List Ck}
theorem bspan_d {k : Kd} {r : Rg} {i : Int} {d : List Int × List Bs} (hk : RKd w0 H k) (hr : RRg w0 H r) (hi : I64 i) (hkl : ∀ p ∈ k.ks, p.xs.length ≤ 140737488355328) (hl : r.lo.length ≤ 140737488355328 ∧ r.hi.length ≤ 140737488355328) (hd : k.d = d) :
    FnS Try.prog w0 H 19 #[.agg k.cells.toArray, .agg r.cells.toArray, .int .i64 i] (SpanR d r.d i H) := by
  subst hd
  exact bspan_s hk hr hi hkl hl
theorem sameRange_t {r t : Rg} (hr : RRg w0 H r) (ht : RRg w0 H t) (h : r.d = t.d) : FnV Try.prog w0 H 21 #[.agg r.cells.toArray, .agg t.cells.toArray] (.bool true) := by
  have := sameRange_s hr ht
  rwa [decide_eq_true h] at this
abbrev B3 (n : Nat) (d : T3) : Prop := d.1.length ≤ n ∧ d.2.1.length ≤ n
theorem foR_len {n : Nat} {d : T3} (h : B3 n d) : B3 n (foR d) := by
  unfold foR
  split
  · exact ⟨Nat.zero_le _, Nat.zero_le _⟩
  · split
    · exact ⟨h.1, Nat.zero_le _⟩
    · exact h
theorem meR_len {n : Nat} {a b : T3} (ha : B3 n a) (hb : B3 n b) : B3 n (meR a b) := by
  unfold meR
  split
  · exact ⟨Nat.zero_le _, Nat.zero_le _⟩
  · refine foR_len ⟨?_, ?_⟩
    · split
      · exact hb.1
      · exact ha.1
    · show (if beR b a = true then b.2.1 else a.2.1).length ≤ n
      split
      · exact hb.2
      · exact ha.2
theorem spR_len {n : Nat} {d : List Int × List Bs} {w : T3} {i : Nat} (hw : B3 n w) (hd : ∀ x ∈ d.2, x.length ≤ n) : B3 n (spR d w i) := by
  have key : ∀ j, (d.2.getD j []).length ≤ n := fun j => by
    rw [List.getD_eq_getElem?_getD]
    cases h : d.2[j]? with
    | none => exact Nat.zero_le _
    | some x => exact hd x (List.mem_of_getElem? h)
  refine meR_len hw ⟨?_, ?_⟩
  · show (if 0 < i then d.2.getD (i - 1) [] else []).length ≤ n
    split
    · exact key _
    · exact Nat.zero_le _
  · show (if i < d.2.length then d.2.getD i [] else []).length ≤ n
    split
    · exact key _
    · exact Nat.zero_le _
theorem wgt_ksm {k : Kd} (h : ¬ (wgt k.ps.length k.keys > 2147483647)) : ksm9 k := wgt_keys (by omega)
set_option maxHeartbeats 4000000 in
theorem spans_s {k : Kd} {r : Rg} {i : Int} (hk : RKd w0 H k) (hkp : k.ps.length ≤ 140737488355328) (hkl : ∀ p ∈ k.ks, p.xs.length ≤ 140737488355328) (hr : RRg w0 H r) (hl : r.lo.length ≤ 140737488351232 ∧ r.hi.length ≤ 140737488351232) (hi : I64 i) :
    FnV Try.prog w0 H 5 #[.agg k.cells.toArray, .agg r.cells.toArray, .int .i64 i] (.bool true) := by
  refine fns_enter Try.func5 rfl rfl rfl ?_
  refine sx ?_
  refine s_boxA rfl fun b3 => ?_
  refine sx ?_
  refine s_boxA rfl fun b4 => ?_
  refine sx ?_
  refine s_callV rfl alive_s ?_
  refine sx ?_
  refine s_callV rfl (weight_s (by exact rkd) hkp hkl) ?_
  refine sx ?_
  refine s_if rfl (fun t1 => ?_) (fun t1 => ?_)
  · refine sx ?_
    exact s_ret1 rfl rfl ⟨rfl, rfl⟩
  have hm := wgt_ksm t1
  refine sx ?_
  refine s_call rfl (lend_s (by exact rkd) hm) ?_
  rintro _ _ ⟨L, rfl, hLd, rfl⟩
  refine ⟨chk_seq, ?_⟩
  have rl := hr.lo
  have rh := hr.hi
  refine sx ?_
  refine s_bsl ([] : Bs) rfl rfl fun b30 => ?_
  refine sx ?_
  refine s_app ?_ (ys := r.lo)
  intro a33 c33
  refine s_bsl ([167] : Bs) rfl rfl fun b34 => ?_
  refine s_app ?_
  intro la lc
  refine sx ?_
  refine s_bsl ([] : Bs) rfl rfl fun b36 => ?_
  refine sx ?_
  refine s_app ?_ (ys := r.hi)
  intro a39 c39
  refine s_bsl ([167] : Bs) rfl rfl fun b40 => ?_
  refine s_app ?_
  intro ha hc
  refine sx ?_
  have hll : (r.lo ++ [167]).length = r.lo.length + 1 := by simp
  have hlh : (r.hi ++ [167]).length = r.hi.length + 1 := by simp
  refine s_rwC (t := 9) (v' := .slice la (r.lo.length + 1) lc) rfl (by simp) ?_
  refine s_rwC (t := 10) (v' := .slice ha (r.hi.length + 1) hc) rfl (by simp) ?_
  refine s_ent (ob ha hc (r.hi ++ [167]) :: ob la lc (r.lo ++ [167]) :: L.hb :: .star L.cs :: .hb b4 38 r.cells :: .hb b3 31 k.cells :: H) (by exact ent) ?_
  refine s_kn (Kn.by (a := la) (c := lc) (xs := r.lo ++ [167]) (by exact rby)) fun m1 => s_kn (Kn.by (a := ha) (c := hc) (xs := r.hi ++ [167]) (by exact rby)) fun m2 => ?_
  refine sx ?_; refine s_drH (ob ha hc (r.hi ++ [167]) :: ob la lc (r.lo ++ [167]) :: L.hb :: .star L.cs :: .hb b4 38 r.cells :: .hb b3 31 k.cells :: H) (.one true 0 (.one true 1 (.one true 2 (.one true 3 (.one true 4 (.one true 5 (.one true 6 (.one true 7 (.one true 8 (.one true 9 (.one true 10 (.one true 11 (.one true 12 (.one false 13 (.one false 14 .nil))))))))))))))) mixed (by kernel_rfl) ?_; refine sx ?_
  refine s_alloc fun b11 => ?_
  refine sx ?_
  refine s_ent (.hb b11 38 (Rg.cells ⟨la, lc, r.lo, ha, hc, r.hi, r.all⟩) :: ob ha hc (r.hi ++ [167]) :: ob la lc (r.lo ++ [167]) :: L.hb :: .star L.cs :: .hb b4 38 r.cells :: .hb b3 31 k.cells :: H) (by exact ent) ?_
  have rx : RRg w0 (.hb b11 38 (Rg.cells ⟨la, lc, r.lo, ha, hc, r.hi, r.all⟩) :: ob ha hc (r.hi ++ [167]) :: ob la lc (r.lo ++ [167]) :: L.hb :: .star L.cs :: .hb b4 38 r.cells :: .hb b3 31 k.cells :: H) ⟨la, lc, r.lo, ha, hc, r.hi, r.all⟩ := by
    refine ⟨?_, ?_⟩
    · have : RBy w0 (.hb b11 38 (Rg.cells ⟨la, lc, r.lo, ha, hc, r.hi, r.all⟩) :: ob ha hc (r.hi ++ [167]) :: ob la lc (r.lo ++ [167]) :: L.hb :: .star L.cs :: .hb b4 38 r.cells :: .hb b3 31 k.cells :: H) la lc (r.lo ++ [167]) := by exact rby
      have := this.take (k := r.lo.length) (by simp)
      rwa [List.take_left' rfl] at this
    · have : RBy w0 (.hb b11 38 (Rg.cells ⟨la, lc, r.lo, ha, hc, r.hi, r.all⟩) :: ob ha hc (r.hi ++ [167]) :: ob la lc (r.lo ++ [167]) :: L.hb :: .star L.cs :: .hb b4 38 r.cells :: .hb b3 31 k.cells :: H) ha hc (r.hi ++ [167]) := by exact rby
      have := this.take (k := r.hi.length) (by simp)
      rwa [List.take_left' rfl] at this
  have rk : RKd w0 (.hb b11 38 (Rg.cells ⟨la, lc, r.lo, ha, hc, r.hi, r.all⟩) :: ob ha hc (r.hi ++ [167]) :: ob la lc (r.lo ++ [167]) :: L.hb :: .star L.cs :: .hb b4 38 r.cells :: .hb b3 31 k.cells :: H) L.k := RKd.tl (RKd.tl (RKd.tl (RKd.tl Bl.rkd)))
  have hLk : ∀ p ∈ L.k.ks, p.xs.length ≤ 140737488355328 := fun p hp => by
    have h1 : p.xs ∈ L.k.d.2 := List.mem_map.2 ⟨p, hp, rfl⟩
    rw [hLd] at h1
    obtain ⟨q, hq, he⟩ := List.mem_map.1 h1
    rw [← he]
    exact hkl q hq
  refine s_cut (fun j : Nat × Rg => [(2, .int .i64 i), (3, .pointer (some ⟨b3, 0, none⟩)), (4, .pointer (some ⟨b4, 0, none⟩)), (7, .bool true), (8, .pointer (some ⟨L.b, 0, none⟩)), (9, .slice la (r.lo.length + 1) lc), (10, .slice ha (r.hi.length + 1) hc), (11, .pointer (some ⟨b11, 0, none⟩)), (12, .pointer (some ⟨j.1, 0, none⟩)), (13, .int .i64 (if spOk k.d i then 0 else 1))]) (fun j => .hb j.1 38 j.2.cells :: oR j.2 :: .hb b11 38 (Rg.cells ⟨la, lc, r.lo, ha, hc, r.hi, r.all⟩) :: ob ha hc (r.hi ++ [167]) :: ob la lc (r.lo ++ [167]) :: L.hb :: .star L.cs :: .hb b4 38 r.cells :: .hb b3 31 k.cells :: H) (fun j => j.2.d = (if spOk k.d i then spR k.d r.d i.toNat else t30)) ?_ ?_
  · refine sx ?_; refine s_drH (.hb b11 38 (Rg.cells ⟨la, lc, r.lo, ha, hc, r.hi, r.all⟩) :: ob ha hc (r.hi ++ [167]) :: ob la lc (r.lo ++ [167]) :: L.hb :: .star L.cs :: .hb b4 38 r.cells :: .hb b3 31 k.cells :: H) (.one true 0 (.one true 1 (.one true 2 (.one true 3 (.one true 4 (.one true 5 (.alt (.one false 6 (.one true 7 (.one true 8 (.one true 9 (.one false 10 (.one false 11 (.one true 12 .nil))))))) (.one false 10 (.one false 6 (.one true 7 (.one true 8 (.one true 9 (.one false 11 (.one true 12 .nil)))))))))))))) mixed (by kernel_rfl) ?_; refine sx ?_
    refine s_rw (t := 59) (v' := .agg L.k.cells.toArray) rfl rfl ?_
    refine s_alt ?_ ?_
    · refine s_call rfl (bspan_d (k := L.k) (r := ⟨la, lc, r.lo, ha, hc, r.hi, r.all⟩) (by exact rkd) (by exact rrg) hi hLk ⟨by show r.lo.length ≤ _; omega, by show r.hi.length ≤ _; omega⟩ hLd) ?_
      rintro _ _ ⟨X, rfl, hX, rfl⟩
      refine ⟨chk_held (by exact ent), ?_⟩
      refine sx ?_
      refine s_alloc fun b12 => ?_
      refine sx ?_
      exact s_mid (b12, X) hX
    · refine s_alloc fun b12 => ?_
      refine s_call rfl (bspan_d (k := L.k) (r := ⟨la, lc, r.lo, ha, hc, r.hi, r.all⟩) (by exact rkd) (by exact rrg) hi hLk ⟨by show r.lo.length ≤ _; omega, by show r.hi.length ≤ _; omega⟩ hLd) ?_
      rintro _ _ ⟨X, rfl, hX, rfl⟩
      refine ⟨chk_held (by exact ent), ?_⟩
      refine sx ?_
      exact s_mid (b12, X) hX
  rintro ⟨b12, X⟩ hX
  simp only at hX ⊢
  refine sx ?_
  refine s_cut (fun j : Nat × Rg => [(2, .int .i64 i), (3, .pointer (some ⟨b3, 0, none⟩)), (4, .pointer (some ⟨b4, 0, none⟩)), (7, .bool true), (8, .pointer (some ⟨L.b, 0, none⟩)), (9, .slice la (r.lo.length + 1) lc), (10, .slice ha (r.hi.length + 1) hc), (11, .pointer (some ⟨b11, 0, none⟩)), (12, .pointer (some ⟨b12, 0, none⟩)), (13, .int .i64 (if spOk k.d i then 0 else 1)), (14, .pointer (some ⟨j.1, 0, none⟩)), (15, .int .i64 (if spOk k.d i then 0 else 1))]) (fun j => .hb j.1 38 j.2.cells :: oR j.2 :: .hb b12 38 X.cells :: oR X :: .hb b11 38 (Rg.cells ⟨la, lc, r.lo, ha, hc, r.hi, r.all⟩) :: ob ha hc (r.hi ++ [167]) :: ob la lc (r.lo ++ [167]) :: L.hb :: .star L.cs :: .hb b4 38 r.cells :: .hb b3 31 k.cells :: H) (fun j => j.2.d = (if spOk k.d i then spR k.d r.d i.toNat else t30)) ?_ ?_
  · refine sx ?_; refine s_drH (.hb b12 38 X.cells :: oR X :: .hb b11 38 (Rg.cells ⟨la, lc, r.lo, ha, hc, r.hi, r.all⟩) :: ob ha hc (r.hi ++ [167]) :: ob la lc (r.lo ++ [167]) :: L.hb :: .star L.cs :: .hb b4 38 r.cells :: .hb b3 31 k.cells :: H) (.one true 0 (.one true 1 (.one true 2 (.one true 3 (.one true 4 (.one true 5 (.alt (.one false 6 (.one true 7 (.one true 8 (.one true 9 (.one false 10 (.one false 11 (.one true 12 .nil))))))) (.one false 10 (.one false 6 (.one true 7 (.one true 8 (.one true 9 (.one false 11 (.one true 12 .nil)))))))))))))) mixed (by kernel_rfl) ?_; refine sx ?_
    refine s_rw (t := 69) (v' := .agg L.k.cells.toArray) rfl rfl ?_
    refine s_alt ?_ ?_
    · refine s_call rfl (bspan_d (k := L.k) (r := ⟨la, lc, r.lo, ha, hc, r.hi, r.all⟩) (by exact rkd) (by exact rrg) hi hLk ⟨by show r.lo.length ≤ _; omega, by show r.hi.length ≤ _; omega⟩ hLd) ?_
      rintro _ _ ⟨Y, rfl, hY, rfl⟩
      refine ⟨chk_held (by exact ent), ?_⟩
      refine sx ?_
      refine s_alloc fun b14 => ?_
      refine sx ?_
      exact s_mid (b14, Y) hY
    · refine s_alloc fun b14 => ?_
      refine s_call rfl (bspan_d (k := L.k) (r := ⟨la, lc, r.lo, ha, hc, r.hi, r.all⟩) (by exact rkd) (by exact rrg) hi hLk ⟨by show r.lo.length ≤ _; omega, by show r.hi.length ≤ _; omega⟩ hLd) ?_
      rintro _ _ ⟨Y, rfl, hY, rfl⟩
      refine ⟨chk_held (by exact ent), ?_⟩
      refine sx ?_
      exact s_mid (b14, Y) hY
  rintro ⟨b14, Y⟩ hY
  simp only at hY ⊢
  refine sx ?_
  refine s_call rfl (rspan_s (by exact rkd) (by exact rrg) hi hkl ⟨by omega, by omega⟩) ?_
  rintro _ _ ⟨Z, rfl, hZ, rfl⟩
  refine ⟨chk_seq, ?_⟩
  refine sx ?_
  refine s_alloc fun b16 => ?_
  refine sx ?_
  refine s_callV rfl (sameRange_t (r := X) (t := Z) (by exact rrg) (by exact rrg) (hX.trans hZ.symm)) ?_
  refine sx ?_
  refine s_callV rfl (sameRange_t (r := Y) (t := Z) (by exact rrg) (by exact rrg) (hY.trans hZ.symm)) ?_
  have hB : B3 140737488351232 X.d := by
    rw [hX]
    split
    · exact spR_len hl (fun x hx => by have := (keysB_len k.keys).2 x hx; have := hm.2; omega)
    · exact ⟨by simp, by simp⟩
  obtain ⟨xa, xc, xl, ya, yc, yl, al⟩ := X
  obtain ⟨hB1, hB2⟩ := hB
  simp only at hB1 hB2
  refine sx ?_
  refine s_loop (fun j : Nat × Bs => [(3, .pointer (some ⟨b3, 0, none⟩)), (4, .pointer (some ⟨b4, 0, none⟩)), (7, .bool true), (8, .pointer (some ⟨L.b, 0, none⟩)), (9, .slice la (r.lo.length + 1) lc), (10, .slice ha (r.hi.length + 1) hc), (11, .pointer (some ⟨b11, 0, none⟩)), (12, .pointer (some ⟨b12, 0, none⟩)), (14, .pointer (some ⟨b14, 0, none⟩)), (16, .pointer (some ⟨b16, 0, none⟩)), (18, .int .i64 j.1)]) (fun j => .hb b12 38 [.slice xa xl.length xc, .slice ya yl.length yc, .bool al] :: ob xa xc j.2 :: ob ya yc yl :: .hb b16 38 Z.cells :: oR Z :: .hb b14 38 Y.cells :: oR Y :: .hb b11 38 (Rg.cells ⟨la, lc, r.lo, ha, hc, r.hi, r.all⟩) :: ob ha hc (r.hi ++ [167]) :: ob la lc (r.lo ++ [167]) :: L.hb :: .star L.cs :: .hb b4 38 r.cells :: .hb b3 31 k.cells :: H) (fun j => j.1 ≤ xl.length ∧ j.2.length = xl.length) (fun j => xl.length - j.1) (0, xl) ⟨Nat.zero_le _, rfl⟩ ?_ (he := (show Ent _ (oR ⟨xa, xc, xl, ya, yc, yl, al⟩ :: .hb b12 38 [.slice xa xl.length xc, .slice ya yl.length yc, .bool al] :: .hb b16 38 Z.cells :: oR Z :: .hb b14 38 Y.cells :: oR Y :: .hb b11 38 (Rg.cells ⟨la, lc, r.lo, ha, hc, r.hi, r.all⟩) :: ob ha hc (r.hi ++ [167]) :: ob la lc (r.lo ++ [167]) :: L.hb :: .star L.cs :: .hb b4 38 r.cells :: .hb b3 31 k.cells :: H) by exact ent).trans (Ent.open (by exact ent)))
  rintro ⟨n, xs⟩ ⟨hn, hxs⟩
  simp only at hn hxs ⊢
  refine sx ?_
  refine s_if rfl (fun t2 => ?_) (fun t2 => ?_)
  · refine s_kn (φ := ∃ ad, xa = some ad) (fun w hw => own_gA (c := xc) (Sat.ownOf (c' := ob xa xc xs) (.tl .hd) hw) (by omega)) ?_
    rintro ⟨ad, rfl⟩
    refine sx ?_
    refine s_set1 (y := (1 : UInt8)) (i := n) rfl rfl (by exact at_) rfl (by omega) ?_
    refine sx ?_
    exact s_again (n + 1, xs.set n 1) ⟨by simp only; omega, by simp only [List.length_set]; exact hxs⟩ (by simp only; omega)
  clear hn
  refine sx ?_
  refine s_loop (fun j : Nat × Bs => [(3, .pointer (some ⟨b3, 0, none⟩)), (4, .pointer (some ⟨b4, 0, none⟩)), (7, .bool true), (8, .pointer (some ⟨L.b, 0, none⟩)), (9, .slice la (r.lo.length + 1) lc), (10, .slice ha (r.hi.length + 1) hc), (11, .pointer (some ⟨b11, 0, none⟩)), (12, .pointer (some ⟨b12, 0, none⟩)), (14, .pointer (some ⟨b14, 0, none⟩)), (16, .pointer (some ⟨b16, 0, none⟩)), (19, .int .i64 j.1)]) (fun j => .hb b12 38 [.slice xa xl.length xc, .slice ya yl.length yc, .bool al] :: ob ya yc j.2 :: ob xa xc xs :: .hb b16 38 Z.cells :: oR Z :: .hb b14 38 Y.cells :: oR Y :: .hb b11 38 (Rg.cells ⟨la, lc, r.lo, ha, hc, r.hi, r.all⟩) :: ob ha hc (r.hi ++ [167]) :: ob la lc (r.lo ++ [167]) :: L.hb :: .star L.cs :: .hb b4 38 r.cells :: .hb b3 31 k.cells :: H) (fun j => j.1 ≤ yl.length ∧ j.2.length = yl.length) (fun j => yl.length - j.1) (0, yl) ⟨Nat.zero_le _, rfl⟩ ?_
  rintro ⟨n, ys⟩ ⟨hn, hys⟩
  simp only at hn hys ⊢
  refine sx ?_
  refine s_if rfl (fun t3 => ?_) (fun t3 => ?_)
  · refine s_kn (φ := ∃ ad, ya = some ad) (fun w hw => own_gA (c := yc) (Sat.ownOf (c' := ob ya yc ys) (.tl .hd) hw) (by omega)) ?_
    rintro ⟨ad, rfl⟩
    refine sx ?_
    refine s_set1 (y := (2 : UInt8)) (i := n) rfl rfl (by exact at_) rfl (by omega) ?_
    refine sx ?_
    exact s_again (n + 1, ys.set n 2) ⟨by simp only; omega, by simp only [List.length_set]; exact hys⟩ (by simp only; omega)
  clear hn t2 t3
  refine sx ?_
  refine s_bsl ([3, 3, 3] : Bs) rfl rfl fun b130 => ?_
  refine s_app ?_
  intro a131 c131
  refine s_rw (t := 131) (v' := .slice a131 (xl.length + 3) c131) rfl (by simp [hxs]) ?_
  refine sx ?_
  refine s_bsl ([4, 4, 4] : Bs) rfl rfl fun b134 => ?_
  refine s_app ?_
  intro a135 c135
  refine s_rw (t := 135) (v' := .slice a135 (yl.length + 3) c135) rfl (by simp [hys]) ?_
  refine sx ?_
  refine s_callV rfl (sameRange_t (r := Y) (t := Z) (by exact rrg) (by exact rrg) (hY.trans hZ.symm)) ?_
  refine sx ?_
  refine s_rw (t := 148) (v' := .bool true) rfl (by simp) ?_
  refine sx ?_
  refine s_rw (t := 158) (v' := .bool true) rfl (by simp) ?_
  refine sx ?_
  refine s_entL (L.hb :: .star L.cs :: .hb b11 38 (Rg.cells ⟨la, lc, r.lo, ha, hc, r.hi, r.all⟩) :: ob ha hc (r.hi ++ [167]) :: ob la lc (r.lo ++ [167]) :: .hb b4 38 r.cells :: .hb b3 31 k.cells :: H) (by exact ent) ?_
  refine s_call rfl (stays_s (by exact rkd) hLd hm) ?_
  rintro _ _ ⟨rfl, rfl⟩
  refine ⟨chk_seq, ?_⟩
  have rlo : RBy w0 (L.hb :: .star L.cs' :: .hb b11 38 (Rg.cells ⟨la, lc, r.lo, ha, hc, r.hi, r.all⟩) :: ob ha hc (r.hi ++ [167]) :: ob la lc (r.lo ++ [167]) :: .hb b4 38 r.cells :: .hb b3 31 k.cells :: H) la lc (r.lo ++ [167]) := by exact rby
  have rhi : RBy w0 (L.hb :: .star L.cs' :: .hb b11 38 (Rg.cells ⟨la, lc, r.lo, ha, hc, r.hi, r.all⟩) :: ob ha hc (r.hi ++ [167]) :: ob la lc (r.lo ++ [167]) :: .hb b4 38 r.cells :: .hb b3 31 k.cells :: H) ha hc (r.hi ++ [167]) := by exact rby
  have rlo' := rlo.take (k := r.lo.length) (by simp)
  have rhi' := rhi.take (k := r.hi.length) (by simp)
  rw [List.take_left' rfl] at rlo' rhi'
  refine sx ?_
  clear rlo' rhi'
  have glo : (r.lo ++ [167]).getD r.lo.length 0 = 167 := by rw [List.getD_eq_getElem?_getD, List.getElem?_append_right (Nat.le_refl _), Nat.sub_self]; rfl
  have ghi : (r.hi ++ [167]).getD r.hi.length 0 = 167 := by rw [List.getD_eq_getElem?_getD, List.getElem?_append_right (Nat.le_refl _), Nat.sub_self]; rfl
  refine s_rw (t := 185) rfl (ci (by omega : _ = ((r.lo.length : Nat) : Int))) ?_
  refine s_rw (t := 182) (v' := .slice la (r.lo ++ [167]).length lc) rfl (by simp) ?_
  refine sx ?_
  refine s_rw (t := 190) (v' := .bool true) rfl (by rw [glo]; rfl) ?_
  refine sx ?_
  refine s_rwQ (t := 6) (v' := .bool true) rfl (by rw [Nat.add_sub_cancel, ghi]; rfl) ?_
  exact s_ret1 rfl rfl ⟨rfl, rfl⟩
end Go.Sx
