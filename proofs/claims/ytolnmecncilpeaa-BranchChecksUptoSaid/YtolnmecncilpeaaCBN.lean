/- Part of a proof: told, and BranchChecks, walked. -/
import Derived.Test.YtolnmecncilpeaaCBL
import Derived.Test.YtolnmecncilpeaaCBF
namespace Go.Sx
open Go Go.Proofs
set_option maxRecDepth 10000
variable {w0 : World} {H : List Ck}
theorem bsplit_d {k : Kd} {size : Int} {d : List Int × List Bs} (hk : RKd w0 H k) (hp : k.ps.length ≤ 140737488355328) (e : k.d = d) : FnV Try.prog w0 H 35 #[.int .i64 size, .agg k.cells.toArray] (.tuple #[.int .i64 (splN size d), .int .i64 (splE size d)]) := by
  subst e; exact bsplit_s hk hp
theorem bcheck_d {k : Kd} {size : Int} {d : List Int × List Bs} (hk : RKd w0 H k) (hI : ∀ n ∈ k.ps, I64 n) (e : k.d = d) : FnV Try.prog w0 H 26 #[.int .i64 size, .agg k.cells.toArray] (.int .i64 (chkK size d)) := by
  subst e; exact bcheck_s hk hI
theorem bbytes_d {k : Kd} {d : List Int × List Bs} (hk : RKd w0 H k) (hb : bytesK d ≤ 4611686018427387904) (e : k.d = d) : FnV Try.prog w0 H 29 #[.agg k.cells.toArray] (.int .i64 (bytesK d : Nat)) := by
  subst e; exact bbytes_s hk hb
theorem bchild_d {k : Kd} {a : Option Addr} {c : Nat} {key : Bs} {ks : List Bs} (hk : RKd w0 H k) (ha : RBy w0 H a c key) (e : k.keys = ks) : FnV Try.prog w0 H 31 #[.agg k.cells.toArray, .slice a key.length c] (.int .i64 (chl ks key : Nat)) := by
  subst e; exact bchild_s hk ha
theorem bencode_d {k : Kd} {size : Int} {d : List Int × List Bs} (hk : RKd w0 H k) (hI : ∀ n ∈ k.ps, I64 n) (e : k.d = d) : FnS Try.prog w0 H 25 #[.int .i64 size, .agg k.cells.toArray] (EncR size d H) := by
  subst e; exact bencode_s hk hI
theorem told_s {k q : Kd} {size : Int} {a : Option Addr} {c : Nat} {key : Bs} (hk : RKd w0 H k) (hq : RKd w0 H q) (ha : RBy w0 H a c key) (hd : k.d = q.d) (hm : ksm9 q) (hI : ∀ n ∈ k.ps, I64 n) :
    FnV Try.prog w0 H 33 #[.int .i64 size, .agg k.cells.toArray, .agg q.cells.toArray, .slice a key.length c] (.bool true) := by
  have e1 : k.ps = q.ps := congrArg Prod.fst hd
  have e2 : k.keys = q.keys := congrArg Prod.snd hd
  have hm2 := hm
  obtain ⟨hm3, hm4⟩ := hm2
  have hb : bytesK q.d ≤ 4611686018427387904 := by simp only [bytesK]; omega
  refine fns_enter Try.func33 rfl rfl rfl ?_
  refine sx ?_
  refine s_boxA rfl fun b5 => ?_
  refine sx ?_
  refine s_boxA rfl fun b6 => ?_
  refine sx ?_
  refine s_callV rfl (bsplit_d (by exact rkd) (by rw [e1]; omega) hd) ?_
  refine sx ?_
  refine s_callV rfl (rsplit_s (k := q) (by exact rkd) hm) ?_
  refine sx ?_
  refine sx ?_; refine s_dr (.one true 0 (.one true 1 (.one true 2 (.one true 3 (.one true 4 (.one true 5 (.one true 6 (.one true 7 (.one true 8 (.one true 9 (.one true 10 (.one true 12 (.one true 13 (.one false 11 (.one false 14 (.one true 15 (.one true 16 (.one true 17 (.one true 18 (.one true 20 (.one false 19 (.one false 21 (.one true 22 (.one true 23 (.one true 24 (.one true 25 (.one true 26 (.one true 28 (.one true 29 (.one false 27 (.one false 30 (.one true 31 (.one true 32 (.one true 33 .nil)))))))))))))))))))))))))))))))))) mixed (by kernel_rfl) ?_; refine sx ?_
  refine s_callV rfl (bcheck_d (by exact rkd) hI hd) ?_
  refine sx ?_
  refine s_callV rfl (rcheck_s (k := q) (by exact rkd) (by omega)) ?_
  refine sx ?_
  refine s_callV rfl (bbytes_d (by exact rkd) hb hd) ?_
  refine sx ?_
  refine s_callV rfl (rbytes_s (k := q) (by exact rkd) hb) ?_
  refine sx ?_
  refine s_callV rfl (bchild_d (by exact rkd) (by exact rby) e2) ?_
  refine sx ?_
  refine s_callV rfl (rchild_s (k := q) (by exact rkd) (by exact rby)) ?_
  refine sx ?_
  exact s_ret1 rfl rfl ⟨rfl, rfl⟩
set_option maxHeartbeats 1000000 in
theorem checks_s {k q : Kd} {size : Int} {a : Option Addr} {c : Nat} {key : Bs} (hk : RKd w0 H k) (hkp : k.ps.length ≤ 140737488355328) (hkl : ∀ p ∈ k.ks, p.xs.length ≤ 140737488355328) (hkI : ∀ n ∈ k.ps, I64 n) (hq : RKd w0 H q) (hqp : q.ps.length ≤ 140737488355328) (hql : ∀ p ∈ q.ks, p.xs.length ≤ 140737488355328) (hqI : ∀ n ∈ q.ps, I64 n) (ha : RBy w0 H a c key) :
    FnV Try.prog w0 H 10 #[.int .i64 size, .agg k.cells.toArray, .agg q.cells.toArray, .slice a key.length c] (.bool true) := by
  refine fns_enter Try.func10 rfl rfl rfl ?_
  refine sx ?_
  refine s_boxA rfl fun b5 => ?_
  refine sx ?_
  refine s_boxA rfl fun b6 => ?_
  refine sx ?_
  refine s_callV rfl alive_s ?_
  refine sx ?_
  refine s_callV rfl (weight_s (by exact rkd) hkp hkl) ?_
  refine sx ?_
  refine s_lif rfl (fun t1 => ?_) (fun t1 => ?_)
  · refine sx ?_
    exact s_ret1 rfl rfl ⟨rfl, rfl⟩
  refine sx ?_
  refine s_callV rfl (weight_s (by exact rkd) hqp hql) ?_
  refine sx ?_
  refine s_if rfl (fun t2 => ?_) (fun t2 => ?_)
  · refine sx ?_
    exact s_ret1 rfl rfl ⟨rfl, rfl⟩
  have hm1 := wgt_ksm t1
  have hm2 := wgt_ksm t2
  refine sx ?_
  refine s_call rfl (lend_s (k := k) (by exact rkd) hm1) ?_
  rintro _ _ ⟨L, rfl, hLd, rfl⟩
  refine ⟨chk_seq, ?_⟩
  have hLI : ∀ n ∈ L.k.ps, I64 n := by
    have e1 : L.k.ps = k.ps := congrArg Prod.fst hLd
    rw [e1]
    exact hkI
  have hps : L.k.ps.length ≤ 140737488355328 := by
    have e1 : L.k.ps = k.ps := congrArg Prod.fst hLd
    rw [e1]
    exact hkp
  refine sx ?_
  have rL : RKd w0 (L.hb :: .star L.cs :: .hb b6 31 q.cells :: .hb b5 31 k.cells :: H) L.k := RKd.tl Bl.rkd
  refine sx ?_; refine s_dr (.one true 0 (.one true 1 (.one true 2 (.one true 3 (.one true 4 (.one true 5 (.one true 6 (.one false 7 (.one true 8 .nil))))))))) mixed (by kernel_rfl) ?_; refine sx ?_
  refine s_rw (t := 42) (v' := .agg L.k.cells.toArray) rfl rfl ?_
  refine sx ?_
  refine s_callV rfl (told_s (k := L.k) (q := k) (by exact rkd) (by exact rkd) (by exact rby) hLd hm1 hLI) ?_
  refine sx ?_
  refine s_rw (t := 51) (v' := .agg L.k.cells.toArray) rfl rfl ?_
  refine s_call rfl (bencode_d (k := L.k) (by exact rkd) hLI hLd) ?_
  rintro _ _ ⟨a1, c1, rfl, rfl⟩
  refine ⟨chk_seq, ?_⟩
  refine sx ?_
  refine s_callV rfl (told_s (k := q) (q := q) (by exact rkd) (by exact rkd) (by exact rby) rfl hm2 hqI) ?_
  refine sx ?_
  refine s_rw (t := 65) (v' := .agg L.k.cells.toArray) rfl rfl ?_
  refine s_call rfl (bencode_d (k := L.k) (by exact rkd) hLI hLd) ?_
  rintro _ _ ⟨a2, c2, rfl, rfl⟩
  refine ⟨chk_seq, ?_⟩
  refine sx ?_
  refine s_call rfl (rencode_s (k := k) (by exact rkd) (by have := hm1.1; omega)) ?_
  rintro _ _ ⟨a3, c3, rfl, rfl⟩
  refine ⟨chk_seq, ?_⟩
  generalize encR size k.d = E
  refine sx ?_
  refine s_loop (fun j : Nat × Bs => [(0, .int .i64 size), (3, .slice a key.length c), (5, .pointer (some ⟨b5, 0, none⟩)), (10, .pointer (some ⟨L.b, 0, none⟩)), (12, .slice a1 E.length c1), (15, .slice a2 E.length c2), (17, .slice a3 E.length c3), (19, .int .i64 j.1)]) (fun j => ob a1 c1 j.2 :: ob a3 c3 E :: ob a2 c2 E :: L.hb :: .star L.cs :: .hb b6 31 q.cells :: .hb b5 31 k.cells :: H) (fun j => j.1 ≤ E.length ∧ j.2.length = E.length) (fun j => E.length - j.1) (0, E) ⟨Nat.zero_le _, rfl⟩ ?_
  rintro ⟨n, ys⟩ ⟨hn, hys⟩
  simp only at hn hys ⊢
  refine s_kn (Kn.by (a := a1) (c := c1) (xs := ys) (by exact rby)) fun m1 => ?_
  simp only [maxLen] at m1
  refine sx ?_
  refine s_if rfl (fun t3 => ?_) (fun t3 => ?_)
  · refine s_kn (φ := ∃ ad, a1 = some ad) (fun w hw => own_gA (c := c1) (Sat.ownOf (c' := ob a1 c1 ys) .hd hw) (by omega)) ?_
    rintro ⟨ad, rfl⟩
    refine sx ?_
    refine s_rw (t := 115) (v' := .slice (some ad) ys.length c1) rfl (by rw [hys]) ?_
    refine sx ?_
    refine s_set1 (y := (7 : UInt8)) (i := n) rfl rfl (by exact at_) rfl (by omega) ?_
    refine sx ?_
    exact s_again (n + 1, ys.set n 7) ⟨by simp only; omega, by simp only [List.length_set]; exact hys⟩ (by simp only; omega)
  clear hn t1 t2 t3
  refine sx ?_
  refine s_call rfl ((stays_s (L := L) (k := k) (H := ob a1 c1 ys :: ob a3 c3 E :: ob a2 c2 E :: .hb b6 31 q.cells :: .hb b5 31 k.cells :: H) (by exact rkd) hLd hm1).ent (by exact ent)) ?_
  rintro _ _ ⟨rfl, rfl⟩
  refine ⟨chk_seq, ?_⟩
  refine sx ?_
  have hm3 := ksm_up (ksm9_d hm1 hLd)
  have rL2 : RKd w0 (L.hb :: .star L.cs' :: ob a1 c1 ys :: ob a3 c3 E :: ob a2 c2 E :: .hb b6 31 q.cells :: .hb b5 31 k.cells :: H) L.k' := RKd.tl Bl.rkd'
  refine sx ?_; refine s_dr (.one true 0 (.one true 1 (.one true 2 (.one true 3 (.one true 4 (.one true 5 (.one true 6 (.one true 7 (.one true 8 (.one true 9 (.one false 10 (.one true 11 .nil)))))))))))) mixed (by kernel_rfl) ?_; refine sx ?_
  refine s_rw (t := 125) (v' := .agg L.k'.cells.toArray) rfl (by rw [Bl.cells']; rfl) ?_
  refine s_rw (t := 129) (v' := .agg L.k'.cells.toArray) rfl (by rw [Bl.cells']; rfl) ?_
  refine s_callV rfl (told_s (k := L.k') (q := L.k') (by exact rkd) (by exact rkd) (by exact rby) rfl hm3 Bl.I64') ?_
  refine sx ?_
  refine s_rw (t := 137) (v' := .agg L.k'.cells.toArray) rfl (by rw [Bl.cells']; rfl) ?_
  refine s_call rfl (bencode_s (k := L.k') (by exact rkd) Bl.I64') ?_
  rintro _ _ ⟨a4, c4, rfl, rfl⟩
  refine ⟨chk_seq, ?_⟩
  refine sx ?_
  refine s_rw (t := 146) (v' := .agg L.k'.cells.toArray) rfl (by rw [Bl.cells']; rfl) ?_
  refine s_call rfl (rencode_s (k := L.k') (by exact rkd) (by have := hm3.1; omega)) ?_
  rintro _ _ ⟨a5, c5, rfl, rfl⟩
  refine ⟨chk_seq, ?_⟩
  generalize encR size L.k'.d = E2
  refine sx ?_
  exact s_ret1 rfl rfl ⟨rfl, rfl⟩
end Go.Sx
