/- Part of a proof: room; a node's halves and how it is split, by the document. (Of the seat that holds NodeEncodes alone.) -/
import Derived.Test.YtkcabddbeclokaaGreatCWDj
import Derived.Test.YtkcabddbeclokaaGreatCVO
namespace Go.Sx
open Go Go.Proofs
set_option maxRecDepth 10000
variable {w0 : World} {H : List Ck}
def Kd.lft (k : Kd) (n : Nat) : Kd := ⟨k.pa, k.pc, k.ps.take n, k.ka, k.kc, k.ks.take (n - 1)⟩
def Kd.rgt (k : Kd) (n : Nat) : Kd := ⟨Sx.sl k.pa k.pc n 1, k.pc - n, k.ps.drop n, Sx.sl k.ka k.kc n 1, k.kc - n, k.ks.drop n⟩
theorem RKd.lft {k : Kd} {n : Nat} (h : RKd w0 H k) (h1 : n ≤ k.ps.length) (h2 : n - 1 ≤ k.ks.length) : RKd w0 H (k.lft n) := ⟨h.ps.take h1, h.ks.take h2, fun p hp => h.el p (List.mem_of_mem_take hp)⟩
theorem RKd.rgt {k : Kd} {n : Nat} (h : RKd w0 H k) (h1 : n ≤ k.ps.length) (h2 : n ≤ k.ks.length) : RKd w0 H (k.rgt n) := ⟨h.ps.drop h1, h.ks.drop h2, fun p hp => h.el p (List.mem_of_mem_drop hp)⟩
theorem Kd.lft_c {k : Kd} {n : Nat} (h1 : n ≤ k.ps.length) (h2 : n - 1 ≤ k.ks.length) : (k.lft n).cells = [.slice k.pa n k.pc, .slice k.ka (n - 1 : Nat) k.kc] := by
  simp only [Kd.cells, Kd.lft, List.length_take, Nat.min_eq_left h1, Nat.min_eq_left h2]
theorem Kd.rgt_c {k : Kd} {n : Nat} : (k.rgt n).cells = [.slice (Sx.sl k.pa k.pc n 1) (k.ps.length - n) (k.pc - n), .slice (Sx.sl k.ka k.kc n 1) (k.ks.length - n) (k.kc - n)] := by
  simp only [Kd.cells, Kd.rgt, List.length_drop]
theorem rparts_s {k : Kd} {n : Nat} {p : SB} (hk : RKd w0 H k) (h1 : 1 ≤ n) (h2 : n ≤ k.ks.length) (h3 : k.ks.length + 1 = k.ps.length) (hp : k.ks[n - 1]? = some p) :
    FnV Tryz.prog w0 H 78 #[.agg k.cells.toArray, .int .i64 n] (.tuple #[.agg (k.lft n).cells.toArray, p.val, .agg (k.rgt n).cells.toArray]) := by
  refine fns_enter Tryz.func78 rfl rfl rfl ?_
  refine s_kn (Kn.kp hk) fun l1 => s_kn (Kn.kk hk) fun l2 => ?_
  simp only [maxLen] at l1 l2
  have hks := hk.ks
  refine sx ?_
  refine s_boxA rfl fun b2 => ?_
  refine sx ?_
  refine s_alloc fun b4 => ?_
  refine sx ?_
  refine s_alloc fun b6 => ?_
  refine sx ?_
  refine sx ?_; refine s_drH (.hb b6 25 [.slice none 0 0, .slice none 0 0] :: .hb b4 25 [.slice none 0 0, .slice none 0 0] :: .hb b2 25 k.cells :: H) (.one true 0 (.one true 1 (.one true 2 (.one true 3 (.one true 4 (.one true 5 (.one true 6 (.one true 7 (.one true 8 (.one true 9 (.one false 10 (.one false 11 .nil)))))))))))) mixed (by kernel_rfl) ?_; refine sx ?_
  refine s_rw (t := 16) rfl (ci (by omega : _ = ((n - 1 : Nat) : Int))) ?_
  refine sx ?_
  refine s_rw (t := 18) (v' := .agg (k.lft n).cells.toArray) rfl (by rw [Kd.lft_c (by omega) (by omega)]; rfl) ?_
  refine s_alloc fun b7 => ?_
  refine sx ?_
  refine sx ?_; refine s_drH (.hb b7 25 (k.lft n).cells :: .hb b6 25 [.slice none 0 0, .slice none 0 0] :: .hb b4 25 [.slice none 0 0, .slice none 0 0] :: .hb b2 25 k.cells :: H) (.one true 0 (.one true 1 (.one true 2 (.one true 3 (.one true 4 (.one true 5 (.one true 6 (.one true 7 (.one true 8 (.one false 9 (.one false 10 .nil))))))))))) mixed (by kernel_rfl) ?_; refine sx ?_
  refine s_rw (t := 27) (v' := .agg (k.rgt n).cells.toArray) rfl (by rw [Kd.rgt_c]; rfl) ?_
  refine s_alloc fun b8 => ?_
  refine sx ?_
  refine sx ?_; refine s_drH (.hb b8 25 (k.rgt n).cells :: .hb b7 25 (k.lft n).cells :: .hb b2 25 k.cells :: H) (.one true 0 (.one true 1 (.one true 2 (.one true 3 (.one true 4 (.one true 5 (.one true 6 (.one true 7 (.one false 8 (.one true 9 (.one false 10 .nil))))))))))) mixed (by kernel_rfl) ?_; refine sx ?_
  exact s_retcvc rfl rfl rfl rfl (by exact at_) (by exact rfl) (by exact at_) (by exact rfl) ⟨rfl, rfl⟩
def roomN (size : Int) (d : List Int × List Bs) : Int := if sizedB size = true then max 0 (size - 32 - (bytesK d : Nat)) else 0
theorem nroom_s {k : Kd} {size : Int} (hk : RKd w0 H k) (hb : bytesK k.d ≤ 4611686018427387904) : FnV Tryz.prog w0 H 18 #[.int .i64 size, .agg k.cells.toArray] (.int .i64 (roomN size k.d)) := by
  refine fns_enter Tryz.func18 rfl rfl rfl ?_
  unfold roomN
  refine sx ?_
  refine s_boxA rfl fun b3 => ?_
  refine sx ?_
  refine s_callV rfl nsized_s ?_
  by_cases hz : sizedB size = true
  · have hb2 := sizedB_bd hz
    rw [hz, if_pos rfl]
    refine sx ?_
    refine s_callV rfl (bbytes_s (k := k) (by exact rkd) hb) ?_
    refine sx ?_
    exact s_ret1 rfl rfl ⟨rfl, rfl⟩
  · rw [Bool.not_eq_true] at hz
    rw [hz, if_neg (by decide)]
    refine sx ?_
    exact s_ret1 rfl rfl ⟨rfl, rfl⟩
theorem rroom_s {k : Kd} {size : Int} (hk : RKd w0 H k) (hb : bytesK k.d ≤ 4611686018427387904) : FnV Tryz.prog w0 H 23 #[.int .i64 size, .agg k.cells.toArray] (.int .i64 (roomN size k.d)) := by
  refine fns_enter Tryz.func23 rfl rfl rfl ?_
  unfold roomN
  refine sx ?_
  refine s_boxA rfl fun b3 => ?_
  refine sx ?_
  refine s_callV rfl rnsized_s ?_
  by_cases hz : sizedB size = true
  · have hb2 := sizedB_bd hz
    rw [hz, if_pos rfl]
    refine sx ?_
    refine s_callV rfl (rbytes_s (k := k) (by exact rkd) hb) ?_
    refine sx ?_
    exact s_ret1 rfl rfl ⟨rfl, rfl⟩
  · rw [Bool.not_eq_true] at hz
    rw [hz, if_neg (by decide)]
    refine sx ?_
    exact s_ret1 rfl rfl ⟨rfl, rfl⟩
theorem forP_lt {ks : List Bs} {k : Nat} {m : MD} : forP ks 0 (k : Int) m = decide (chl ks m.lo < k) := by
  rw [forP, Bool.eq_iff_iff]
  simp only [Bool.and_eq_true, decide_eq_true_eq]
  omega
set_option maxHeartbeats 1000000 in
theorem rhalves_s {n : Nd} {k : Nat} (hn : RNd w0 H n) (h1 : 1 ≤ k) (h2 : k ≤ n.k.ks.length) (hl : n.k.ks.length + 1 = n.k.ps.length) (h3 : sumM n.md ≤ 549755813888) (hasc : n.md.Pairwise (fun a b => chl n.k.keys a.lo ≤ chl n.k.keys b.lo)) :
    FnS Tryz.prog w0 H 52 #[.agg n.cells.toArray, .int .i64 (k : Int)] (fun v H' => ∃ (ia : Option Addr) (ic : Nat) (is : List Mg) (oa : Option Addr) (oc : Nat) (os : List Mg), v = .tuple #[.agg (Nd.mk (n.k.lft k) ia ic is).cells.toArray, .agg (Nd.mk (n.k.rgt k) oa oc os).cells.toArray] ∧ H' = ol 56 ia ic is :: ol 56 oa oc os :: stars oM is :: stars oM os :: H ∧ is.map Mg.d = n.md.take (atN n.k.keys n.md k) ∧ os.map Mg.d = n.md.drop (atN n.k.keys n.md k)) := by
  refine fns_enter Tryz.func52 rfl rfl rfl ?_
  have hk := hn.k
  obtain ⟨p, hp⟩ := get_lt n.k.ks (k - 1) (by omega)
  obtain ⟨f1, f2⟩ := at_filter (k := k) hasc
  refine sx ?_
  refine s_boxA rfl fun b2 => ?_
  refine sx ?_
  refine s_alloc fun b4 => ?_
  refine sx ?_
  refine s_alloc fun b5 => ?_
  refine sx ?_
  refine s_callV rfl (rparts_s (k := n.k) (n := k) (p := p) (by exact rkd) h1 h2 hl hp) ?_
  refine sx ?_
  refine s_alloc fun b6 => ?_
  refine sx ?_
  refine s_alloc fun b8 => ?_
  refine sx ?_
  refine s_call rfl (rfor_s (n := n) (i := 0) (k := (k : Int)) (by exact rnd) h3) ?_
  rintro _ _ ⟨ia, ic, is, oa, oc, os, rfl, rfl, his, hos⟩
  refine ⟨chk_seq, ?_⟩
  rw [List.filter_congr fun m _ => forP_lt, ← f1] at his
  rw [List.filter_congr fun m _ => by rw [forP_lt], ← f2] at hos
  refine sx ?_
  refine sx ?_; refine s_drH (.hb b8 25 (n.k.rgt k).cells :: .hb b6 25 (n.k.lft k).cells :: H) (.one true 0 (.one true 1 (.one true 2 (.one true 3 (.one true 4 (.one true 5 (.one false 6 (.one false 7 .nil)))))))) mixed (by kernel_rfl) ?_; refine sx ?_
  exact s_retcc (vs := (Nd.mk (n.k.lft k) ia ic is).cells) (vs' := (Nd.mk (n.k.rgt k) oa oc os).cells) rfl rfl rfl (by exact at_) rfl (by exact at_) rfl ⟨ia, ic, is, oa, oc, os, rfl, rfl, his, hos⟩ (by exact ent)
theorem RMs.st {a : Option Addr} {c : Nat} {ms : List Mg} {H : List Ck} : RMs w0 (ol 56 a c ms :: stars oM ms :: H) a c ms := ⟨RSl.hd, fun m hm => ((RMg.oM (H := [])).ent (by rw [List.append_nil]; exact stars_mem hm)).tl⟩
theorem RNd.hv {n : Nd} {k : Nat} {ia oa : Option Addr} {ic oc : Nat} {is os : List Mg} {H : List Ck} (hn : RNd w0 H n) (h2 : k ≤ n.k.ks.length) (hl : n.k.ks.length + 1 = n.k.ps.length) :
    RNd w0 (ol 56 ia ic is :: ol 56 oa oc os :: stars oM is :: stars oM os :: H) ⟨n.k.lft k, ia, ic, is⟩ ∧ RNd w0 (ol 56 ia ic is :: ol 56 oa oc os :: stars oM is :: stars oM os :: H) ⟨n.k.rgt k, oa, oc, os⟩ := by
  refine ⟨⟨(hn.k.lft (by omega) (by omega)).tl.tl.tl.tl, ?_⟩, ⟨(hn.k.rgt (by omega) (by omega)).tl.tl.tl.tl, ?_⟩⟩
  · exact RMs.ent (RMs.st (H := H)) (Ent.head (Ent.tl (Ent.head (Ent.tl Ent.refl))))
  · exact RMs.ent (RMs.st (H := H)) (Ent.tl (Ent.head (Ent.tl (Ent.head Ent.refl))))
theorem xOfA {n : Nd} {k : Nat} {a : Option Addr} {c : Nat} {ms : List Mg} (h : ms.map Mg.d = n.md.take (atN n.k.keys n.md k)) : Nd.x ⟨n.k.lft k, a, c, ms⟩ = hfA n.x k := by
  show ((n.k.ps.take k, (n.k.ks.take (k - 1)).map SB.xs), ms.map Mg.d) = _
  rw [h, List.map_take]
  rfl
theorem xOfB {n : Nd} {k : Nat} {a : Option Addr} {c : Nat} {ms : List Mg} (h : ms.map Mg.d = n.md.drop (atN n.k.keys n.md k)) : Nd.x ⟨n.k.rgt k, a, c, ms⟩ = hfB n.x k := by
  show ((n.k.ps.drop k, (n.k.ks.drop k).map SB.xs), ms.map Mg.d) = _
  rw [h, List.map_drop]
  rfl
theorem bytesX {a b : Nd} (h : a.x = b.x) : bytesK a.k.d + sumM a.md = bytesK b.k.d + sumM b.md := by
  have e1 : a.k.d = b.k.d := congrArg Prod.fst h
  have e2 : a.md = b.md := congrArg Prod.snd h
  rw [e1, e2]
theorem RNd.hw {n : Nd} {k b1 b2 b3 : Nat} {T1 T2 T3 : TypeId} {v1 v2 v3 : List Value} {ia oa : Option Addr} {ic oc : Nat} {is os : List Mg} {H : List Ck} (hn : RNd w0 H n) (h2 : k ≤ n.k.ks.length) (hl : n.k.ks.length + 1 = n.k.ps.length) :
    RNd w0 (.hb b2 T2 v2 :: .hb b1 T1 v1 :: ol 56 ia ic is :: ol 56 oa oc os :: stars oM is :: stars oM os :: .hb b3 T3 v3 :: H) ⟨n.k.lft k, ia, ic, is⟩ ∧ RNd w0 (.hb b2 T2 v2 :: .hb b1 T1 v1 :: ol 56 ia ic is :: ol 56 oa oc os :: stars oM is :: stars oM os :: .hb b3 T3 v3 :: H) ⟨n.k.rgt k, oa, oc, os⟩ := by
  obtain ⟨h3, h4⟩ := RNd.hv (ia := ia) (oa := oa) (ic := ic) (oc := oc) (is := is) (os := os) (k := k) (hn.tl (d := .hb b3 T3 v3)) h2 hl
  exact ⟨h3.tl.tl, h4.tl.tl⟩
set_option maxHeartbeats 4000000 in
theorem rsplit_s {n : Nd} {size : Int} (hn : RNd w0 H n) (hs : n.Small) : FnV Tryz.prog w0 H 21 #[.int .i64 size, .agg n.cells.toArray] (.tuple #[.int .i64 (splN size n.x).1, .int .i64 (splN size n.x).2]) := by
  refine fns_enter Tryz.func21 rfl rfl rfl ?_
  have hk := hn.k
  have hsp := hs.p
  have hsm := hs.m
  have hps := hk.ps
  refine sx ?_
  refine s_boxA rfl fun b3 => ?_
  refine sx ?_
  refine s_callV rfl rnsized_s ?_
  by_cases hz : sizedB size = true
  case neg =>
    rw [Bool.not_eq_true] at hz
    have e : splN size n.x = (0, 1) := by
      unfold splN
      rw [show chkK size n.x.1 = 1 from chkK_1 hz]
      rfl
    rw [hz, e]
    refine sx ?_
    exact s_ret2 rfl rfl rfl ⟨rfl, rfl⟩
  rw [hz]
  refine sx ?_
  unfold splN
  have hfl : ¬ (chkK size n.k.d ≠ 0 ∧ chkK size n.k.d ≠ 64) → sizedB size = true ∧ n.k.ks.length + 1 = n.k.ps.length := fun t1 => by
    obtain ⟨hz, hf⟩ := chkK_f t1
    have : n.k.keys.length = n.k.ks.length := List.length_map _
    have hf : n.k.keys.length + 1 = n.k.ps.length := hf
    exact ⟨hz, by omega⟩
  refine s_callV rfl (rcheck_s (k := n.k) (size := size) (by exact rkd) (by omega)) ?_
  generalize chkK size n.k.d = e at hfl ⊢
  by_cases t1 : e ≠ 0 ∧ e ≠ 64
  · rw [if_pos t1]
    refine sx ?_
    refine s_lifn rfl (fun t2 => ?_) (fun t2 => absurd t2 t1.1)
    refine sx ?_
    refine s_ifn rfl (fun t3 => ?_) (fun t3 => absurd t3 t1.2)
    refine sx ?_
    exact s_ret2 rfl rfl rfl ⟨rfl, rfl⟩
  rw [if_neg t1]
  obtain ⟨_, hfl⟩ := hfl t1
  have t1' : e = 0 ∨ e = 64 := by omega
  clear t1
  have stp : StopAt 7 := trivial
  apply s_joinU
  · intro key
    rcases t1' with t1' | t1'
    · rw [t1']
      refine sxs ?_
      refine s_sub (l' := [(0, .int .i64 size), (3, .pointer (some ⟨b3, 0, none⟩)), (4, .int .i64 0), (5, .int .i64 0)]) ?_ (by repeat (first | exact trivial | refine And.intro (by first | exact rfl | exact congrArg some (ci (by omega))) ?_))
      exact key.out
    · rw [t1']
      refine sxs ?_
      refine s_sub (l' := [(0, .int .i64 size), (3, .pointer (some ⟨b3, 0, none⟩)), (4, .int .i64 0), (5, .int .i64 0)]) ?_ (by repeat (first | exact trivial | refine And.intro (by first | exact rfl | exact congrArg some (ci (by omega))) ?_))
      exact key.out
  clear stp
  refine sx ?_
  refine s_rw (t := 32) (v' := .pointer (some ((⟨b3, 0, none⟩ : Addr).add 0))) rfl rfl ?_
  refine sx ?_
  refine s_if rfl (fun t2 => ?_) (fun t2 => ?_)
  · rw [if_pos (show n.x.1.1.length < 4 by show n.k.ps.length < 4; omega)]
    refine sx ?_
    exact s_ret2 rfl rfl rfl ⟨rfl, rfl⟩
  have h4 : 4 ≤ n.k.ps.length := by omega
  rw [if_neg (show ¬ n.x.1.1.length < 4 by show ¬ n.k.ps.length < 4; omega)]
  refine sx ?_
  refine s_callV rfl (messages_s (n := n) (size := size) (by exact rnd)) ?_
  refine sx ?_
  refine s_ifn rfl (fun t3 => ?_) (fun t3 => ?_)
  · rw [if_pos (show mayN size n.x.1.2 n.x.2 ≠ 0 from t3)]
    refine sx ?_
    exact s_ret2 rfl rfl rfl ⟨rfl, rfl⟩
  rw [if_neg (show ¬ mayN size n.x.1.2 n.x.2 ≠ 0 from fun h => h t3)]
  have hasc := (mayG_asc (show mayG size n.k.keys none n.md = 0 from t3)).2
  clear t2
  refine sx ?_
  refine s_loop (fun i : Nat × Int => [(0, .int .i64 size), (3, .pointer (some ⟨b3, 0, none⟩)), (8, .int .i64 (bestF n.x i.1 : Nat)), (9, .int .i64 i.2), (10, .int .i64 i.1)]) (fun _ => .hb b3 28 n.cells :: H) (fun i => 2 ≤ i.1 ∧ i.1 + 1 ≤ n.k.ps.length ∧ (bestF n.x i.1 ≠ 0 → i.2 = (longN n.x (bestF n.x i.1) : Nat))) (fun i => n.k.ps.length - i.1) (2, 0) ⟨by simp only; omega, by simp only; omega, fun h => absurd (bestF_2 _) h⟩ ?_
  rintro ⟨k, le⟩ ⟨g1, g2, g3⟩
  simp only at g1 g2 g3 ⊢
  have gb := bestF_bd n.x k
  refine sx ?_
  refine s_rw (t := 44) (v' := .pointer (some ((⟨b3, 0, none⟩ : Addr).add 0))) rfl rfl ?_
  refine sx ?_
  refine s_if rfl (fun t4 => ?_) (fun t4 => ?_)
  · refine sx ?_
    refine s_call rfl (rhalves_s (n := n) (k := k) (by exact rnd) (by omega) (by omega) (by omega) (by omega) hasc) ?_
    rintro _ _ ⟨ia, ic, is, oa, oc, os, rfl, rfl, his, hos⟩
    refine ⟨chk_seq, ?_⟩
    refine sx ?_
    refine s_alloc fun b11 => ?_
    refine sx ?_
    refine s_alloc fun b12 => ?_
    refine sx ?_
    obtain ⟨rA, rB⟩ := RNd.hw (b1 := b11) (b2 := b12) (b3 := b3) (T1 := 28) (T2 := 28) (T3 := 28) (v1 := (Nd.mk (n.k.lft k) ia ic is).cells) (v2 := (Nd.mk (n.k.rgt k) oa oc os).cells) (v3 := n.cells) (ia := ia) (oa := oa) (ic := ic) (oc := oc) (is := is) (os := os) (k := k) hn (by omega) (by omega)
    have xA := (xOfA (a := ia) (c := ic) his).trans (Nd.xA n k).symm
    have xB := (xOfB (a := oa) (c := oc) hos).trans (Nd.xB n k).symm
    have sA := (hs.hA k).b
    have sB := (hs.hB k).b
    have bA := bytesX xA
    have bB := bytesX xB
    refine sx ?_; refine s_dr (.one true 0 (.one true 2 (.one false 1 (.one false 3 (.one true 4 (.one true 5 .nil)))))) mixed (by kernel_rfl) ?_; refine sx ?_
    refine s_callV rfl (rnbytes_s (n := ⟨n.k.lft k, ia, ic, is⟩) rA (by omega)) ?_
    refine sx ?_
    refine s_callV rfl (rnbytes_s (n := ⟨n.k.rgt k, oa, oc, os⟩) rB (by omega)) ?_
    refine sx ?_
    have eL : max ((bytesK (Nd.mk (n.k.lft k) ia ic is).k.d + bytesM (Nd.mk (n.k.lft k) ia ic is).md : Nat) : Int) ((bytesK (Nd.mk (n.k.rgt k) oa oc os).k.d + bytesM (Nd.mk (n.k.rgt k) oa oc os).md : Nat) : Int) = (longN n.x k : Nat) := by
      rw [longN, ← xOfA (a := ia) (c := ic) his, ← xOfB (a := oa) (c := oc) hos]
      show _ = ((max (bytesK (Nd.mk (n.k.lft k) ia ic is).k.d + bytesM (Nd.mk (n.k.lft k) ia ic is).md) (bytesK (Nd.mk (n.k.rgt k) oa oc os).k.d + bytesM (Nd.mk (n.k.rgt k) oa oc os).md) : Nat) : Int)
      omega
    refine s_rw (t := 13) (v' := .int .i64 (longN n.x k : Nat)) rfl (by rw [eL]) ?_
    clear eL rA rB
    refine s_lif rfl (fun t5 => ?_) (fun t5 => ?_)
    · have eb : bestF n.x (k + 1) = k := by rw [bestF, if_neg (by omega), if_pos (.inl (by omega))]
      refine sx ?_
      refine s_rwQ (t := 8) (v' := .int .i64 (bestF n.x (k + 1) : Nat)) rfl (by rw [eb]) ?_
      exact s_again (k + 1, (longN n.x k : Nat)) ⟨by simp only; omega, by simp only; omega, fun _ => by simp only; rw [eb]⟩ (by simp only; omega) (he := by exact entq)
    have g3 := g3 (by omega)
    refine sx ?_
    refine s_if rfl (fun t6 => ?_) (fun t6 => ?_)
    · have eb : bestF n.x (k + 1) = k := by rw [bestF, if_neg (by omega), if_pos (.inr (by omega))]
      refine sx ?_
      refine s_rwQ (t := 8) (v' := .int .i64 (bestF n.x (k + 1) : Nat)) rfl (by rw [eb]) ?_
      exact s_again (k + 1, (longN n.x k : Nat)) ⟨by simp only; omega, by simp only; omega, fun _ => by simp only; rw [eb]⟩ (by simp only; omega) (he := by exact entq)
    · have eb : bestF n.x (k + 1) = bestF n.x k := by rw [bestF, if_neg (by omega), if_neg (by omega)]
      refine sx ?_
      refine s_rwQ (t := 8) (v' := .int .i64 (bestF n.x (k + 1) : Nat)) rfl (by rw [eb]) ?_
      exact s_again (k + 1, le) ⟨by simp only; omega, by simp only; omega, fun _ => by simp only; rw [eb]; exact g3⟩ (by simp only; omega) (he := by exact entq)
  have ek : k = n.x.1.1.length - 1 := by show k = n.k.ps.length - 1; omega
  rw [← ek]
  have gb : 2 ≤ bestF n.x k ∧ bestF n.x k < k := by omega
  generalize bestF n.x k = b at gb ⊢
  refine sx ?_
  refine s_call rfl (rhalves_s (n := n) (k := b) (by exact rnd) (by omega) (by omega) (by omega) (by omega) hasc) ?_
  rintro _ _ ⟨ia, ic, is, oa, oc, os, rfl, rfl, his, hos⟩
  refine ⟨chk_seq, ?_⟩
  refine sx ?_
  refine s_alloc fun b14 => ?_
  refine sx ?_
  refine s_alloc fun b15 => ?_
  refine sx ?_
  obtain ⟨rA, rB⟩ := RNd.hw (b1 := b14) (b2 := b15) (b3 := b3) (T1 := 28) (T2 := 28) (T3 := 28) (v1 := (Nd.mk (n.k.lft b) ia ic is).cells) (v2 := (Nd.mk (n.k.rgt b) oa oc os).cells) (v3 := n.cells) (ia := ia) (oa := oa) (ic := ic) (oc := oc) (is := is) (os := os) (k := b) hn (by omega) (by omega)
  have xA := xOfA (a := ia) (c := ic) his
  have xB := xOfB (a := oa) (c := oc) hos
  have sA := (hs.hA b).b
  have sB := (hs.hB b).b
  have bA := bytesX (xA.trans (Nd.xA n b).symm)
  have bB := bytesX (xB.trans (Nd.xB n b).symm)
  have lA : (Nd.mk (n.k.lft b) ia ic is).k.ps.length ≤ n.k.ps.length := by simp only [Kd.lft, List.length_take]; omega
  have lB : (Nd.mk (n.k.rgt b) oa oc os).k.ps.length ≤ n.k.ps.length := by simp only [Kd.rgt, List.length_drop]; omega
  rw [← xA, ← xB]
  refine s_callV rfl (rncheck_s (n := ⟨n.k.lft b, ia, ic, is⟩) (size := size) rA (by omega) (by omega)) ?_
  refine sx ?_
  refine s_lifn rfl (fun t5 => ?_) (fun t5 => ?_)
  · rw [if_pos (.inl t5)]
    refine sx ?_
    exact s_ret2 rfl rfl rfl ⟨rfl, rfl⟩ (by exact entq)
  refine sx ?_
  refine s_callV rfl (rncheck_s (n := ⟨n.k.rgt b, oa, oc, os⟩) (size := size) rB (by omega) (by omega)) ?_
  refine sx ?_
  refine s_ifn rfl (fun t6 => ?_) (fun t6 => ?_)
  · rw [if_pos (.inr t6)]
    refine sx ?_
    exact s_ret2 rfl rfl rfl ⟨rfl, rfl⟩ (by exact entq)
  rw [if_neg (fun h => h.elim (fun h => h t5) (fun h => h t6))]
  refine sx ?_
  exact s_ret2 rfl rfl rfl ⟨rfl, rfl⟩ (by exact entq)
end Go.Sx
