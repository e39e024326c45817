/- A node's halves, by the program; node.Split. -/
import Derived.Test.YtkcabddbeclokaaGreatCVN
import Derived.Test.YtkcabddbeclokaaGreatCVL
namespace Go.Sx
open Go Go.Proofs
set_option maxRecDepth 10000
variable {w0 : World} {H : List Ck}
abbrev Nd.at (n : Nd) (k : Nat) : Nat := atN n.k.keys n.md k
abbrev Nd.x (n : Nd) : ND := (n.k.d, n.md)
abbrev Nd.hA (n : Nd) (k : Nat) : Nd := ⟨⟨n.k.pa, n.k.pc, n.k.ps.take k, n.k.ka, n.k.kc, n.k.ks.take (k - 1)⟩, n.ma, n.mc, n.ms.take (n.at k)⟩
abbrev Nd.hB (n : Nd) (k : Nat) : Nd := ⟨⟨Sx.sl n.k.pa n.k.pc k 1, n.k.pc - k, n.k.ps.drop k, Sx.sl n.k.ka n.k.kc k 1, n.k.kc - k, n.k.ks.drop k⟩, Sx.sl n.ma n.mc (n.at k) 5, n.mc - n.at k, n.ms.drop (n.at k)⟩
theorem Nd.at_le (n : Nd) (k : Nat) : n.at k ≤ n.ms.length := by
  have := atN_le n.k.keys n.md k
  rwa [show n.md.length = n.ms.length from List.length_map _] at this
theorem Nd.xA (n : Nd) (k : Nat) : (n.hA k).x = hfA n.x k := by
  simp only [Nd.x, Nd.hA, hfA, Nd.md, Kd.d, Kd.keys, List.map_take]
theorem Nd.xB (n : Nd) (k : Nat) : (n.hB k).x = hfB n.x k := by
  simp only [Nd.x, Nd.hB, hfB, Nd.md, Kd.d, Kd.keys, List.map_drop]
theorem hA_cells {n : Nd} {k : Nat} (h2 : k ≤ n.k.ps.length) (h3 : k ≤ n.k.ks.length) : (n.hA k).cells = [.slice n.k.pa k n.k.pc, .slice n.k.ka (k - 1) n.k.kc, .slice n.ma (n.at k) n.mc] := by
  have h4 := n.at_le k
  have e1 : (n.k.ps.take k).length = k := by rw [List.length_take]; omega
  have e2 : (n.k.ks.take (k - 1)).length = k - 1 := by rw [List.length_take]; omega
  have e3 : (n.ms.take (n.at k)).length = n.at k := by rw [List.length_take]; omega
  simp only [Nd.cells, e1, e2, e3]
theorem hB_cells {n : Nd} {k : Nat} : (n.hB k).cells = [.slice (Sx.sl n.k.pa n.k.pc k 1) (n.k.ps.length - k) (n.k.pc - k), .slice (Sx.sl n.k.ka n.k.kc k 1) (n.k.ks.length - k) (n.k.kc - k), .slice (Sx.sl n.ma n.mc (n.at k) 5) (n.ms.length - n.at k) (n.mc - n.at k)] := by
  simp only [Nd.cells, List.length_drop]
theorem RNd.hA {n : Nd} {k : Nat} (h : RNd w0 H n) (h2 : k ≤ n.k.ps.length) (h3 : k ≤ n.k.ks.length) : RNd w0 H (n.hA k) :=
  ⟨⟨h.k.ps.take h2, h.k.ks.take (by omega), fun p hp => h.k.el p (List.mem_of_mem_take hp)⟩, ⟨h.ms.sl.take (n.at_le k), fun m hm => h.ms.el m (List.mem_of_mem_take hm)⟩⟩
theorem RNd.hB {n : Nd} {k : Nat} (h : RNd w0 H n) (h2 : k ≤ n.k.ps.length) (h3 : k ≤ n.k.ks.length) : RNd w0 H (n.hB k) :=
  ⟨⟨h.k.ps.drop h2, h.k.ks.drop h3, fun p hp => h.k.el p (List.mem_of_mem_drop hp)⟩, ⟨h.ms.sl.drop (n.at_le k), fun m hm => h.ms.el m (List.mem_of_mem_drop hm)⟩⟩
theorem at_step {ks : List Bs} {l : List MD} {i k : Nat} {m : MD} (h : l[i]? = some m) (hm : chl ks m.lo < k) : atN ks (l.drop i) k = 1 + atN ks (l.drop (i + 1)) k := by
  rw [dropC h, atN, List.takeWhile_cons_of_pos (by simpa using hm), List.length_cons, atN]
  omega
theorem at_stop {ks : List Bs} {l : List MD} {i k : Nat} {m : MD} (h : l[i]? = some m) (hm : ¬ chl ks m.lo < k) : atN ks (l.drop i) k = 0 := by
  rw [dropC h, atN, List.takeWhile_cons_of_neg (by simpa using hm)]
  rfl
set_option maxHeartbeats 1000000 in
theorem phalves_s {n : Nd} {k : Nat} (hn : RNd w0 H n) (h1 : 1 ≤ k) (h2 : k ≤ n.k.ps.length) (h3 : k ≤ n.k.ks.length) : FnV Tryz.prog w0 H 46 #[.agg n.cells.toArray, .int .i64 (k : Int)] (.tuple #[.agg (n.hA k).cells.toArray, .agg (n.hB k).cells.toArray]) := by
  refine fns_enter Tryz.func46 rfl rfl rfl ?_
  have hps := hn.k.ps
  have hks := hn.k.ks
  have hms := hn.ms.sl
  refine s_kn (Kn.sl hps) fun l1 => s_kn (Kn.sl hks) fun l2 => s_kn (Kn.sl hms) fun l3 => ?_
  simp only [maxLen] at l1 l2 l3
  have hat := n.at_le k
  refine sx ?_
  refine s_boxA rfl fun b2 => ?_
  refine sx ?_
  refine s_alloc fun b4 => ?_
  refine sx ?_
  refine s_alloc fun b5 => ?_
  refine sx ?_
  refine s_cutB (ι := Unit) (fun _ => [(1, .int .i64 (k : Int)), (2, .pointer (some ⟨b2, 0, none⟩)), (4, .pointer (some ⟨b4, 0, none⟩)), (5, .pointer (some ⟨b5, 0, none⟩)), (6, .int .i64 (n.at k : Nat))]) (fun _ => .hb b5 76 [.slice none 0 0, .slice none 0 0, .slice none 0 0] :: .hb b4 76 [.slice none 0 0, .slice none 0 0, .slice none 0 0] :: .hb b2 76 n.cells :: H) (fun _ => True) ?_ ?_
  · refine s_loop (fun i : Nat => [(1, .int .i64 (k : Int)), (2, .pointer (some ⟨b2, 0, none⟩)), (4, .pointer (some ⟨b4, 0, none⟩)), (5, .pointer (some ⟨b5, 0, none⟩)), (6, .int .i64 i)]) (fun _ => .hb b5 76 [.slice none 0 0, .slice none 0 0, .slice none 0 0] :: .hb b4 76 [.slice none 0 0, .slice none 0 0, .slice none 0 0] :: .hb b2 76 n.cells :: H) (fun i => i ≤ n.ms.length ∧ n.at k = i + atN n.k.keys (n.md.drop i) k) (fun i => n.ms.length - i) 0 ⟨Nat.zero_le _, by rw [List.drop_zero, Nat.zero_add]⟩ ?_
    rintro i ⟨hi, he⟩
    refine sx ?_; refine s_dr (.one true 0 (.one true 1 (.one true 2 (.one true 3 (.one true 4 (.one true 5 (.one true 6 (.one true 7 (.one true 8 (.one true 9 (.one true 10 (.one true 11 (.one true 13 (.one false 12 (.one true 14 (.one true 15 .nil)))))))))))))))) mixed (by kernel_rfl) ?_; refine sx ?_
    refine s_lif rfl (fun t1 => ?_) (fun t1 => ?_)
    · obtain ⟨m, hm⟩ := get_lt n.ms i (by omega)
      have hmd := get_map (f := Mg.d) hm
      have hrm := hn.ms.el m (List.mem_of_getElem? hm)
      refine sx ?_
      refine s_callV rfl (whose_s (n := n) (m := m) (by exact rnd) (by exact rmg)) ?_
      refine sx ?_
      refine s_if rfl (fun t2 => ?_) (fun t2 => ?_)
      · refine sx ?_
        refine s_again (i + 1) ⟨by omega, ?_⟩ (by omega)
        have := at_step hmd (show chl n.k.keys m.d.lo < k by have : m.d.lo = m.lo := rfl; rw [this]; omega)
        have e9 : n.md = List.map Mg.d n.ms := rfl
        rw [he, e9, this]
        omega
      · refine sx ?_
        have := at_stop hmd (show ¬ chl n.k.keys m.d.lo < k by have : m.d.lo = m.lo := rfl; rw [this]; omega)
        have e9 : n.md = List.map Mg.d n.ms := rfl
        rw [e9, this] at he
        refine s_rwQ (t := 6) (v' := .int .i64 (n.at k : Nat)) rfl (ci (by omega)) ?_
        exact s_mid () trivial
    · obtain rfl : i = n.ms.length := by omega
      rw [List.drop_of_length_le (by simp)] at he
      have : atN n.k.keys [] k = 0 := rfl
      refine sx ?_
      refine s_rwQ (t := 6) (v' := .int .i64 (n.at k : Nat)) rfl (ci (by omega)) ?_
      exact s_mid () trivial
  rintro _ _
  refine sx ?_; refine s_dr (.one true 0 (.one true 1 (.one true 2 (.one true 3 (.one true 4 (.one true 5 (.one true 6 (.one true 7 (.one true 8 (.one true 9 (.one true 10 (.one true 11 (.one true 12 (.one true 13 (.one true 14 (.one true 15 (.one true 16 (.one false 17 (.one false 18 .nil))))))))))))))))))) mixed (by kernel_rfl) ?_; refine sx ?_
  refine s_rw (t := 27) (v' := .pointer (some ((⟨b2, 0, none⟩ : Addr).add 0))) rfl rfl ?_
  refine sx ?_
  refine s_rw (t := 32) (v' := .pointer (some ((⟨b2, 0, none⟩ : Addr).add 1))) rfl rfl ?_
  refine sx ?_
  refine s_rw (t := 35) (v' := .int .i64 ((k - 1 : Nat) : Int)) rfl (ci (by omega)) ?_
  refine sx ?_
  refine s_rw (t := 42) (v' := .agg (n.hA k).cells.toArray) rfl (by rw [hA_cells h2 h3]; rfl) ?_
  refine s_alloc fun b7 => ?_
  refine sx ?_
  refine sx ?_; refine s_drH (.hb b7 76 (n.hA k).cells :: .hb b2 76 n.cells :: H) (.one true 0 (.one true 1 (.one true 2 (.one true 3 (.one true 4 (.one true 5 (.one true 6 (.one true 7 (.one true 8 (.one true 9 (.one true 10 (.one true 11 (.one true 12 (.one true 13 (.one true 14 (.one true 15 (.one true 16 (.one false 17 (.one false 18 .nil))))))))))))))))))) mixed (by kernel_rfl) ?_; refine sx ?_
  refine s_rw (t := 45) (v' := .pointer (some ((⟨b2, 0, none⟩ : Addr).add 0))) rfl rfl ?_
  refine sx ?_
  refine s_rw (t := 50) (v' := .pointer (some ((⟨b2, 0, none⟩ : Addr).add 1))) rfl rfl ?_
  refine sx ?_
  exact s_retcc (vs := (n.hA k).cells) (vs' := [.slice (Sx.sl n.k.pa n.k.pc k 1) (n.k.ps.length - k) (n.k.pc - k), .slice (Sx.sl n.k.ka n.k.kc k 1) (n.k.ks.length - k) (n.k.kc - k), .slice (Sx.sl n.ma n.mc (n.at k) 5) (n.ms.length - n.at k) (n.mc - n.at k)]) rfl rfl rfl (by exact at_) rfl (by exact at_) rfl ⟨by rw [hB_cells], rfl⟩
theorem Nd.Small.hA {n : Nd} (h : n.Small) (k : Nat) : (n.hA k).Small := by
  refine ⟨by simp only [List.length_take]; have := h.p; omega, ?_, ?_⟩
  · have h1 := keysB_take n.k.keys (k - 1)
    have h2 := h.k
    rw [show (n.hA k).k.keys = n.k.keys.take (k - 1) from List.map_take]
    omega
  · have h1 := sumM_take n.md (n.at k)
    have h2 := h.m
    rw [show (n.hA k).md = n.md.take (n.at k) from List.map_take]
    omega
theorem Nd.Small.hB {n : Nd} (h : n.Small) (k : Nat) : (n.hB k).Small := by
  refine ⟨by simp only [List.length_drop]; have := h.p; omega, ?_, ?_⟩
  · have h1 := keysB_drop n.k.keys k
    have h2 := h.k
    rw [show (n.hB k).k.keys = n.k.keys.drop k from List.map_drop]
    omega
  · have h1 := sumM_drop n.md (n.at k)
    have h2 := h.m
    rw [show (n.hB k).md = n.md.drop (n.at k) from List.map_drop]
    omega
theorem Nd.Small.b {n : Nd} (h : n.Small) : bytesK n.k.d + sumM n.md ≤ 60000000000 := by
  have h1 := h.p
  have h2 := h.k
  have h3 := h.m
  have : bytesK n.k.d = 2 + 4 * n.k.ps.length + keysB n.k.keys := rfl
  omega
theorem chkK_f {size : Int} {d : List Int × List Bs} (h : ¬ (chkK size d ≠ 0 ∧ chkK size d ≠ 64)) : sizedB size = true ∧ d.2.length + 1 = d.1.length := by
  unfold chkK at h
  split at h
  · exact absurd ⟨by decide, by decide⟩ h
  · rename_i h0
    split at h
    · exact absurd ⟨by decide, by decide⟩ h
    · rename_i h1
      exact ⟨by simpa using h0, (Decidable.not_not.1 h1).1⟩
theorem s_join {X G : Prop} (main : X → G) (key : X) : G := main key
abbrev SpW (b3 b7 : Nat) (n : Nd) (H : List Ck) : List Ck := .hb b7 76 n.cells :: .hb b3 28 n.cells :: H
set_option maxHeartbeats 2000000 in
theorem nsplit_s {n : Nd} {size : Int} (hn : RNd w0 H n) (hI : ∀ p ∈ n.k.ps, I64 p) (hs : n.Small) : FnV Tryz.prog w0 H 19 #[.int .i64 size, .agg n.cells.toArray] (.tuple #[.int .i64 (splN size n.x).1, .int .i64 (splN size n.x).2]) := by
  refine fns_enter Tryz.func19 rfl rfl rfl ?_
  have hk := hn.k
  have hsp := hs.p
  have hps := hk.ps
  refine sx ?_
  refine s_boxA rfl fun b3 => ?_
  refine sx ?_
  unfold splN
  have hfl : ¬ (chkK size n.k.d ≠ 0 ∧ chkK size n.k.d ≠ 64) → sizedB size = true ∧ n.k.ks.length + 1 = n.k.ps.length := fun t1 => by
    obtain ⟨hz, hf⟩ := chkK_f t1
    have : n.k.keys.length = n.k.ks.length := List.length_map _
    have hf : n.k.keys.length + 1 = n.k.ps.length := hf
    exact ⟨hz, by omega⟩
  refine s_callV rfl (bcheck_s (k := n.k) (size := size) (by exact rkd) hI) ?_
  generalize chkK size n.k.d = e at hfl ⊢
  by_cases t1 : e ≠ 0 ∧ e ≠ 64
  · rw [if_pos t1]
    refine sx ?_
    refine s_lifn rfl (fun t2 => ?_) (fun t2 => absurd t2 t1.1)
    refine sx ?_
    refine s_ifn rfl (fun t3 => ?_) (fun t3 => absurd t3 t1.2)
    refine sx ?_
    exact s_ret2 rfl rfl rfl ⟨rfl, rfl⟩
  rw [if_neg t1]
  obtain ⟨hz, hfl⟩ := hfl t1
  have t1' : e = 0 ∨ e = 64 := by omega
  clear t1
  have stp : StopAt 4 := trivial
  apply s_join
  · intro key
    rcases t1' with t1' | t1'
    · rw [t1']
      refine sxs ?_
      refine s_reg ?_
      refine sxs ?_
      refine s_sub (l' := [(0, .int .i64 size), (3, .pointer (some ⟨b3, 0, none⟩)), (4, .int .i64 0), (5, .int .i64 0)]) ?_ (by repeat (first | exact trivial | refine And.intro (by first | exact rfl | exact congrArg some (ci (by omega))) ?_))
      exact key
    · rw [t1']
      refine sxs ?_
      refine s_sub (l' := [(0, .int .i64 size), (3, .pointer (some ⟨b3, 0, none⟩)), (4, .int .i64 0), (5, .int .i64 0)]) ?_ (by repeat (first | exact trivial | refine And.intro (by first | exact rfl | exact congrArg some (ci (by omega))) ?_))
      exact key
  clear stp
  refine sx ?_
  refine s_callV rfl (whole_s (n := n)) ?_
  refine sx ?_
  refine s_alloc fun b7 => ?_
  refine sx ?_
  refine s_rw (t := 31) (v' := .pointer (some ((⟨b7, 0, none⟩ : Addr).add 0))) rfl rfl ?_
  refine sx ?_
  refine s_if rfl (fun t2 => ?_) (fun t2 => ?_)
  · rw [if_pos (show n.x.1.1.length < 4 by show n.k.ps.length < 4; omega)]
    refine sx ?_
    exact s_ret2 rfl rfl rfl ⟨rfl, rfl⟩
  have h4 : 4 ≤ n.k.ps.length := by omega
  rw [if_neg (show ¬ n.x.1.1.length < 4 by show ¬ n.k.ps.length < 4; omega)]
  refine sx ?_
  refine s_callV rfl (pmay_s (n := n) (size := size) (by exact rnd)) ?_
  refine sx ?_
  refine s_ifn rfl (fun t3 => ?_) (fun t3 => ?_)
  · rw [if_pos (show mayN size n.x.1.2 n.x.2 ≠ 0 from t3)]
    refine sx ?_
    exact s_ret2 rfl rfl rfl ⟨rfl, rfl⟩
  rw [if_neg (show ¬ mayN size n.x.1.2 n.x.2 ≠ 0 from fun h => h t3)]
  have hA : ∀ k : Nat, k ≤ n.k.ps.length → k ≤ n.k.ks.length → RNd w0 (SpW b3 b7 n H) (n.hA k) := fun k g1 g2 => (hn.hA g1 g2).tl.tl
  have hB : ∀ k : Nat, k ≤ n.k.ps.length → k ≤ n.k.ks.length → RNd w0 (SpW b3 b7 n H) (n.hB k) := fun k g1 g2 => (hn.hB g1 g2).tl.tl
  refine sx ?_
  refine s_cutB (ι := Nat) (fun b => [(0, .int .i64 size), (3, .pointer (some ⟨b3, 0, none⟩)), (7, .pointer (some ⟨b7, 0, none⟩)), (9, .int .i64 (b : Int))]) (fun _ => SpW b3 b7 n H) (fun b => b = bestF n.x (n.k.ps.length - 1)) ?_ ?_
  · refine s_loop (fun i : Nat × Int => [(0, .int .i64 size), (3, .pointer (some ⟨b3, 0, none⟩)), (7, .pointer (some ⟨b7, 0, none⟩)), (9, .int .i64 (bestF n.x i.1 : Nat)), (10, .int .i64 i.2), (11, .int .i64 i.1)]) (fun _ => SpW b3 b7 n H) (fun i => 2 ≤ i.1 ∧ i.1 + 1 ≤ n.k.ps.length ∧ (bestF n.x i.1 ≠ 0 → i.2 = (longN n.x (bestF n.x i.1) : Nat))) (fun i => n.k.ps.length - i.1) (2, 0) ⟨by simp only; omega, by simp only; omega, fun h => absurd (bestF_2 _) h⟩ ?_
    rintro ⟨k, le⟩ ⟨g1, g2, g3⟩
    simp only at g1 g2 g3 ⊢
    have gb := bestF_bd n.x k
    refine sx ?_
    refine s_rw (t := 44) (v' := .pointer (some ((⟨b7, 0, none⟩ : Addr).add 0))) rfl rfl ?_
    refine sx ?_
    refine s_if rfl (fun t4 => ?_) (fun t4 => ?_)
    · refine sx ?_
      refine s_callV rfl (phalves_s (n := n) (k := k) (by exact rnd) (by omega) (by omega) (by omega)) ?_
      refine sx ?_
      refine s_alloc fun b12 => ?_
      refine sx ?_
      refine s_alloc fun b13 => ?_
      refine sx ?_
      have rA := hA k (by omega) (by omega)
      have rB := hB k (by omega) (by omega)
      have sA := (hs.hA k).b
      have sB := (hs.hB k).b
      refine sx ?_; refine s_dr (.one true 0 (.one true 2 (.one false 1 (.one false 3 (.one true 4 (.one true 5 .nil)))))) mixed (by kernel_rfl) ?_; refine sx ?_
      refine s_callV rfl (pbytes_s (n := n.hA k) (by exact rnd) (by omega)) ?_
      refine sx ?_
      refine s_callV rfl (pbytes_s (n := n.hB k) (by exact rnd) (by omega)) ?_
      refine sx ?_
      have eL : max ((bytesK (n.hA k).k.d + bytesM (n.hA k).md : Nat) : Int) ((bytesK (n.hB k).k.d + bytesM (n.hB k).md : Nat) : Int) = (longN n.x k : Nat) := by
        rw [longN, ← Nd.xA, ← Nd.xB]
        show _ = ((max (bytesK (n.hA k).k.d + bytesM (n.hA k).md) (bytesK (n.hB k).k.d + bytesM (n.hB k).md) : Nat) : Int)
        omega
      refine s_rw (t := 14) (v' := .int .i64 (longN n.x k : Nat)) rfl (by rw [eL]) ?_
      refine s_lif rfl (fun t5 => ?_) (fun t5 => ?_)
      · have eb : bestF n.x (k + 1) = k := by rw [bestF, if_neg (by omega), if_pos (.inl (by omega))]
        refine sx ?_
        refine s_rwQ (t := 9) (v' := .int .i64 (bestF n.x (k + 1) : Nat)) rfl (by rw [eb]) ?_
        exact s_again (k + 1, (longN n.x k : Nat)) ⟨by simp only; omega, by simp only; omega, fun _ => by simp only; rw [eb]⟩ (by simp only; omega)
      refine sx ?_
      have g3 := g3 (by omega)
      refine s_if rfl (fun t6 => ?_) (fun t6 => ?_)
      · have eb : bestF n.x (k + 1) = k := by rw [bestF, if_neg (by omega), if_pos (.inr (by omega))]
        refine sx ?_
        refine s_rwQ (t := 9) (v' := .int .i64 (bestF n.x (k + 1) : Nat)) rfl (by rw [eb]) ?_
        exact s_again (k + 1, (longN n.x k : Nat)) ⟨by simp only; omega, by simp only; omega, fun _ => by simp only; rw [eb]⟩ (by simp only; omega)
      · have eb : bestF n.x (k + 1) = bestF n.x k := by rw [bestF, if_neg (by omega), if_neg (by omega)]
        refine sx ?_
        refine s_rwQ (t := 9) (v' := .int .i64 (bestF n.x (k + 1) : Nat)) rfl (by rw [eb]) ?_
        exact s_again (k + 1, le) ⟨by simp only; omega, by simp only; omega, fun _ => by simp only; rw [eb]; exact g3⟩ (by simp only; omega)
    · obtain rfl : k = n.k.ps.length - 1 := by omega
      refine sx ?_
      exact s_mid _ rfl
  rintro b hb
  have gb := bestF_bd n.x (n.k.ps.length - 1)
  rw [← hb] at gb
  have hb' : bestF n.x (n.x.1.1.length - 1) = b := hb.symm
  rw [hb']
  have hb2 : 2 ≤ b ∧ b < n.k.ps.length - 1 := by omega
  refine sx ?_
  refine s_callV rfl (phalves_s (n := n) (k := b) (by exact rnd) (by omega) (by omega) (by omega)) ?_
  refine sx ?_
  refine s_alloc fun b15 => ?_
  refine sx ?_
  refine s_alloc fun b16 => ?_
  refine sx ?_
  refine s_rw (t := 81) (v' := .agg (n.hA b).cells.toArray) rfl rfl ?_
  have rA := hA b (by omega) (by omega)
  have rB := hB b (by omega) (by omega)
  have mA := (hs.hA b).m
  have mB := (hs.hB b).m
  refine s_callV rfl (ncheck_s (n := n.hA b) (size := size) (by exact rnd) (fun p hp => hI p (List.mem_of_mem_take hp)) (by omega)) ?_
  have eA : chkN size (n.hA b).k.d (n.hA b).md = chkX size (hfA n.x b) := by rw [← Nd.xA]; rfl
  have eB : chkN size (n.hB b).k.d (n.hB b).md = chkX size (hfB n.x b) := by rw [← Nd.xB]; rfl
  rw [eA]
  refine sx ?_
  refine s_lifn rfl (fun t5 => ?_) (fun t5 => ?_)
  · rw [if_pos (.inl t5)]
    refine sx ?_
    exact s_ret2 rfl rfl rfl ⟨rfl, rfl⟩
  refine sx ?_
  refine s_rw (t := 90) (v' := .agg (n.hB b).cells.toArray) rfl rfl ?_
  refine s_callV rfl (ncheck_s (n := n.hB b) (size := size) (by exact rnd) (fun p hp => hI p (List.mem_of_mem_drop hp)) (by omega)) ?_
  rw [eB]
  refine sx ?_
  refine s_ifn rfl (fun t6 => ?_) (fun t6 => ?_)
  · rw [if_pos (.inr t6)]
    refine sx ?_
    exact s_ret2 rfl rfl rfl ⟨rfl, rfl⟩
  rw [if_neg (fun h => h.elim (fun h => h t5) (fun h => h t6))]
  refine sx ?_
  exact s_ret2 rfl rfl rfl ⟨rfl, rfl⟩
end Go.Sx
