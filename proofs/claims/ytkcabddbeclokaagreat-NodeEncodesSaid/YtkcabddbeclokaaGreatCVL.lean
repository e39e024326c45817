/- Part of a proof: how much a node has; a number that picks. The law NodeBack. -/
import Derived.Test.YtkcabddbeclokaaGreatCVJ
namespace Go.Sx
open Go Go.Proofs
set_option maxRecDepth 10000
variable {w0 : World} {H : List Ck}
def pkL (c n : Int) : Int := (if c < 0 then -(c + 1) else c) % n
theorem pkL_bd {c n : Int} (hn : 0 < n) : 0 ≤ pkL c n ∧ pkL c n < n := ⟨Int.emod_nonneg _ (by omega), Int.emod_lt_of_pos _ hn⟩
def wK (ks : List Bs) : Nat := (ks.map fun k => 1 + k.length).sum
def wM (ms : List MD) : Nat := (ms.map fun m => 1 + m.lo.length + m.hi.length + m.v.length).sum
theorem wK_snoc (ks : List Bs) (k : Bs) : wK (ks ++ [k]) = wK ks + (1 + k.length) := by simp [wK]
theorem wM_snoc (ms : List MD) (m : MD) : wM (ms ++ [m]) = wM ms + (1 + m.lo.length + m.hi.length + m.v.length) := by simp [wM]
theorem wK_le (ks : List Bs) : keysB ks ≤ 2 * wK ks := by
  induction ks with
  | nil => simp [keysB, wK]
  | cons k ks ih => simp only [keysB, wK, List.map_cons, List.sum_cons] at *; omega
theorem wM_le (ms : List MD) : sumM ms ≤ 13 * wM ms := by
  induction ms with
  | nil => simp [sumM, wM]
  | cons k ks ih => simp only [sumM, wM, List.map_cons, List.sum_cons, lenM] at *; omega
/-- A node that is not too large. -/
structure Nd.Small (n : Nd) : Prop where
  p : n.k.ps.length ≤ 2147483647
  k : keysB n.k.keys ≤ 4294967294
  m : sumM n.md ≤ 27917287411
/-- Lengths in a row's reach. -/
structure Nd.Fit (n : Nd) : Prop where
  kl : ∀ p ∈ n.k.ks, p.xs.length ≤ 140737488355328
  ml : ∀ m ∈ n.ms, m.lo.length ≤ 140737488355328 ∧ m.hi.length ≤ 140737488355328 ∧ m.v.length ≤ 140737488355328
theorem nweight_s {n : Nd} (hn : RNd w0 H n) (hf : n.Fit) : FnS Tryz.prog w0 H 5 #[.agg n.cells.toArray] (fun v H' => ∃ x : Int, v = .int .i64 x ∧ (0 ≤ x ∧ x ≤ 1152921504606846976) ∧ (x ≤ 2147483647 → x = n.k.ps.length + wK n.k.keys + wM n.md) ∧ H' = H) := by
  refine fns_enter Tryz.func5 rfl rfl rfl ?_
  have hk := hn.k
  have hps := hk.ps
  have hks := hk.ks
  have hms := hn.ms.sl
  refine s_kn (Kn.sl hps) fun l1 => s_kn (Kn.sl hks) fun l2 => s_kn (Kn.sl hms) fun l3 => ?_
  simp only [maxLen] at l1 l2 l3
  refine sx ?_
  refine s_boxA rfl fun b1 => ?_
  refine sx ?_
  refine s_rw (t := 7) (v' := .pointer (some ((⟨b1, 0, none⟩ : Addr).add 0))) rfl rfl ?_
  refine sx ?_
  obtain ⟨x0, hx0⟩ : ∃ x0 : Int, x0 = ((min n.k.ps.length 2147483648 : Nat) : Int) := ⟨_, rfl⟩
  refine s_rwC (t := 3) (v' := .int .i64 x0) rfl (by rw [hx0]) ?_
  refine s_cutB (ι := Int) (fun x => [(1, .pointer (some ⟨b1, 0, none⟩)), (3, .int .i64 x)]) (fun _ => .hb b1 28 n.cells :: H) (fun x => (0 ≤ x ∧ x ≤ 281474976710656) ∧ (x ≤ 2147483647 → x = n.k.ps.length + wK n.k.keys)) ?_ ?_
  · refine s_loop (fun i : Nat × Int => [(1, .pointer (some ⟨b1, 0, none⟩)), (3, .int .i64 i.2), (4, .int .i64 i.1)]) (fun _ => .hb b1 28 n.cells :: H) (fun i => i.1 ≤ n.k.ks.length ∧ (0 ≤ i.2 ∧ i.2 ≤ 281474976710656) ∧ (i.2 ≤ 2147483647 → i.2 = n.k.ps.length + wK (n.k.keys.take i.1))) (fun i => n.k.ks.length - i.1) (0, x0) ⟨Nat.zero_le _, by simp only; omega, by simp only [List.take_zero]; intro h; rw [show wK [] = 0 from rfl]; omega⟩ ?_
    rintro ⟨i, x⟩ ⟨h1, h2, h3⟩
    simp only at h1 h2 h3 ⊢
    refine sx ?_
    refine s_rw (t := 13) (v' := .pointer (some ((⟨b1, 0, none⟩ : Addr).add 1))) rfl rfl ?_
    refine sx ?_
    refine s_lif rfl (fun t1 => ?_) (fun t1 => ?_)
    · obtain ⟨p, hp⟩ := get_lt n.k.ks i (by omega)
      have hkp := Kd.kget hp
      have hpl := hk.el _ (List.mem_of_getElem? hp)
      have l4 := hf.kl _ (List.mem_of_getElem? hp)
      refine sx ?_
      refine s_if rfl (fun t2 => ?_) (fun t2 => ?_)
      · refine sx ?_
        refine s_rw (t := 26) (v' := .pointer (some ((⟨b1, 0, none⟩ : Addr).add 1))) rfl rfl ?_
        refine sx ?_
        refine s_again (i + 1, x + 1 + p.xs.length) ⟨by simp only; omega, by simp only; omega, fun _ => ?_⟩ (by simp only; omega)
        have := h3 t2
        simp only
        rw [snocT hkp, wK_snoc]
        omega
      · refine sx ?_
        exact s_mid x ⟨h2, fun h => absurd h t2⟩
    · obtain rfl : i = n.k.ks.length := by omega
      rw [List.take_of_length_le (by simp)] at h3
      refine sx ?_
      exact s_mid x ⟨h2, h3⟩
  rintro x ⟨h4, h5⟩
  refine sx ?_
  refine s_cutB (ι := Int) (fun y => [(3, .int .i64 y)]) (fun _ => H) (fun y => (0 ≤ y ∧ y ≤ 1152921504606846976) ∧ (y ≤ 2147483647 → y = n.k.ps.length + wK n.k.keys + wM n.md)) ?_ ?_
  · refine s_loop (fun i : Nat × Int => [(1, .pointer (some ⟨b1, 0, none⟩)), (3, .int .i64 i.2), (5, .int .i64 i.1)]) (fun _ => .hb b1 28 n.cells :: H) (fun i => i.1 ≤ n.ms.length ∧ (0 ≤ i.2 ∧ i.2 ≤ 1152921504606846976) ∧ (i.2 ≤ 2147483647 → i.2 = n.k.ps.length + wK n.k.keys + wM (n.md.take i.1))) (fun i => n.ms.length - i.1) (0, x) ⟨Nat.zero_le _, by simp only; omega, by simp only [List.take_zero]; intro h; rw [show wM [] = 0 from rfl, h5 h]; omega⟩ ?_
    rintro ⟨i, y⟩ ⟨h1, h2, h3⟩
    simp only at h1 h2 h3 ⊢
    refine sx ?_
    refine s_lif rfl (fun t1 => ?_) (fun t1 => ?_)
    · obtain ⟨m, hm⟩ := get_lt n.ms i (by omega)
      have hmd := get_map (f := Mg.d) hm
      have hrm := hn.ms.el m (List.mem_of_getElem? hm)
      have b1' := hrm.lo
      have b2' := hrm.hi
      have b3' := hrm.v
      obtain ⟨l4, l5, l6⟩ := hf.ml _ (List.mem_of_getElem? hm)
      refine sx ?_
      refine s_if rfl (fun t2 => ?_) (fun t2 => ?_)
      · refine sx ?_; refine s_dr (.one true 0 (.one true 1 (.one true 2 (.one true 3 (.one true 4 (.one true 5 (.one true 6 (.one true 7 (.one true 8 (.one true 9 (.one true 10 (.one true 11 (.one true 12 (.one true 13 (.one true 14 (.one true 15 (.one true 16 (.one true 17 (.one true 18 (.one true 19 (.one true 20 (.one true 21 (.one true 22 (.one true 23 (.one true 24 (.one true 25 (.one true 26 .nil))))))))))))))))))))))))))) mixed (by kernel_rfl) ?_; refine sx ?_
        refine s_again (i + 1, y + 1 + m.lo.length + m.hi.length + m.v.length) ⟨by simp only; omega, by simp only; omega, fun _ => ?_⟩ (by simp only; omega)
        have := h3 t2
        simp only
        rw [snocT hmd, wM_snoc]
        have e1 : m.d.lo.length = m.lo.length := rfl
        have e2 : m.d.hi.length = m.hi.length := rfl
        have e3 : m.d.v.length = m.v.length := rfl
        have e4 : wM (List.take i (List.map Mg.d n.ms)) = wM (List.take i n.md) := rfl
        omega
      · refine sx ?_
        exact s_mid y ⟨h2, fun h => absurd h t2⟩ (he := Ent.tl Ent.refl)
    · obtain rfl : i = n.ms.length := by omega
      rw [List.take_of_length_le (by simp)] at h3
      refine sx ?_
      exact s_mid y ⟨h2, h3⟩ (he := Ent.tl Ent.refl)
  rintro y ⟨h6, h7⟩
  refine sx ?_
  exact s_ret1 rfl rfl ⟨y, rfl, h6, h7, rfl⟩
theorem Nd.small_of {n : Nd} {x : Int} (h : x ≤ 2147483647) (he : x ≤ 2147483647 → x = n.k.ps.length + wK n.k.keys + wM n.md) : n.Small := by
  have h0 := he h
  have h1 := wK_le n.k.keys
  have h2 := wM_le n.md
  exact ⟨by omega, by omega, by omega⟩
end Go.Sx
