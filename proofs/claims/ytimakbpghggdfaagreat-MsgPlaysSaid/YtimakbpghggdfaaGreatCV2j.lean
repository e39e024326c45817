/- Part of a proof: several parts of a walk, one behind the other. -/
import Derived.Test.YtimakbpghggdfaaGreatCV0j
import Derived.Test.YtimakbpghggdfaaGreatCKB
import Derived.Test.YtimakbpghggdfaaGreatCO2j
namespace Go.Sx
open Go Go.Proofs
set_option maxRecDepth 10000
variable {w0 : World} {H : List Ck}
structure Mg where
  st : Int
  kd : Int
  la : Option Addr
  lc : Nat
  lo : Bs
  ha : Option Addr
  hc : Nat
  hi : Bs
  va : Option Addr
  vc : Nat
  v : Bs
def Mg.cells (m : Mg) : List Value := [.int .u64 m.st, .int .i64 m.kd, .slice m.la m.lo.length m.lc, .slice m.ha m.hi.length m.hc, .slice m.va m.v.length m.vc]
abbrev Mg.d (m : Mg) : MD := ⟨m.st, m.kd, m.lo, m.hi, m.v⟩
instance : Cel Mg := ⟨5, Mg.cells, fun _ => rfl, fun _ => rfl, by decide⟩
instance : ElT Tryz.prog 35 Mg := ⟨trivial⟩
/-- Its bytes can be read. -/
structure RMg (w0 : World) (H : List Ck) (m : Mg) : Prop where
  lo : RBy w0 H m.la m.lc m.lo
  hi : RBy w0 H m.ha m.hc m.hi
  v : RBy w0 H m.va m.vc m.v
theorem RMg.tl {m : Mg} {d : Ck} (h : RMg w0 H m) : RMg w0 (d :: H) m := ⟨h.lo.tl, h.hi.tl, h.v.tl⟩
theorem RMg.ent {m : Mg} {H' : List Ck} (h : RMg w0 H' m) (e : Ent H H') : RMg w0 H m := ⟨h.lo.ent e, h.hi.ent e, h.v.ent e⟩
/-- A message's bytes of one's own. -/
@[reducible] def oM (m : Mg) : List Ck := [ob m.la m.lc m.lo, ob m.ha m.hc m.hi, ob m.va m.vc m.v]
theorem RMg.oM {m : Mg} : RMg w0 (oM m ++ H) m := ⟨RBy.hd, RBy.hd.tl, RBy.hd.tl.tl⟩
theorem rmg {m : Mg} (h : RMg w0 H m := by (repeat (first | assumption | apply RMg.tl)); first | done | fail) : RMg w0 H m := h
/-- Messages whose bytes can be read. -/
structure RMs (w0 : World) (H : List Ck) (a : Option Addr) (c : Nat) (ms : List Mg) : Prop where
  sl : RSl w0 H a c ms
  el : ∀ m ∈ ms, RMg w0 H m
theorem RMs.tl {a : Option Addr} {c : Nat} {ms : List Mg} {d : Ck} (h : RMs w0 H a c ms) : RMs w0 (d :: H) a c ms := ⟨h.sl.tl, fun m hm => (h.el m hm).tl⟩
theorem RMs.ent {a : Option Addr} {c : Nat} {ms : List Mg} {H' : List Ck} (h : RMs w0 H' a c ms) (e : Ent H H') : RMs w0 H a c ms := ⟨h.sl.ent e, fun m hm => (h.el m hm).ent e⟩
theorem index_s {a : Option Addr} {c : Nat} {xs : List Int} {n : Int} (hx : RSl w0 H a c xs) : FnS Tryz.prog w0 H 134 #[.slice a xs.length c, .int .i64 n] (fun v H' => ∃ k : Int, v = .int .i64 k ∧ (0 ≤ k ↔ n ∈ xs) ∧ H' = H) := by
  refine fns_enter Tryz.func134 rfl rfl rfl ?_
  refine s_kn (Kn.sl hx) fun l1 => ?_
  simp only [maxLen] at l1
  refine sx ?_
  refine s_loop (fun i : Nat => [(0, .slice a xs.length c), (1, .int .i64 n), (6, .slice a xs.length c), (7, .int .i64 xs.length), (8, .int .i64 i)]) (fun _ => H) (fun i => i ≤ xs.length ∧ n ∉ xs.take i) (fun i => xs.length - i) 0 ⟨Nat.zero_le _, by simp⟩ ?_
  rintro i ⟨hi, hn⟩
  refine sx ?_
  refine s_if rfl (fun t1 => ?_) (fun t1 => ?_)
  · obtain ⟨x, hxi⟩ := get_lt xs i (by omega)
    refine sx ?_
    refine s_if rfl (fun t2 => ?_) (fun t2 => ?_)
    · refine sx ?_
      refine s_ret1 rfl rfl ⟨_, rfl, ⟨fun _ => by rw [t2]; exact List.mem_of_getElem? hxi, fun _ => by omega⟩, rfl⟩
    · refine sx ?_
      refine s_again (i + 1) ⟨by omega, ?_⟩ (by omega)
      rw [snocT hxi, List.mem_append]
      rintro (h | h)
      · exact hn h
      · exact t2 (List.mem_singleton.1 h)
  · obtain rfl : i = xs.length := by omega
    rw [List.take_length] at hn
    refine sx ?_
    refine s_ret1 rfl rfl ⟨_, rfl, ⟨fun h => absurd h (by decide), fun h => absurd h hn⟩, rfl⟩
theorem contains_s {a : Option Addr} {c : Nat} {xs : List Int} {n : Int} (hx : RSl w0 H a c xs) : FnV Tryz.prog w0 H 102 #[.slice a xs.length c, .int .i64 n] (.bool (decide (n ∈ xs))) := by
  refine fns_enter Tryz.func102 rfl rfl rfl ?_
  refine sx ?_
  refine s_call rfl (index_s (xs := xs) (n := n) hx) ?_
  rintro _ _ ⟨k, rfl, hk, rfl⟩
  refine ⟨chk_seq, ?_⟩
  refine sx ?_
  refine s_ret1 rfl rfl ⟨?_, rfl⟩
  rw [decide_eq_decide.2 hk.symm]
theorem msized_s {size : Int} : FnV Tryz.prog w0 H 73 #[.int .i64 size] (.bool (sizedB size)) := by
  refine fns_enter Tryz.func73 rfl rfl rfl ?_
  refine sx ?_
  refine s_bsl ([512, 1024, 2048, 4096] : List Int) rfl rfl fun b => ?_
  refine sx ?_
  refine s_callV rfl (contains_s (xs := [512, 1024, 2048, 4096]) (by exact rsl)) ?_
  refine sx ?_
  refine s_ret1 rfl rfl ⟨?_, rfl⟩
  congr 1
  unfold sizedB
  simp only [List.mem_cons, List.not_mem_nil, or_false, Bool.decide_or, Bool.or_assoc]
theorem may1_s {size : Int} {b c : Nat} {a : Option Addr} {xs : Bs} (hs : sizedB size = true) (hb : Rc w0 H ⟨b, 0, none⟩ (.int .i64 size)) (hx : RBy w0 H a c xs) : FnV Tryz.prog w0 H 103 #[.slice a xs.length c, .pointer (some ⟨b, 0, none⟩)] (.bool (keyB size xs)) := by
  have h1 := sizedB_bd hs
  refine fns_enter Tryz.func103 rfl rfl rfl ?_
  refine sx ?_
  unfold keyB
  refine s_lif rfl (fun t1 => ?_) (fun t1 => ?_)
  · refine sx ?_
    refine s_yS rfl rfl rfl (y_ld rfl hb) ?_
    refine sx ?_
    refine s_ret1 rfl rfl ⟨?_, rfl⟩
    rw [decide_eq_true (show 1 ≤ xs.length by omega), Bool.true_and]
  · refine sx ?_
    refine s_ret1 rfl rfl ⟨?_, rfl⟩
    rw [decide_eq_false (show ¬ 1 ≤ xs.length by omega), Bool.false_and]
set_option maxHeartbeats 1000000 in
theorem mmay_s {size : Int} {m : Mg} (hs : sizedB size = true) (hm : RMg w0 H m) : FnV Tryz.prog w0 H 76 #[.int .i64 size, .agg m.cells.toArray] (.bool (mayM size m.d)) := by
  have hlo := hm.lo
  have hhi := hm.hi
  have hv := hm.v
  have hsz := sizedB_bd hs
  refine fns_enter Tryz.func76 rfl rfl rfl ?_
  refine sx ?_
  refine s_box1 rfl rfl fun b2 => ?_
  refine sx ?_
  refine s_boxA rfl fun b3 => ?_
  refine sx ?_
  have hb : Rc w0 (.hb b3 35 m.cells :: .hb b2 3 [.int .i64 size] :: H) ⟨b2, 0, none⟩ (.int .i64 size) := (Rc.hb0 rfl).tl
  refine s_if rfl (fun t1 => ?_) (fun t1 => ?_)
  · refine sx ?_
    refine s_callFV (cap := [.pointer (some ⟨b2, 0, none⟩)]) rfl rfl (may1_s hs hb (xs := m.lo) (by exact rby)) ?_
    have e : mayM size m.d = (keyB size m.lo && decide (m.hi.length = 0) && decide ((m.v.length : Int) ≤ size / 4)) := by
      unfold mayM
      simp only [t1]
      rfl
    rw [e]
    cases keyB size m.lo
    · refine sx ?_
      exact s_ret1 rfl rfl ⟨rfl, rfl⟩
    refine sx ?_
    refine s_lif rfl (fun t2 => ?_) (fun t2 => ?_)
    · refine sx ?_
      refine s_ret1 rfl rfl ⟨?_, rfl⟩
      rw [decide_eq_true (show m.hi.length = 0 by omega)]
      refine congrArg _ ?_
      first | exact decide_eq_decide.2 (by omega) | (rw [Bool.true_and, Bool.true_and]; exact decide_eq_decide.2 (by omega)) | (simp only [Bool.true_and]; exact decide_eq_decide.2 (by omega)) | simp only [Bool.true_and]
    · refine sx ?_
      refine s_ret1 rfl rfl ⟨?_, rfl⟩
      rw [decide_eq_false (show ¬ m.hi.length = 0 by omega)]
      rfl
  refine sx ?_
  refine s_if rfl (fun t1 => ?_) (fun t1 => ?_)
  · refine sx ?_
    refine s_callFV (cap := [.pointer (some ⟨b2, 0, none⟩)]) rfl rfl (may1_s hs hb (xs := m.lo) (by exact rby)) ?_
    have e : mayM size m.d = (keyB size m.lo && decide (m.hi.length = 0) && decide (m.v.length = 0)) := by
      unfold mayM
      simp only [t1]
      rfl
    rw [e]
    cases keyB size m.lo
    · refine sx ?_
      exact s_ret1 rfl rfl ⟨rfl, rfl⟩
    refine sx ?_
    refine s_lif rfl (fun t2 => ?_) (fun t2 => ?_)
    · refine sx ?_
      refine s_ret1 rfl rfl ⟨?_, rfl⟩
      rw [decide_eq_true (show m.hi.length = 0 by omega)]
      refine congrArg _ ?_
      first | exact decide_eq_decide.2 (by omega) | (rw [Bool.true_and, Bool.true_and]; exact decide_eq_decide.2 (by omega)) | (simp only [Bool.true_and]; exact decide_eq_decide.2 (by omega)) | simp only [Bool.true_and]
    · refine sx ?_
      refine s_ret1 rfl rfl ⟨?_, rfl⟩
      rw [decide_eq_false (show ¬ m.hi.length = 0 by omega)]
      rfl
  refine sx ?_
  refine s_if rfl (fun t1 => ?_) (fun t1 => ?_)
  · refine sx ?_
    refine s_callFV (cap := [.pointer (some ⟨b2, 0, none⟩)]) rfl rfl (may1_s hs hb (xs := m.lo) (by exact rby)) ?_
    have e : mayM size m.d = (keyB size m.lo && keyB size m.hi && decide (cmp m.lo m.hi < 0) && decide (m.v.length = 0)) := by
      unfold mayM
      simp only [t1]
      rfl
    rw [e]
    cases keyB size m.lo
    · refine sx ?_
      exact s_ret1 rfl rfl ⟨rfl, rfl⟩
    refine sx ?_
    refine s_callFV (cap := [.pointer (some ⟨b2, 0, none⟩)]) rfl rfl (may1_s hs hb (xs := m.hi) (by exact rby)) ?_
    cases keyB size m.hi
    · refine sx ?_
      exact s_ret1 rfl rfl ⟨rfl, rfl⟩
    refine sx ?_
    refine s_callV rfl (compare_s (xs := m.lo) (ys := m.hi) (by exact rby) (by exact rby)) ?_
    refine sx ?_
    refine s_lif rfl (fun t2 => ?_) (fun t2 => ?_)
    · refine sx ?_
      refine s_ret1 rfl rfl ⟨?_, rfl⟩
      rw [decide_eq_true t2]
      refine congrArg _ ?_
      first | exact decide_eq_decide.2 (by omega) | (rw [Bool.true_and, Bool.true_and]; exact decide_eq_decide.2 (by omega)) | (simp only [Bool.true_and]; exact decide_eq_decide.2 (by omega)) | simp only [Bool.true_and]
    · refine sx ?_
      refine s_ret1 rfl rfl ⟨?_, rfl⟩
      rw [decide_eq_false t2]
      rfl
  refine sx ?_
  refine s_ret1 rfl rfl ⟨?_, rfl⟩
  unfold mayM
  simp_all
end Go.Sx
namespace Go.Sx
open Go Go.Proofs
set_option maxRecDepth 10000
variable {w0 : World} {H : List Ck}
theorem qcmp0_s {a a' : Option Addr} {c c' : Nat} {xs ys : Bs} (ha : RBy w0 H a c xs) (hb : RBy w0 H a' c' ys) : FnV Tryz.prog w0 H 120 #[.slice a xs.length c, .slice a' ys.length c'] (.int .i64 (cmp xs ys)) := by
  refine fns_enter Tryz.func120 rfl rfl rfl ?_
  refine s_kn (Kn.by ha) fun l1 => s_kn (Kn.by hb) fun l2 => ?_
  simp only [maxLen] at l1 l2
  have hc := cmp_common xs ys
  refine sx ?_
  refine s_loop (fun k : Nat => [(0, .slice a xs.length c), (1, .slice a' ys.length c'), (5, .int .i64 ((min xs.length ys.length : Nat) : Int)), (6, .int .i64 k)]) (fun _ => H) (fun k => k ≤ xs.length ∧ k ≤ ys.length ∧ ∀ i, i < k → xs.getD i 0 = ys.getD i 0) (fun k => xs.length - k) 0 ⟨Nat.zero_le _, Nat.zero_le _, fun i hi => absurd hi (Nat.not_lt_zero _)⟩ ?_
  rintro k ⟨h1, h2, h3⟩
  refine sx ?_
  refine s_if rfl (fun t1 => ?_) (fun t1 => ?_)
  · refine sx ?_; refine s_dr (.one true 0 (.one true 1 (.one true 2 (.one true 3 (.one true 4 (.one true 5 (.one true 6 (.one true 7 (.one true 8 .nil))))))))) mixed (by kernel_rfl) ?_; refine sx ?_
    refine s_if rfl (fun t2 => ?_) (fun t2 => ?_)
    · have hne : xs.getD k 0 ≠ ys.getD k 0 := fun e => by rw [e] at t2; exact absurd t2 (by simp)
      have hk := common_eq xs ys k (by omega) (by omega) h3 (.inr (.inr hne))
      refine sx ?_
      refine s_ret1 rfl rfl ⟨?_, rfl⟩
      rw [hc, hk, if_neg (by omega), if_neg (by omega), if_neg]
      rintro (h | h)
      · omega
      · exact absurd (UInt8.lt_asymm h) (by simpa [UInt8.lt_iff_toNat_lt] using t2)
    refine sx ?_; refine s_dr (.one true 0 (.one true 1 (.one true 2 (.one true 3 (.one true 4 (.one true 5 (.one true 6 (.one true 7 (.one true 8 .nil))))))))) mixed (by kernel_rfl) ?_; refine sx ?_
    refine s_if rfl (fun t3 => ?_) (fun t3 => ?_)
    · have hne : xs.getD k 0 ≠ ys.getD k 0 := fun e => by rw [e] at t3; exact absurd t3 (by simp)
      have hk := common_eq xs ys k (by omega) (by omega) h3 (.inr (.inr hne))
      refine sx ?_
      refine s_ret1 rfl rfl ⟨?_, rfl⟩
      rw [hc, hk, if_neg (by omega), if_neg (by omega), if_pos (.inr (by simpa [UInt8.lt_iff_toNat_lt] using t3))]
    · have he : xs.getD k 0 = ys.getD k 0 := by
        apply UInt8.toNat_inj.1
        simp only [UInt8.lt_iff_toNat_lt] at t2 t3
        omega
      refine sx ?_
      refine s_again (k + 1) ⟨by omega, by omega, fun i hi => ?_⟩ (by omega)
      rcases Nat.lt_or_eq_of_le (Nat.lt_succ_iff.1 hi) with h | rfl
      · exact h3 i h
      · exact he
  have hk := common_eq xs ys k (by omega) (by omega) h3 (by omega)
  refine sx ?_
  refine s_if rfl (fun t2 => ?_) (fun t2 => ?_)
  · refine sx ?_
    refine s_ret1 rfl rfl ⟨?_, rfl⟩
    rw [hc, hk, if_neg (by omega), if_pos (by omega)]
  refine sx ?_
  refine s_if rfl (fun t3 => ?_) (fun t3 => ?_)
  · refine sx ?_
    refine s_ret1 rfl rfl ⟨?_, rfl⟩
    rw [hc, hk, if_neg (by omega), if_neg (by omega), if_pos (.inl (by omega))]
  · refine sx ?_
    refine s_ret1 rfl rfl ⟨?_, rfl⟩
    rw [hc, hk, if_pos (by omega)]
theorem qless0_s {a a' : Option Addr} {c c' : Nat} {xs ys : Bs} (ha : RBy w0 H a c xs) (hb : RBy w0 H a' c' ys) : FnV Tryz.prog w0 H 121 #[.slice a xs.length c, .slice a' ys.length c'] (.bool (decide (cmp xs ys < 0))) := by
  refine fns_enter Tryz.func121 rfl rfl rfl ?_
  refine sx ?_
  refine s_callV rfl (qcmp0_s ha hb) ?_
  refine sx ?_
  exact s_ret1 rfl rfl ⟨rfl, rfl⟩
theorem qcopy0_s {a : Option Addr} {c : Nat} {xs : Bs} (ha : RBy w0 H a c xs) (hx : xs.length ≤ 140737488355328) : FnS Tryz.prog w0 H 123 #[.slice a xs.length c] (fun v H' => ∃ a' , v = .slice a' xs.length xs.length ∧ H' = ob a' xs.length xs :: H) := by
  refine fns_enter Tryz.func123 rfl rfl rfl ?_
  refine sx ?_
  refine s_make rfl rfl (by omega) fun b => ?_
  refine sx ?_
  refine s_copy rfl rfl ?_ (ys := xs) (hk0 := by simp)
  have e : xs.take (List.replicate xs.length (0 : UInt8)).length ++ (List.replicate xs.length (0 : UInt8)).drop xs.length = xs := by simp
  rw [e]
  refine sx ?_
  exact s_ret1 rfl rfl ⟨_, rfl, rfl⟩
end Go.Sx
namespace Go.Sx
open Go Go.Proofs
set_option maxRecDepth 10000
variable {w0 : World} {H : List Ck}
set_option maxHeartbeats 1000000 in
theorem mcheck_s {size : Int} {a : Option Addr} {c : Nat} {ms : List Mg} (hx : RMs w0 H a c ms) : FnV Tryz.prog w0 H 33 #[.int .i64 size, .slice a ms.length c] (.int .i64 (chkM size (ms.map Mg.d))) := by
  have hsl := hx.sl
  refine fns_enter Tryz.func33 rfl rfl rfl ?_
  refine s_kn (Kn.sl hsl) fun l1 => ?_
  simp only [maxLen] at l1
  refine sx ?_
  refine s_callV rfl msized_s ?_
  unfold chkM
  cases hs : sizedB size
  · refine sx ?_
    exact s_ret1 rfl rfl ⟨rfl, rfl⟩
  rw [if_pos rfl]
  refine sx ?_
  refine s_loop (fun i : Nat × Int => [(0, .int .i64 size), (5, .int .u64 i.2), (11, .slice a ms.length c), (12, .int .i64 ms.length), (13, .int .i64 i.1)]) (fun _ => H) (fun i => i.1 ≤ ms.length ∧ chkG size 0 (ms.map Mg.d) = chkG size i.2 ((ms.map Mg.d).drop i.1)) (fun i => ms.length - i.1) (0, 0) ⟨Nat.zero_le _, by simp⟩ ?_
  rintro ⟨i, last⟩ ⟨hi, he⟩
  simp only at hi he ⊢
  refine sx ?_
  refine s_if rfl (fun t1 => ?_) (fun t1 => ?_)
  · obtain ⟨m, hm⟩ := get_lt ms i (by omega)
    have hst := chkG_step (size := size) (last := last) (get_map (f := Mg.d) hm)
    rw [he, hst]
    refine sx ?_
    refine s_alloc fun b7 => ?_
    refine sx ?_
    refine s_callV rfl (mmay_s (m := m) hs (by repeat (first | exact hx.el m (List.mem_of_getElem? hm) | apply RMg.tl))) ?_
    cases hmay : mayM size m.d
    · rw [if_pos rfl]
      refine sx ?_
      exact s_ret1 rfl rfl ⟨rfl, rfl⟩
    rw [if_neg (by decide)]
    refine sx ?_
    refine s_lif rfl (fun t2 => ?_) (fun t2 => ?_)
    · rw [if_pos (.inl t2)]
      refine sx ?_
      exact s_ret1 rfl rfl ⟨rfl, rfl⟩
    · refine sx ?_
      refine s_if rfl (fun t3 => ?_) (fun t3 => ?_)
      · rw [if_pos (.inr t3)]
        refine sx ?_
        exact s_ret1 rfl rfl ⟨rfl, rfl⟩
      · rw [if_neg (fun h => h.elim t2 t3)]
        refine sx ?_
        exact s_again (i + 1, m.st) ⟨by simp only; omega, rfl⟩ (by simp only; omega)
  · obtain rfl : i = ms.length := by omega
    rw [List.drop_of_length_le (by simp)] at he
    rw [he]
    refine sx ?_
    exact s_ret1 rfl rfl ⟨rfl, rfl⟩
theorem mbytes_s {a : Option Addr} {c : Nat} {ms : List Mg} (hx : RSl w0 H a c ms) (hb : sumM (ms.map Mg.d) ≤ 4611686018427387904) : FnV Tryz.prog w0 H 20 #[.slice a ms.length c] (.int .i64 (bytesM (ms.map Mg.d) : Nat)) := by
  refine fns_enter Tryz.func20 rfl rfl rfl ?_
  refine s_kn (Kn.sl hx) fun l1 => ?_
  simp only [maxLen] at l1
  refine sx ?_
  refine s_loop (fun i : Nat => [(3, .int .i64 (bytesM ((ms.map Mg.d).take i) : Nat)), (6, .slice a ms.length c), (7, .int .i64 ms.length), (8, .int .i64 i)]) (fun _ => H) (fun i => i ≤ ms.length) (fun i => ms.length - i) 0 (Nat.zero_le _) ?_
  intro i hi
  refine sx ?_
  refine s_if rfl (fun t1 => ?_) (fun t1 => ?_)
  · obtain ⟨m, hm⟩ := get_lt ms i (by omega)
    have h1 := sumM_get (get_map (f := Mg.d) hm)
    have h2 := sumM_take (ms.map Mg.d) (i + 1)
    have e1 : bytesM ((ms.map Mg.d).take i) = 4 + sumM ((ms.map Mg.d).take i) := rfl
    have e2 : bytesM ((ms.map Mg.d).take (i + 1)) = 4 + sumM ((ms.map Mg.d).take (i + 1)) := rfl
    have e3 : lenM m.d = 13 + m.lo.length + m.hi.length + m.v.length := rfl
    refine sx ?_
    refine s_alloc fun b7 => ?_
    refine sx ?_
    exact s_again (i + 1) (by omega) (by omega)
  · obtain rfl : i = ms.length := by omega
    have e : (ms.map Mg.d).take ms.length = ms.map Mg.d := List.take_of_length_le (by simp)
    rw [e]
    refine sx ?_
    exact s_ret1 rfl rfl ⟨rfl, rfl⟩
theorem rkey_s {a : Option Addr} {c : Nat} {xs : Bs} {n : Int} (hx : RBy w0 H a c xs) : FnV Tryz.prog w0 H 150 #[.slice a xs.length c, .int .i64 n] (.bool (decide (1 ≤ xs.length) && decide ((xs.length : Int) ≤ n))) := by
  refine fns_enter Tryz.func150 rfl rfl rfl ?_
  refine sx ?_
  refine s_lif rfl (fun t1 => ?_) (fun t1 => ?_)
  · refine sx ?_
    refine s_ret1 rfl rfl ⟨?_, rfl⟩
    rw [decide_eq_true (show 1 ≤ xs.length by omega), Bool.true_and]
  · refine sx ?_
    refine s_ret1 rfl rfl ⟨?_, rfl⟩
    rw [decide_eq_false (show ¬ 1 ≤ xs.length by omega), Bool.false_and]
theorem rnone_s {a : Option Addr} {c : Nat} {xs : Bs} : FnV Tryz.prog w0 H 151 #[.slice a xs.length c] (.bool (decide (xs.length = 0))) := by
  refine fns_enter Tryz.func151 rfl rfl rfl ?_
  refine sx ?_
  refine s_ret1 rfl rfl ⟨?_, rfl⟩
  rw [decide_eq_decide.2 (show ((xs.length : Nat) : Int) = 0 ↔ xs.length = 0 by omega)]
set_option maxHeartbeats 1000000 in
theorem rmay_s {size : Int} {m : Mg} (hs : sizedB size = true) (hm : RMg w0 H m) : FnV Tryz.prog w0 H 118 #[.int .i64 size, .agg m.cells.toArray] (.bool (mayM size m.d)) := by
  have hlo := hm.lo
  have hhi := hm.hi
  have hv := hm.v
  have hsz := sizedB_bd hs
  refine fns_enter Tryz.func118 rfl rfl rfl ?_
  refine sx ?_
  refine s_boxA rfl fun b3 => ?_
  refine sx ?_
  refine s_callV rfl (rkey_s (xs := m.lo) (by exact rby)) ?_
  have e0 : (decide (1 ≤ m.lo.length) && decide ((m.lo.length : Int) ≤ size / 16)) = keyB size m.lo := rfl
  rw [e0]
  unfold mayM
  simp only
  cases keyB size m.lo
  · refine sx ?_
    refine s_ret1 rfl rfl ⟨?_, rfl⟩
    simp
  refine sx ?_
  refine s_if rfl (fun t1 => ?_) (fun t1 => ?_)
  · rw [if_pos t1]
    refine sx ?_
    refine s_callV rfl (rnone_s (xs := m.hi)) ?_
    cases decide (m.hi.length = 0)
    · refine sx ?_
      exact s_ret1 rfl rfl ⟨rfl, rfl⟩
    refine sx ?_
    exact s_ret1 rfl rfl ⟨rfl, rfl⟩
  rw [if_neg t1]
  refine sx ?_
  refine s_if rfl (fun t2 => ?_) (fun t2 => ?_)
  · rw [if_pos t2]
    refine sx ?_
    refine s_callV rfl (rnone_s (xs := m.hi)) ?_
    cases decide (m.hi.length = 0)
    · refine sx ?_
      exact s_ret1 rfl rfl ⟨rfl, rfl⟩
    refine sx ?_
    refine s_callV rfl (rnone_s (xs := m.v)) ?_
    refine sx ?_
    exact s_ret1 rfl rfl ⟨rfl, rfl⟩
  rw [if_neg t2]
  refine sx ?_
  refine s_if rfl (fun t3 => ?_) (fun t3 => ?_)
  · rw [if_pos t3]
    refine sx ?_
    refine s_callV rfl (rkey_s (xs := m.hi) (by exact rby)) ?_
    have e1 : (decide (1 ≤ m.hi.length) && decide ((m.hi.length : Int) ≤ size / 16)) = keyB size m.hi := rfl
    rw [e1]
    refine sx ?_
    refine s_callV rfl (qless0_s (xs := m.lo) (ys := m.hi) (by exact rby) (by exact rby)) ?_
    cases keyB size m.hi
    · refine sx ?_
      exact s_ret1 rfl rfl ⟨rfl, rfl⟩
    cases decide (cmp m.lo m.hi < 0)
    · refine sx ?_
      exact s_ret1 rfl rfl ⟨rfl, rfl⟩
    refine sx ?_
    refine s_callV rfl (rnone_s (xs := m.v)) ?_
    refine sx ?_
    exact s_ret1 rfl rfl ⟨rfl, rfl⟩
  rw [if_neg t3]
  refine sx ?_
  exact s_ret1 rfl rfl ⟨rfl, rfl⟩
set_option maxHeartbeats 1000000 in
theorem rmcheck_s {size : Int} {a : Option Addr} {c : Nat} {ms : List Mg} (hx : RMs w0 H a c ms) : FnV Tryz.prog w0 H 88 #[.int .i64 size, .slice a ms.length c] (.int .i64 (chkM size (ms.map Mg.d))) := by
  have hsl := hx.sl
  refine fns_enter Tryz.func88 rfl rfl rfl ?_
  refine s_kn (Kn.sl hsl) fun l1 => ?_
  simp only [maxLen] at l1
  have stp : StopAt 1 := trivial
  refine sxs ?_
  clear stp
  refine s_cut (ι := Bool) (fun t => [(0, .int .i64 size), (1, .slice a ms.length c), (21, .bool t)]) (fun _ => H) (fun t => t = !sizedB size) ?_ ?_
  · refine sx ?_
    refine s_lifn rfl (fun t1 => ?_) (fun t1 => ?_)
    · refine sx ?_
      refine s_lifn rfl (fun t2 => ?_) (fun t2 => ?_)
      · refine sx ?_
        refine s_lifn rfl (fun t3 => ?_) (fun t3 => ?_)
        · refine sx ?_
          refine s_mid (!decide (size = 4096)) ?_
          simp [sizedB, t1, t2, t3]
        · refine sx ?_
          refine s_mid false ?_
          simp [sizedB, t3]
      · refine sx ?_
        refine s_mid false ?_
        simp [sizedB, t2]
    · refine sx ?_
      refine s_mid false ?_
      simp [sizedB, t1]
  rintro _ rfl
  unfold chkM
  cases hs : sizedB size
  · refine sx ?_
    exact s_ret1 rfl rfl ⟨rfl, rfl⟩
  rw [if_pos rfl]
  refine sx ?_
  refine s_loop (fun i : Nat × Int => [(0, .int .i64 size), (1, .slice a ms.length c), (5, .int .u64 i.2), (6, .int .i64 i.1)]) (fun _ => H) (fun i => i.1 ≤ ms.length ∧ chkG size 0 (ms.map Mg.d) = chkG size i.2 ((ms.map Mg.d).drop i.1)) (fun i => ms.length - i.1) (0, 0) ⟨Nat.zero_le _, by simp⟩ ?_
  rintro ⟨i, last⟩ ⟨hi, he⟩
  simp only at hi he ⊢
  refine sx ?_
  refine s_if rfl (fun t1 => ?_) (fun t1 => ?_)
  · obtain ⟨m, hm⟩ := get_lt ms i (by omega)
    have hst := chkG_step (size := size) (last := last) (get_map (f := Mg.d) hm)
    rw [he, hst]
    refine sx ?_
    refine s_callV rfl (rmay_s (m := m) hs (by repeat (first | exact hx.el m (List.mem_of_getElem? hm) | apply RMg.tl))) ?_
    cases hmay : mayM size m.d
    · rw [if_pos rfl]
      refine sx ?_
      exact s_ret1 rfl rfl ⟨rfl, rfl⟩
    rw [if_neg (by decide)]
    refine sx ?_
    refine s_lif rfl (fun t2 => ?_) (fun t2 => ?_)
    · rw [if_pos (.inl t2)]
      refine sx ?_
      exact s_ret1 rfl rfl ⟨rfl, rfl⟩
    · refine sx ?_
      refine s_if rfl (fun t3 => ?_) (fun t3 => ?_)
      · rw [if_pos (.inr t3)]
        refine sx ?_
        exact s_ret1 rfl rfl ⟨rfl, rfl⟩
      · rw [if_neg (fun h => h.elim t2 t3)]
        refine sx ?_
        exact s_again (i + 1, m.st) ⟨by simp only; omega, rfl⟩ (by simp only; omega)
  · obtain rfl : i = ms.length := by omega
    rw [List.drop_of_length_le (by simp)] at he
    rw [he]
    refine sx ?_
    exact s_ret1 rfl rfl ⟨rfl, rfl⟩
theorem rmbytes_s {a : Option Addr} {c : Nat} {ms : List Mg} (hx : RSl w0 H a c ms) (hb : sumM (ms.map Mg.d) ≤ 4611686018427387904) : FnV Tryz.prog w0 H 89 #[.slice a ms.length c] (.int .i64 (bytesM (ms.map Mg.d) : Nat)) := by
  refine fns_enter Tryz.func89 rfl rfl rfl ?_
  refine s_kn (Kn.sl hx) fun l1 => ?_
  simp only [maxLen] at l1
  refine sx ?_
  refine s_loop (fun i : Nat => [(0, .slice a ms.length c), (3, .int .i64 (bytesM ((ms.map Mg.d).take i) : Nat)), (4, .int .i64 i)]) (fun _ => H) (fun i => i ≤ ms.length) (fun i => ms.length - i) 0 (Nat.zero_le _) ?_
  intro i hi
  refine sx ?_
  refine s_if rfl (fun t1 => ?_) (fun t1 => ?_)
  · obtain ⟨m, hm⟩ := get_lt ms i (by omega)
    have h1 := sumM_get (get_map (f := Mg.d) hm)
    have h2 := sumM_take (ms.map Mg.d) (i + 1)
    have e1 : bytesM ((ms.map Mg.d).take i) = 4 + sumM ((ms.map Mg.d).take i) := rfl
    have e2 : bytesM ((ms.map Mg.d).take (i + 1)) = 4 + sumM ((ms.map Mg.d).take (i + 1)) := rfl
    have e3 : lenM m.d = 13 + m.lo.length + m.hi.length + m.v.length := rfl
    refine sx ?_; refine s_dr (.one true 0 (.one true 1 (.one true 2 (.one true 3 (.one true 4 (.one true 5 (.one true 6 (.one true 7 (.one true 8 (.one true 9 (.one true 10 (.one true 11 (.one true 12 (.one true 13 (.one true 14 (.one true 15 (.one true 16 (.one true 17 (.one true 18 (.one true 19 (.one true 20 (.one true 21 (.one true 22 (.one true 23 .nil)))))))))))))))))))))))) mixed (by kernel_rfl) ?_; refine sx ?_
    exact s_again (i + 1) (by omega) (by omega)
  · obtain rfl : i = ms.length := by omega
    have e : (ms.map Mg.d).take ms.length = ms.map Mg.d := List.take_of_length_le (by simp)
    rw [e]
    refine sx ?_
    exact s_ret1 rfl rfl ⟨rfl, rfl⟩
end Go.Sx

