/- Which nodes may be, by the document. -/
import Derived.Test.YtkcabddbeclokaaGreatCVA
namespace Go.Sx
open Go Go.Proofs
set_option maxRecDepth 10000
variable {w0 : World} {H : List Ck}
theorem over_s {k : Kd} {m : Mg} (hk : RKd w0 H k) (hm : RMg w0 H m) : FnV Tryz.prog w0 H 91 #[.agg k.cells.toArray, .agg m.cells.toArray] (.bool (!withN k.keys m.d)) := by
  refine fns_enter Tryz.func91 rfl rfl rfl ?_
  have hks := hk.ks
  have hhi := hm.hi
  have hlo := hm.lo
  have hle := chl_le k.keys m.lo
  rw [List.length_map] at hle
  have hlen : k.keys.length = k.ks.length := List.length_map _
  refine sx ?_
  refine s_boxA rfl fun b2 => ?_
  refine sx ?_
  refine s_boxA rfl fun b3 => ?_
  refine sx ?_
  refine s_callV rfl (rchild_s (k := k) (key := m.lo) (by exact rkd) (by exact rby)) ?_
  unfold withN
  rw [hlen]
  refine sx ?_
  by_cases t2 : chl k.keys m.lo = k.ks.length
  · rw [decide_eq_true (show chl k.keys m.d.lo = k.ks.length from t2), Bool.or_true, Bool.true_or]
    refine sx ?_; refine s_dr (.one true 0 (.one true 1 (.one true 2 (.one true 3 (.one true 4 (.one true 5 (.one true 6 (.one true 7 (.one true 8 (.one true 9 (.one true 10 (.one true 11 (.one true 12 (.one true 13 (.one true 14 (.one true 15 (.one true 16 (.one true 17 (.one true 18 (.one true 19 (.one true 20 (.one true 21 (.one true 22 .nil))))))))))))))))))))))) mixed (by kernel_rfl) ?_; refine sx ?_
    refine s_lif rfl (fun t1 => ?_) (fun t1 => ?_)
    · refine sx ?_
      refine s_lif rfl (fun t3 => by exfalso; omega) (fun t3 => ?_)
      refine sx ?_
      exact s_ret1 rfl rfl ⟨rfl, rfl⟩
    · refine sx ?_
      exact s_ret1 rfl rfl ⟨rfl, rfl⟩
  rw [decide_eq_false (show ¬ chl k.keys m.d.lo = k.ks.length from t2), Bool.or_false]
  obtain ⟨p, hp⟩ := get_lt k.ks (chl k.keys m.lo) (by omega)
  have hpe := hk.el p (List.mem_of_getElem? hp)
  have e : k.keys.getD (chl k.keys m.lo) [] = p.xs := by rw [List.getD_eq_getElem?_getD, List.getElem?_map, hp]; rfl
  refine sx ?_; refine s_dr (.one true 0 (.one true 1 (.one true 2 (.one true 3 (.one true 4 (.one true 5 (.one true 6 (.one true 7 (.one true 8 (.one true 9 (.one true 10 (.one true 11 (.one true 12 (.one true 13 (.one true 14 (.one true 15 (.one true 16 (.one true 17 (.one true 18 (.one true 19 (.one true 20 (.one true 21 (.one true 22 .nil))))))))))))))))))))))) mixed (by kernel_rfl) ?_; refine sx ?_
  refine s_lif rfl (fun t1 => ?_) (fun t1 => ?_)
  · have t1' : m.d.kd = 3 := t1
    rw [decide_eq_false (show ¬ m.d.kd ≠ 3 from fun h => h t1'), Bool.false_or]
    refine sx ?_
    refine s_lif rfl (fun t3 => ?_) (fun t3 => by exfalso; omega)
    refine sx ?_
    refine s_ret1 rfl rfl ⟨?_, rfl⟩
    simp only [e, ← decide_not]
    refine congrArg Value.bool (decide_eq_decide.2 (by omega))
  · rw [decide_eq_true (show m.d.kd ≠ 3 from t1)]
    refine sx ?_
    exact s_ret1 rfl rfl ⟨rfl, rfl⟩
/-- A part of a list of messages. -/
theorem RMs.part {a : Option Addr} {c i j : Nat} {ms : List Mg} (h : RMs w0 H a c ms) (hi : i ≤ j) (hj : j ≤ ms.length) : RMs w0 H (Sx.sl a c i 5) (c - i) ((ms.drop i).take (j - i)) :=
  ⟨(h.sl.drop (by omega)).take (by rw [List.length_drop]; omega), fun m hm => h.el m (List.mem_of_mem_drop (List.mem_of_mem_take hm))⟩
theorem part_one {ms : List Mg} {i : Nat} {m : Mg} (h : ms[i]? = some m) : (ms.drop i).take 1 = [m] := by rw [dropC h]; rfl
theorem part_two {ms : List Mg} {i : Nat} {p m : Mg} (hp : ms[i]? = some p) (h : ms[i + 1]? = some m) : (ms.drop i).take 2 = [p, m] := by rw [dropC hp, List.take_succ_cons, dropC h]; rfl
set_option maxHeartbeats 1000000 in
theorem message_s {n : Nd} {size : Int} {i : Nat} {m : Mg} (hn : RNd w0 H n) (hm : n.ms[i]? = some m) : FnV Tryz.prog w0 H 77 #[.int .i64 size, .agg n.cells.toArray, .int .i64 (i : Int)] (.int .i64 (oneN size n.k.keys (prevM n.md i) m.d)) := by
  refine fns_enter Tryz.func77 rfl rfl rfl ?_
  have hsl := hn.ms.sl
  have hk := hn.k
  have hil := (List.getElem?_eq_some_iff.1 hm).1
  have hrm := hn.ms.el m (List.mem_of_getElem? hm)
  have hlo := hrm.lo
  refine s_kn (Kn.sl hsl) fun l1 => ?_
  simp only [maxLen] at l1
  refine sx ?_
  refine s_boxA rfl fun b4 => ?_
  refine sx ?_
  refine s_rw (t := 16) (v' := .int .i64 ((i + 1 : Nat) : Int)) rfl (ci (by omega)) ?_
  refine sx ?_
  refine s_rw (t := 17) (v' := .slice (Sx.sl n.ma n.mc i 5) ([m] : List Mg).length (n.mc - i)) rfl (by simp) ?_
  have hr1 := hn.ms.part (i := i) (j := i + 1) (by omega) (by omega)
  rw [Nat.add_sub_cancel_left, part_one hm] at hr1
  refine s_callV rfl (rmcheck_s (ms := [m]) hr1.tl) ?_
  refine sx ?_
  unfold oneN
  have em : List.map Mg.d [m] = [m.d] := rfl
  rw [em]
  refine s_ifn rfl (fun t1 => ?_) (fun t1 => ?_)
  · rw [if_pos t1]
    refine sx ?_
    exact s_ret1 rfl rfl ⟨rfl, rfl⟩
  rw [if_neg (fun h => h t1)]
  refine sx ?_
  refine sx ?_; refine s_dr (.one true 0 (.one true 1 (.one true 2 (.one true 3 (.one true 4 (.one true 5 (.one true 6 (.one false 7 (.one true 8 .nil))))))))) mixed (by kernel_rfl) ?_; refine sx ?_
  refine s_callV rfl (over_s (k := n.k) (m := m) (by exact rkd) (by exact rmg)) ?_
  cases hw : withN n.k.keys m.d
  · rw [if_pos rfl]
    refine sx ?_
    exact s_ret1 rfl rfl ⟨rfl, rfl⟩
  rw [if_neg (by decide)]
  refine sx ?_
  refine s_if rfl (fun t2 => ?_) (fun t2 => ?_)
  · obtain rfl : i = 0 := by omega
    have hp : prevM n.md 0 = none := rfl
    rw [hp]
    refine sx ?_
    exact s_ret1 rfl rfl ⟨rfl, rfl⟩
  obtain ⟨j, rfl⟩ : ∃ j, i = j + 1 := ⟨i - 1, by omega⟩
  obtain ⟨p, hp⟩ := get_lt n.ms j (by omega)
  have hrp := hn.ms.el p (List.mem_of_getElem? hp)
  have hpl := hrp.lo
  have hpr : prevM n.md (j + 1) = some p.d := get_map (f := Mg.d) hp
  rw [hpr]
  simp only
  refine sx ?_
  refine sx ?_; refine s_dr (.one true 0 (.one true 1 (.one true 2 (.one true 3 (.one true 4 (.one true 5 (.one true 6 (.one true 7 (.one true 8 (.one false 9 (.one true 10 .nil))))))))))) mixed (by kernel_rfl) ?_; refine sx ?_
  refine s_rw (t := 38) (v' := .int .i64 ((j : Nat) : Int)) rfl (ci (by omega)) ?_
  refine sx ?_
  refine s_callV rfl (rchild_s (k := n.k) (key := p.lo) (by exact rkd) (by exact rby)) ?_
  refine sx ?_
  refine sx ?_; refine s_dr (.one true 0 (.one true 1 (.one true 2 (.one true 3 (.one true 4 (.one true 5 (.one true 6 (.one true 7 (.one false 8 (.one true 9 .nil)))))))))) mixed (by kernel_rfl) ?_; refine sx ?_
  refine s_callV rfl (rchild_s (k := n.k) (key := m.lo) (by exact rkd) (by exact rby)) ?_
  refine sx ?_
  unfold behN
  refine s_lif rfl (fun t3 => ?_) (fun t3 => ?_)
  · rw [decide_eq_false (show ¬ chl n.k.keys p.d.lo < chl n.k.keys m.d.lo by simp only; omega), decide_eq_false (show ¬ chl n.k.keys p.d.lo = chl n.k.keys m.d.lo by simp only; omega), Bool.false_and, Bool.false_or, if_pos rfl]
    refine sx ?_
    exact s_ret1 rfl rfl ⟨rfl, rfl⟩
  refine sx ?_
  refine s_lif rfl (fun t4 => ?_) (fun t4 => ?_)
  · rw [decide_eq_false (show ¬ chl n.k.keys p.d.lo < chl n.k.keys m.d.lo by simp only; omega), decide_eq_true (show chl n.k.keys p.d.lo = chl n.k.keys m.d.lo by simp only; omega), Bool.true_and, Bool.false_or]
    refine sx ?_
    refine s_rw (t := 64) (v' := .int .i64 ((j : Nat) : Int)) rfl (ci (by omega)) ?_
    refine sx ?_
    refine s_rw (t := 66) (v' := .int .i64 ((j + 2 : Nat) : Int)) rfl (ci (by omega)) ?_
    refine sx ?_
    refine s_rw (t := 67) (v' := .slice (Sx.sl n.ma n.mc j 5) ([p, m] : List Mg).length (n.mc - j)) rfl (by simp) ?_
    have hr2 := hn.ms.part (i := j) (j := j + 2) (by omega) (by omega)
    rw [Nat.add_sub_cancel_left, part_two hp hm] at hr2
    refine s_callV rfl (rmcheck_s (ms := [p, m]) hr2.tl) ?_
    have em2 : List.map Mg.d [p, m] = [p.d, m.d] := rfl
    rw [em2]
    refine sx ?_
    refine s_ifn rfl (fun t5 => ?_) (fun t5 => ?_)
    · rw [decide_eq_false (show ¬ chkM size [p.d, m.d] = 0 from t5), if_pos rfl]
      refine sx ?_
      exact s_ret1 rfl rfl ⟨rfl, rfl⟩
    · rw [decide_eq_true (show chkM size [p.d, m.d] = 0 from t5), if_neg (by decide)]
      refine sx ?_
      exact s_ret1 rfl rfl ⟨rfl, rfl⟩
  · rw [decide_eq_true (show chl n.k.keys p.d.lo < chl n.k.keys m.d.lo by simp only; omega), Bool.true_or, if_neg (by decide)]
    refine sx ?_
    exact s_ret1 rfl rfl ⟨rfl, rfl⟩
theorem messages_s {n : Nd} {size : Int} (hn : RNd w0 H n) : FnV Tryz.prog w0 H 51 #[.int .i64 size, .agg n.cells.toArray] (.int .i64 (mayN size n.k.keys n.md)) := by
  refine fns_enter Tryz.func51 rfl rfl rfl ?_
  have hsl := hn.ms.sl
  refine s_kn (Kn.sl hsl) fun l1 => ?_
  simp only [maxLen] at l1
  refine sx ?_
  refine s_boxA rfl fun b3 => ?_
  refine sx ?_
  unfold mayN
  refine s_loop (fun i : Nat => [(0, .int .i64 size), (3, .pointer (some ⟨b3, 0, none⟩)), (5, .int .i64 i)]) (fun _ => .hb b3 28 n.cells :: H) (fun i => i ≤ n.ms.length ∧ mayG size n.k.keys none n.md = mayG size n.k.keys (prevM n.md i) (n.md.drop i)) (fun i => n.ms.length - i) 0 ⟨Nat.zero_le _, by simp [prevM]⟩ ?_
  rintro i ⟨hi, he⟩
  refine sx ?_
  refine s_if rfl (fun t1 => ?_) (fun t1 => ?_)
  · obtain ⟨m, hm⟩ := get_lt n.ms i (by omega)
    have hst := mayG_step (size := size) (ks := n.k.keys) (get_map (f := Mg.d) hm)
    rw [he, hst]
    refine sx ?_
    refine s_callV rfl (message_s (n := n) (by exact rnd) hm) ?_
    refine sx ?_
    refine s_ifn rfl (fun t2 => ?_) (fun t2 => ?_)
    · rw [if_pos t2]
      refine sx ?_
      exact s_ret1 rfl rfl ⟨rfl, rfl⟩
    · rw [if_neg (fun h => h t2)]
      refine sx ?_
      exact s_again (i + 1) ⟨by omega, rfl⟩ (by omega)
  · obtain rfl : i = n.ms.length := by omega
    rw [List.drop_of_length_le (by simp)] at he
    rw [he]
    refine sx ?_
    exact s_ret1 rfl rfl ⟨rfl, rfl⟩
/-- What is wrong with a node, however many bytes it has. -/
def shpN (size : Int) (d : List Int × List Bs) (ms : List MD) : Int := if chkK size d ≠ 0 ∧ chkK size d ≠ 64 then chkK size d else mayN size d.2 ms
theorem rnsized_s {size : Int} : FnV Tryz.prog w0 H 49 #[.int .i64 size] (.bool (sizedB size)) := by
  refine fns_enter Tryz.func49 rfl rfl rfl ?_
  unfold sizedB
  refine sx ?_
  refine s_lif rfl (fun t1 => ?_) (fun t1 => ?_)
  · refine sx ?_
    refine s_ret1 rfl rfl ⟨?_, rfl⟩
    rw [decide_eq_true t1, Bool.true_or, Bool.true_or, Bool.true_or]
  rw [decide_eq_false t1, Bool.false_or]
  refine sx ?_
  refine s_lif rfl (fun t2 => ?_) (fun t2 => ?_)
  · refine sx ?_
    refine s_ret1 rfl rfl ⟨?_, rfl⟩
    rw [decide_eq_true t2, Bool.true_or, Bool.true_or]
  rw [decide_eq_false t2, Bool.false_or]
  refine sx ?_
  refine s_lif rfl (fun t3 => ?_) (fun t3 => ?_)
  · refine sx ?_
    refine s_ret1 rfl rfl ⟨?_, rfl⟩
    rw [decide_eq_true t3, Bool.true_or]
  rw [decide_eq_false t3, Bool.false_or]
  refine sx ?_
  exact s_ret1 rfl rfl ⟨rfl, rfl⟩
theorem rnbytes_s {n : Nd} (hn : RNd w0 H n) (hb : bytesK n.k.d + sumM n.md ≤ 2305843009213693952) : FnV Tryz.prog w0 H 53 #[.agg n.cells.toArray] (.int .i64 ((bytesK n.k.d + bytesM n.md : Nat) : Int)) := by
  refine fns_enter Tryz.func53 rfl rfl rfl ?_
  have hk := hn.k
  have hm := hn.ms.sl
  refine sx ?_
  refine s_boxA rfl fun b1 => ?_
  have e : bytesM (List.map Mg.d n.ms) = 4 + sumM (List.map Mg.d n.ms) := rfl
  have e2 : bytesK n.k.d + sumM (List.map Mg.d n.ms) ≤ 2305843009213693952 := hb
  refine sx ?_; refine s_dr (.one true 0 (.one true 1 (.one true 3 (.one true 4 (.one false 2 (.one false 5 (.one true 6 (.one true 7 .nil)))))))) mixed (by kernel_rfl) ?_; refine sx ?_
  refine s_callV rfl (rbytes_s (k := n.k) (by exact rkd) (by omega)) ?_
  refine sx ?_
  refine s_callV rfl (rmbytes_s (ms := n.ms) (by exact rsl) (by omega)) ?_
  refine sx ?_
  exact s_ret1 rfl rfl ⟨ci (Int.natCast_add _ _).symm, rfl⟩
set_option maxHeartbeats 1000000 in
theorem rncheck_s {n : Nd} {size : Int} (hn : RNd w0 H n) (hm : n.k.ps.length * 8 ≤ 140737488355328) (hb : sumM n.md ≤ 1099511627776) : FnV Tryz.prog w0 H 22 #[.int .i64 size, .agg n.cells.toArray] (.int .i64 (chkN size n.k.d n.md)) := by
  refine fns_enter Tryz.func22 rfl rfl rfl ?_
  have hk := hn.k
  refine sx ?_
  refine s_boxA rfl fun b3 => ?_
  refine sx ?_
  refine s_callV rfl rnsized_s ?_
  unfold chkN
  cases hs : sizedB size
  · have h1 := chkK_1 (d := n.k.d) hs
    rw [h1, if_pos (by decide)]
    refine sx ?_
    exact s_ret1 rfl rfl ⟨rfl, rfl⟩
  refine sx ?_
  refine s_callV rfl (rcheck_s (k := n.k) (size := size) (by exact rkd) hm) ?_
  refine sx ?_
  refine s_ifn rfl (fun t1 => ?_) (fun t1 => ?_)
  · rw [if_pos t1]
    refine sx ?_
    exact s_ret1 rfl rfl ⟨rfl, rfl⟩
  rw [if_neg (fun h => h t1)]
  obtain ⟨g1, g2, g3, g4, g5⟩ := chkK_0 t1
  have hsz := sizedB_bd g1
  refine sx ?_
  refine s_callV rfl (rbytes_s (k := n.k) (by exact rkd) (by omega)) ?_
  refine sx ?_
  refine s_if rfl (fun t2 => ?_) (fun t2 => ?_)
  · rw [if_pos t2]
    refine sx ?_
    exact s_ret1 rfl rfl ⟨rfl, rfl⟩
  rw [if_neg t2]
  refine sx ?_
  refine s_callV rfl (messages_s (n := n) (by exact rnd)) ?_
  refine sx ?_
  refine s_ifn rfl (fun t3 => ?_) (fun t3 => ?_)
  · rw [if_pos t3]
    refine sx ?_
    exact s_ret1 rfl rfl ⟨rfl, rfl⟩
  rw [if_neg (fun h => h t3)]
  refine sx ?_
  refine s_callV rfl (rnbytes_s (n := n) (by exact rnd) (by omega)) ?_
  refine sx ?_
  refine s_if rfl (fun t4 => ?_) (fun t4 => ?_)
  · rw [if_pos t4]
    refine sx ?_
    exact s_ret1 rfl rfl ⟨rfl, rfl⟩
  rw [if_neg t4]
  refine sx ?_
  exact s_ret1 rfl rfl ⟨rfl, rfl⟩
end Go.Sx
